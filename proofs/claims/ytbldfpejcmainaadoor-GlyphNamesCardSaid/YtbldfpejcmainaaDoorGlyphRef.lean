/- What the reference's functions on glyphs come to: plain. -/
import Derived.Test.YtbldfpejcmainaaDoorGlyphFns
namespace Go.Proofs.YtbldfpejcmainaaDoor
open Go.RowKit Go.Proofs.YtbldfpejcmainaaDoorW.PrintWords Go.Proofs.YtbldfpejcmainaaDoor.GA
theorem bt_mk (l : List UInt8) (i : Nat) (hi : i < l.length) : bt (mk l) (i : Int) = ((l[i]).toNat : Int) := by
  unfold bt
  rw [dif_pos (by rw [Int.toNat_natCast, mk_size]; exact hi)]
  rfl
theorem bt_at (a : List UInt8) (b : UInt8) (c : List UInt8) : bt (mk (a ++ b :: c)) (a.length : Int) = (b.toNat : Int) := by
  rw [bt_mk _ _ (by simp)]
  simp
theorem byte_ne {b c : UInt8} (h : b ≠ c) : ¬ (b.toNat : Int) = (c.toNat : Int) := fun e => h (UInt8.toNat_inj.1 (Int.ofNat_inj.1 e))
theorem w64n (n : Nat) (h : n < 9223372036854775807) : wrap64 ((n : Int) + 1) = ((n + 1 : Nat) : Int) := by rw [w64 (by omega) (by omega)]; omega
theorem extract_mk (l : List UInt8) (i j : Nat) : (mk l).extract i j = mk ((l.drop i).take (j - i)) := data_inj (by rw [Lib.extract_data, mk_list, mk_list])
theorem digit_lift {a : Int} {r : Int × Bool} {k0 : Nat} (h : hornbookref01_Digit.f k0 a = some r) : ∀ k, hornbookref01_Digit.f (k0 + k) a = some r
  | 0 => h
  | k + 1 => hornbookref01_Digit.mono _ (k0 + k) _ (digit_lift h k)
theorem digit_all : (List.range 16).all (fun n => decide (hornbookref01_Digit.f 20 (if n < 10 then 48 + n else 55 + n) = some ((n : Int), true))) = true := by kernel_rfl
theorem digit_f (k : Nat) (b : UInt8) (d : Int) (h : GL.hexv b = some d) : hornbookref01_Digit.f (20 + k) (b.toNat : Int) = some (d, true) := by
  have hh := hexv_some h
  obtain ⟨n, hn, rfl, hb⟩ : ∃ n : Nat, n < 16 ∧ d = (n : Int) ∧ (b.toNat : Int) = if n < 10 then 48 + (n : Int) else 55 + n := by
    rcases hh with ⟨h1, h2, h3⟩ | ⟨h1, h2, h3⟩
    · exact ⟨b.toNat - 48, by omega, by omega, by rw [if_pos (by omega)]; omega⟩
    · exact ⟨b.toNat - 55, by omega, by omega, by rw [if_neg (by omega)]; omega⟩
  have := of_decide_eq_true (List.all_eq_true.1 digit_all n (by simpa using hn))
  rw [hb]
  exact digit_lift this k
theorem value_l0 (l : List UInt8) (hl : l.length ≤ 7) (r : Int) (k : Nat) : ∀ (n i : Nat) (v : Int), i + n = l.length → 0 ≤ v → v < 16 ^ i → GL.hexs v (l.drop i) = some r → hornbookref14_value.l0 (n + 1 + 20 + k) (mk l) v i = some r
  | 0, i, v, hi, h0, h1, h => by
    have e : l.drop i = [] := List.drop_eq_nil_of_le (by omega)
    rw [e] at h
    rw [show 0 + 1 + 20 + k = (20 + k) + 1 by omega, hornbookref14_value.l0, if_neg (by rw [mk_size]; omega)]
    exact h
  | n + 1, i, v, hi, h0, h1, h => by
    have hlt : i < l.length := by omega
    rw [List.drop_eq_getElem_cons hlt] at h
    unfold GL.hexs at h
    obtain ⟨d, hd, h⟩ := Option.bind_eq_some_iff.1 h
    have hb := bt_mk l i hlt
    generalize l[i] = b at hd hb
    have hdd := hexv_some hd
    have hp : (16 : Int) ^ i ≤ 16 ^ 6 := by
      have := Nat.pow_le_pow_right (show 0 < 16 by decide) (show i ≤ 6 by omega)
      exact_mod_cast this
    have hp6 : (16 : Int) ^ 6 = 16777216 := by decide
    have hps : (16 : Int) ^ (i + 1) = 16 ^ i * 16 := by rw [Int.pow_succ]
    have hbl : b.toNat < 256 := b.toNat_lt
    have ih := value_l0 l hl r k n (i + 1) (v * 16 + d) (by omega) (by omega) (by omega) h
    rw [show n + 1 + 1 + 20 + k = (n + 1 + 20 + k) + 1 by omega, hornbookref14_value.l0, if_pos (by rw [mk_size]; omega), if_pos (by omega), hb, w64 (x := (b.toNat : Int)) (by omega) (by omega),
      show n + 1 + 20 + k = 20 + (n + 1 + k) by omega, digit_f _ b d hd, Option.bind_some, w64 (x := v * 16) (by omega) (by omega), w64 (x := v * 16 + d) (by omega) (by omega), w64n i (by omega), ← ih]
    rw [show 20 + (n + 1 + k) = n + 1 + 20 + k by omega]
theorem value_f (l : List UInt8) (v : Int) (h : GL.hexn l = some v) (k : Nat) : hornbookref14_value.f (28 + k) (mk l) = some v := by
  unfold GL.hexn at h
  split at h
  · rename_i hl
    have := value_l0 l hl.2 v (7 - l.length + k) l.length 0 0 (by omega) (by omega) (by decide) h
    unfold hornbookref14_value.f
    rw [show 28 + k = l.length + 1 + 20 + (7 - l.length + k) by omega]
    exact this
  · cases h
theorem values_l0 (k : Nat) : ∀ (rest pre cur : List UInt8) (acc vs : List Int) (l : List UInt8), l = pre ++ cur ++ rest → l.length ≤ 1000 → acc.length + rest.length ≤ 1000 → (GL.cuts cur rest).mapM GL.hexn = some vs →
    hornbookref14_values.l0 (rest.length + 40 + k) (mk l) acc pre.length ((pre.length + cur.length : Nat) : Int) = some (acc ++ vs)
  | [], pre, cur, acc, vs, l, hl, h1000, hacc, h => by
    have hsz : l.length = pre.length + cur.length := by rw [hl]; simp
    simp only [GL.cuts, List.mapM_cons, List.mapM_nil] at h
    obtain ⟨v, hv, h⟩ := Option.bind_eq_some_iff.1 h
    obtain rfl : [v] = vs := by simpa using h
    have hx : (mk l).extract pre.length (pre.length + cur.length) = mk cur := by
      rw [extract_mk]
      congr 1
      rw [hl, List.append_nil, List.drop_left, Nat.add_sub_cancel_left, List.take_length]
    rw [show ([] : List UInt8).length + 40 + k = (38 + k + 1) + 1 by simp; omega, hornbookref14_values.l0, if_pos (by rw [mk_size]; omega), if_pos (by rw [mk_size]; omega), if_pos (by omega), if_pos (by omega), Int.toNat_natCast, Int.toNat_natCast, hx,
      show 38 + k + 1 = 28 + (11 + k) by omega, value_f cur v hv, Option.bind_some, if_pos (by omega), w64n _ (by omega), show 28 + (11 + k) = (38 + k) + 1 by omega, hornbookref14_values.l0, if_neg (by rw [mk_size]; omega)]
  | b :: rest, pre, cur, acc, vs, l, hl, h1000, hacc, h => by
    have hsz : l.length = pre.length + cur.length + rest.length + 1 := by rw [hl]; simp; omega
    have hb : bt (mk l) ((pre.length + cur.length : Nat) : Int) = (b.toNat : Int) := by
      have := bt_at (pre ++ cur) b rest
      rw [List.length_append, ← hl] at this
      exact this
    rw [show (b :: rest).length + 40 + k = (rest.length + 40 + k) + 1 by simp; omega, hornbookref14_values.l0, if_pos (by rw [mk_size]; omega), if_neg (by rw [mk_size]; omega), if_pos (by omega), if_pos (by rw [mk_size]; omega), hb]
    by_cases h44 : b = 44
    · subst h44
      simp only [GL.cuts, if_true, List.mapM_cons] at h
      obtain ⟨v, hv, h⟩ := Option.bind_eq_some_iff.1 h
      obtain ⟨vs', hvs, h⟩ := Option.bind_eq_some_iff.1 h
      obtain rfl : v :: vs' = vs := by simpa using h
      have ih := values_l0 k rest (pre ++ cur ++ [44]) [] (acc ++ [v]) vs' l (by rw [hl]; simp) h1000 (by simp only [List.length_append, List.length_cons, List.length_nil] at *; omega) hvs
      have hx : (mk l).extract pre.length (pre.length + cur.length) = mk cur := by
        rw [extract_mk]
        congr 1
        rw [hl, List.append_assoc, List.drop_left, Nat.add_sub_cancel_left, List.take_left]
      have e44 : ((44 : UInt8).toNat : Int) = 44 := rfl
      rw [if_pos e44, if_pos (by omega), if_pos (by omega), Int.toNat_natCast, Int.toNat_natCast, hx, show rest.length + 40 + k = 28 + (rest.length + 12 + k) by omega, value_f cur v hv, Option.bind_some,
        if_pos (by simp only [List.length_cons] at hacc; omega), w64n _ (by omega), show 28 + (rest.length + 12 + k) = rest.length + 40 + k by omega]
      simp only [List.length_append, List.length_cons, List.length_nil, Nat.add_zero, Nat.zero_add, List.append_assoc, List.cons_append, List.nil_append] at ih
      exact ih
    · have e44 : ¬ (b.toNat : Int) = 44 := byte_ne (c := 44) h44
      simp only [GL.cuts, if_neg h44] at h
      have ih := values_l0 k rest pre (cur ++ [b]) acc vs l (by rw [hl]; simp) h1000 (by simp only [List.length_cons] at hacc; omega) h
      rw [if_neg e44, w64n _ (by omega)]
      rw [List.length_append, List.length_singleton, ← Nat.add_assoc] at ih
      exact ih
theorem values_f (l : List UInt8) (vs : List Int) (h : GL.vals l = some vs) (k : Nat) : hornbookref14_values.f (l.length + 40 + k) (mk l) = some vs := by
  unfold GL.vals at h
  split at h
  · rename_i h1
    have := values_l0 k l [] [] [] vs l (by simp) h1 (by simpa using h1) h
    exact this
  · cases h
theorem refB_mk : GL.refB = mk GL.refL := rfl
theorem e61 : ((61 : UInt8).toNat : Int) = 61 := rfl
theorem e32 : ((32 : UInt8).toNat : Int) = 32 := rfl
theorem ne61 {b : UInt8} (h : b ≠ 61) : ¬ (b.toNat : Int) = 61 := byte_ne (c := 61) h
theorem ne32 {b : UInt8} (h : b ≠ 32) : ¬ (b.toNat : Int) = 32 := byte_ne (c := 32) h
/-- Bytes that are neither '=' nor a space are passed by. -/
theorem uni_run (x0 : ByteArray) (k : Nat) (x5 x6 : Int) (l c : List UInt8) (hl5 : l.length < 100000) : ∀ (w a : List UInt8), l = a ++ w ++ c → (∀ b ∈ w, b ≠ 32 ∧ b ≠ 61) →
    hornbookref14_Uni.l0 (2 * w.length + k) x0 (mk l) x5 x6 (a.length : Int) = hornbookref14_Uni.l0 k x0 (mk l) x5 x6 ((a.length + w.length : Nat) : Int)
  | [], a, _, _ => by simp
  | b :: w, a, hl, h => by
    have hsz : l.length = a.length + (w.length + 1) + c.length := by rw [hl]; simp; omega
    have hb : bt (mk l) (a.length : Int) = (b.toNat : Int) := by
      rw [hl, List.append_assoc, List.cons_append]
      exact bt_at a b (w ++ c)
    have hb2 := h b (by simp)
    have ih := uni_run x0 k x5 x6 l c hl5 w (a ++ [b]) (by rw [hl]; simp) (fun b hb => h b (by simp [hb]))
    rw [show 2 * (b :: w).length + k = (2 * w.length + k + 1) + 1 by simp; omega, hornbookref14_Uni.l0, if_pos (by rw [mk_size]; omega), if_pos (by omega), hb, if_neg (ne61 hb2.2),
      hornbookref14_Uni.j1, if_pos (by omega), if_pos (by rw [mk_size]; omega), hb, if_neg (ne32 hb2.1), w64n _ (by omega)]
    rw [List.length_append, List.length_singleton] at ih
    rw [ih, List.length_cons]
    congr 2
    omega
theorem uni_eq (x0 : ByteArray) (k : Nat) (x5 x6 : Int) (a c : List UInt8) (hl5 : (a ++ 61 :: c).length < 100000) :
    hornbookref14_Uni.l0 (k + 2) x0 (mk (a ++ 61 :: c)) x5 x6 (a.length : Int) = hornbookref14_Uni.l0 k x0 (mk (a ++ 61 :: c)) x5 (a.length : Int) ((a.length + 1 : Nat) : Int) := by
  have hb := bt_at a 61 c
  have hsz : (mk (a ++ 61 :: c)).size = a.length + (c.length + 1) := by rw [mk_size]; simp
  rw [List.length_append, List.length_cons] at hl5
  rw [hornbookref14_Uni.l0, if_pos (by omega), if_pos (by omega), hb, if_pos e61, hornbookref14_Uni.j1, if_pos (by omega), if_pos (by omega), hb, if_neg (ne32 (by decide)), w64n _ (by omega)]
theorem word_take (a n d c : List UInt8) : (a ++ (n ++ 61 :: d) ++ 32 :: c).drop a.length = n ++ 61 :: d ++ 32 :: c := by rw [List.append_assoc, List.drop_left]
theorem uni_l0 (name : List UInt8) (k : Nat) : ∀ (rest don : List (List UInt8 × List UInt8)), GL.ents = don ++ rest → ∀ x6 : Int,
    hornbookref14_Uni.l0 (2 * (GL.rows rest).length + 300 + k) (mk name) (mk GL.refL) ((GL.rows don).length : Int) x6 ((GL.rows don).length : Int) = some (match rest.find? (fun e => decide (e.1 = name)) with
      | some e => (GL.us e, true)
      | none => ([], false))
  | [], don, h, x6 => by
    have hl : GL.refL = GL.rows don := by rw [GL.refL, h, List.append_nil]
    rw [hl, GL.rows_nil, show 2 * ([] : List UInt8).length + 300 + k = (299 + k) + 1 by simp; omega, hornbookref14_Uni.l0, if_neg (by rw [mk_size]; omega)]
    rfl
  | e :: rest, don, h, x6 => by
    have hm : e ∈ GL.ents := by rw [h]; simp
    have ok := GL.ok_name (GL.ents_ok e hm)
    have hwl := word_len e hm
    have hL := refL_len
    have hl : GL.refL = GL.rows don ++ (GL.word e ++ 32 :: GL.rows rest) := by rw [GL.refL, h, ← GL.rows_cons]; simp [GL.rows]
    have hrl : (GL.rows (e :: rest)).length = (GL.word e).length + 1 + (GL.rows rest).length := by rw [GL.rows_cons]; simp; omega
    have hwd : (GL.word e).length = e.1.length + 1 + e.2.length := by simp [GL.word]; omega
    have hsz : GL.refL.length = (GL.rows don).length + ((GL.word e).length + 1 + (GL.rows rest).length) := by rw [hl]; simp; omega
    generalize hA : GL.rows don = A at *
    -- the name
    have s1 := uni_run (mk name) (2 + (2 * e.2.length + (2 + (2 * (GL.rows rest).length + 300 + k)))) (A.length : Int) x6 GL.refL (61 :: (e.2 ++ 32 :: GL.rows rest)) (by omega) e.1 A (by rw [hl, GL.word]; simp) (fun b hb => ⟨(ok.2.1 b hb).1, (ok.2.1 b hb).2.1⟩)
    -- '='
    have hl2 : GL.refL = (A ++ e.1) ++ 61 :: (e.2 ++ 32 :: GL.rows rest) := by rw [hl, GL.word]; simp
    have s2 := uni_eq (mk name) (2 * e.2.length + (2 + (2 * (GL.rows rest).length + 300 + k))) (A.length : Int) x6 (A ++ e.1) (e.2 ++ 32 :: GL.rows rest) (by rw [← hl2]; omega)
    rw [← hl2] at s2
    -- the digits
    have s3 := uni_run (mk name) (2 + (2 * (GL.rows rest).length + 300 + k)) (A.length : Int) ((A ++ e.1).length : Int) GL.refL (32 :: GL.rows rest) (by omega) e.2 (A ++ e.1 ++ [61]) (by rw [hl2]; simp) (fun b hb => ⟨(ok.2.2.1 b hb).1, (ok.2.2.1 b hb).2.1⟩)
    have hlen1 : (A ++ e.1).length = A.length + e.1.length := List.length_append
    have hlen2 : (A ++ e.1 ++ [61]).length = A.length + e.1.length + 1 := by simp; omega
    rw [hlen1] at s2 s3
    rw [hlen2] at s3
    rw [show 2 * (GL.rows (e :: rest)).length + 300 + k = 2 * e.1.length + (2 + (2 * e.2.length + (2 + (2 * (GL.rows rest).length + 300 + k)))) by omega, s1, show 2 + (2 * e.2.length + (2 + (2 * (GL.rows rest).length + 300 + k))) = (2 * e.2.length + (2 + (2 * (GL.rows rest).length + 300 + k))) + 2 by omega, s2, s3]
    -- the space
    have hl3 : GL.refL = (A ++ GL.word e) ++ 32 :: GL.rows rest := by rw [hl]; simp
    have hb : bt (mk GL.refL) ((A.length + e.1.length + 1 + e.2.length : Nat) : Int) = 32 := by
      have := bt_at (A ++ GL.word e) 32 (GL.rows rest)
      rw [← hl3, List.length_append, hwd] at this
      rw [show A.length + e.1.length + 1 + e.2.length = A.length + (e.1.length + 1 + e.2.length) by omega, this]
      rfl
    have hx1 : (mk GL.refL).extract A.length (A.length + e.1.length) = mk e.1 := by
      rw [extract_mk]
      refine congrArg mk ?_
      rw [hl2, List.append_assoc, List.drop_left, Nat.add_sub_cancel_left, List.take_left]
    have hx2 : (mk GL.refL).extract (A.length + e.1.length + 1) (A.length + e.1.length + 1 + e.2.length) = mk e.2 := by
      rw [extract_mk]
      refine congrArg mk ?_
      have e1 : GL.refL = (A ++ e.1 ++ [61]) ++ (e.2 ++ 32 :: GL.rows rest) := by rw [hl2]; simp
      rw [e1, ← hlen2, List.drop_left, Nat.add_sub_cancel_left, List.take_left]
    rw [show 2 + (2 * (GL.rows rest).length + 300 + k) = (2 * (GL.rows rest).length + 300 + k + 1) + 1 by omega, hornbookref14_Uni.l0, if_pos (by rw [mk_size]; omega), if_pos (by omega), hb, if_neg (by decide), hornbookref14_Uni.j1,
      if_pos (by omega), if_pos (by rw [mk_size]; omega), hb, if_pos rfl, if_pos (by omega), if_pos (by omega), if_pos (by rw [mk_size]; omega), Int.toNat_natCast, Int.toNat_natCast, hx1]
    rw [Lib.toList_data, Lib.toList_data, mk_list, mk_list]
    by_cases hn : e.1 = name
    · rw [if_pos hn, w64n _ (by omega), if_pos (by omega), if_pos (by omega), if_pos (by rw [mk_size]; omega), Int.toNat_natCast, Int.toNat_natCast, hx2,
        show 2 * (GL.rows rest).length + 300 + k = e.2.length + 40 + (2 * (GL.rows rest).length + 260 - e.2.length + k) by omega, values_f e.2 _ ok.2.2.2, Option.bind_some, List.find?_cons_of_pos (by simpa using hn)]
    · have ih := uni_l0 name k rest (don ++ [e]) (by rw [h]; simp) ((A.length + e.1.length : Nat) : Int)
      have hdl : (GL.rows (don ++ [e])).length = A.length + e.1.length + 1 + e.2.length + 1 := by
        have : GL.rows (don ++ [e]) = A ++ (GL.word e ++ [32]) := by rw [← hA]; simp [GL.rows, GL.row, GL.word]
        rw [this]; simp [hwd]; omega
      rw [hdl] at ih
      rw [if_neg hn, w64n _ (by omega), ih, List.find?_cons_of_neg (by simpa using hn)]
theorem ref_uni_f (a : ByteArray) (k : Nat) : hornbookref14_Uni.f (8942 + k) a = some (GL.uni a.data.toList) := by
  have h := uni_l0 a.data.toList k GL.ents [] rfl 0
  have hL : (GL.rows GL.ents).length = 4321 := refL_len
  rw [hL] at h
  unfold hornbookref14_Uni.f hornbookref14_list.f
  rw [Option.bind_some, refB_mk]
  rw [mk_of] at h
  refine h.trans ?_
  unfold GL.uni
  cases GL.ents.find? (fun e => decide (e.1 = a.data.toList)) <;> rfl
theorem all_run (k : Nat) (acc : List S46) (x3 x4 : Int) (l c : List UInt8) (hl5 : l.length < 100000) : ∀ (w a : List UInt8), l = a ++ w ++ c → (∀ b ∈ w, b ≠ 32 ∧ b ≠ 61) →
    hornbookref14_All.l0 (w.length + k) (mk l) acc x3 x4 (a.length : Int) = hornbookref14_All.l0 k (mk l) acc x3 x4 ((a.length + w.length : Nat) : Int)
  | [], a, _, _ => by simp
  | b :: w, a, hl, h => by
    have hsz : l.length = a.length + (w.length + 1) + c.length := by rw [hl]; simp; omega
    have hb : bt (mk l) (a.length : Int) = (b.toNat : Int) := by
      rw [hl, List.append_assoc, List.cons_append]
      exact bt_at a b (w ++ c)
    have hb2 := h b (by simp)
    have ih := all_run k acc x3 x4 l c hl5 w (a ++ [b]) (by rw [hl]; simp) (fun b hb => h b (by simp [hb]))
    rw [show (b :: w).length + k = (w.length + k) + 1 by simp; omega, hornbookref14_All.l0, if_pos (by rw [mk_size]; omega), if_pos (by omega), hb, if_neg (ne61 hb2.2), if_neg (ne32 hb2.1), w64n _ (by omega)]
    rw [List.length_append, List.length_singleton] at ih
    rw [ih, List.length_cons]
    congr 2
    omega
theorem all_eq (k : Nat) (acc : List S46) (x3 x4 : Int) (a c : List UInt8) (hl5 : (a ++ 61 :: c).length < 100000) :
    hornbookref14_All.l0 (k + 1) (mk (a ++ 61 :: c)) acc x3 x4 (a.length : Int) = hornbookref14_All.l0 k (mk (a ++ 61 :: c)) acc x3 (a.length : Int) ((a.length + 1 : Nat) : Int) := by
  have hb := bt_at a 61 c
  have hsz : (mk (a ++ 61 :: c)).size = a.length + (c.length + 1) := by rw [mk_size]; simp
  rw [List.length_append, List.length_cons] at hl5
  rw [hornbookref14_All.l0, if_pos (by omega), if_pos (by omega), hb, if_pos e61, if_neg (ne32 (by decide)), w64n _ (by omega)]
def rec (e : List UInt8 × List UInt8) : S46 := ⟨mk e.1, GL.us e⟩
theorem all_l0 (k : Nat) : ∀ (rest don : List (List UInt8 × List UInt8)), GL.ents = don ++ rest → ∀ x4 : Int,
    hornbookref14_All.l0 ((GL.rows rest).length + 300 + k) (mk GL.refL) (don.map rec) ((GL.rows don).length : Int) x4 ((GL.rows don).length : Int) = some (GL.ents.map rec)
  | [], don, h, x4 => by
    rw [List.append_nil] at h
    have hl : GL.refL = GL.rows don := by rw [GL.refL, h]
    rw [hl, GL.rows_nil, show ([] : List UInt8).length + 300 + k = (299 + k) + 1 by simp; omega, hornbookref14_All.l0, if_neg (by rw [mk_size]; omega), h]
  | e :: rest, don, h, x4 => by
    have hm : e ∈ GL.ents := by rw [h]; simp
    have ok := GL.ok_name (GL.ents_ok e hm)
    have hwl := word_len e hm
    have hL := refL_len
    have hdn : don.length ≤ 351 := by rw [← ents_len, h]; simp
    have hl : GL.refL = GL.rows don ++ (GL.word e ++ 32 :: GL.rows rest) := by rw [GL.refL, h, ← GL.rows_cons]; simp [GL.rows]
    have hrl : (GL.rows (e :: rest)).length = (GL.word e).length + 1 + (GL.rows rest).length := by rw [GL.rows_cons]; simp; omega
    have hwd : (GL.word e).length = e.1.length + 1 + e.2.length := by simp [GL.word]; omega
    have hsz : GL.refL.length = (GL.rows don).length + ((GL.word e).length + 1 + (GL.rows rest).length) := by rw [hl]; simp; omega
    generalize hA : GL.rows don = A at *
    have s1 := all_run (1 + (e.2.length + (1 + ((GL.rows rest).length + 300 + k)))) (don.map rec) (A.length : Int) x4 GL.refL (61 :: (e.2 ++ 32 :: GL.rows rest)) (by omega) e.1 A (by rw [hl, GL.word]; simp) (fun b hb => ⟨(ok.2.1 b hb).1, (ok.2.1 b hb).2.1⟩)
    have hl2 : GL.refL = (A ++ e.1) ++ 61 :: (e.2 ++ 32 :: GL.rows rest) := by rw [hl, GL.word]; simp
    have s2 := all_eq (e.2.length + (1 + ((GL.rows rest).length + 300 + k))) (don.map rec) (A.length : Int) x4 (A ++ e.1) (e.2 ++ 32 :: GL.rows rest) (by rw [← hl2]; omega)
    rw [← hl2] at s2
    have s3 := all_run (1 + ((GL.rows rest).length + 300 + k)) (don.map rec) (A.length : Int) ((A ++ e.1).length : Int) GL.refL (32 :: GL.rows rest) (by omega) e.2 (A ++ e.1 ++ [61]) (by rw [hl2]; simp) (fun b hb => ⟨(ok.2.2.1 b hb).1, (ok.2.2.1 b hb).2.1⟩)
    have hlen1 : (A ++ e.1).length = A.length + e.1.length := List.length_append
    have hlen2 : (A ++ e.1 ++ [61]).length = A.length + e.1.length + 1 := by simp; omega
    rw [hlen1] at s2 s3
    rw [hlen2] at s3
    rw [show (GL.rows (e :: rest)).length + 300 + k = e.1.length + (1 + (e.2.length + (1 + ((GL.rows rest).length + 300 + k)))) by omega, s1, show 1 + (e.2.length + (1 + ((GL.rows rest).length + 300 + k))) = (e.2.length + (1 + ((GL.rows rest).length + 300 + k))) + 1 by omega, s2, s3]
    have hl3 : GL.refL = (A ++ GL.word e) ++ 32 :: GL.rows rest := by rw [hl]; simp
    have hb : bt (mk GL.refL) ((A.length + e.1.length + 1 + e.2.length : Nat) : Int) = 32 := by
      have := bt_at (A ++ GL.word e) 32 (GL.rows rest)
      rw [← hl3, List.length_append, hwd] at this
      rw [show A.length + e.1.length + 1 + e.2.length = A.length + (e.1.length + 1 + e.2.length) by omega, this]
      rfl
    have hx1 : (mk GL.refL).extract A.length (A.length + e.1.length) = mk e.1 := by
      rw [extract_mk]
      refine congrArg mk ?_
      rw [hl2, List.append_assoc, List.drop_left, Nat.add_sub_cancel_left, List.take_left]
    have hx2 : (mk GL.refL).extract (A.length + e.1.length + 1) (A.length + e.1.length + 1 + e.2.length) = mk e.2 := by
      rw [extract_mk]
      refine congrArg mk ?_
      have e1 : GL.refL = (A ++ e.1 ++ [61]) ++ (e.2 ++ 32 :: GL.rows rest) := by rw [hl2]; simp
      rw [e1, ← hlen2, List.drop_left, Nat.add_sub_cancel_left, List.take_left]
    have ih := all_l0 k rest (don ++ [e]) (by rw [h]; simp) ((A.length + e.1.length : Nat) : Int)
    have hdl : (GL.rows (don ++ [e])).length = A.length + e.1.length + 1 + e.2.length + 1 := by
      have : GL.rows (don ++ [e]) = A ++ (GL.word e ++ [32]) := by rw [← hA]; simp [GL.rows, GL.row, GL.word]
      rw [this]; simp [hwd]; omega
    rw [hdl, List.map_append, List.map_singleton] at ih
    have hv := values_f e.2 _ ok.2.2.2 ((GL.rows rest).length + 260 - e.2.length + k)
    rw [show e.2.length + 40 + ((GL.rows rest).length + 260 - e.2.length + k) = (GL.rows rest).length + 300 + k by omega] at hv
    rw [show 1 + ((GL.rows rest).length + 300 + k) = ((GL.rows rest).length + 300 + k) + 1 by omega, hornbookref14_All.l0, if_pos (by rw [mk_size]; omega), if_pos (by omega), hb, if_neg (by decide), if_pos rfl,
      if_pos (by omega), if_pos (by omega), if_pos (by rw [mk_size]; omega), w64n _ (by omega), if_pos (by omega), if_pos (by omega), if_pos (by rw [mk_size]; omega)]
    simp only [Int.toNat_natCast]
    rw [hx1, hx2, hv, Option.bind_some, if_pos (by rw [List.length_map]; omega), w64n _ (by omega)]
    exact ih
def recs : List S46 := GL.ents.map rec
theorem recs_len : recs.length = 351 := by rw [recs, List.length_map, ents_len]
theorem recs_at (i : Nat) (hi : i < GL.ents.length) : rd_T46 recs (i : Int) = rec GL.ents[i] := by
  unfold rd_T46 recs
  rw [Int.toNat_natCast, List.getD_eq_getElem?_getD, List.getElem?_map, List.getElem?_eq_getElem hi]
  rfl
theorem ref_all_f (k : Nat) : hornbookref14_All.f (4621 + k) = some recs := by
  have h := all_l0 k GL.ents [] rfl 0
  have hL : (GL.rows GL.ents).length = 4321 := refL_len
  rw [hL] at h
  unfold hornbookref14_All.f hornbookref14_list.f
  rw [Option.bind_some, refB_mk]
  exact h
theorem ref_back_l0 (r : Int) : ∀ (n k i : Nat), i + n = 351 → n < k → hornbookref14_Back.l0 k r recs i = some (match (GL.ents.drop i).find? (fun e => decide (GL.us e = [r])) with
    | some e => (mk e.1, true)
    | none => (mk [], false))
  | 0, k + 1, i, hi, _ => by
    have hw := recs_len
    have : GL.ents.drop i = [] := List.drop_eq_nil_of_le (by rw [ents_len]; omega)
    rw [hornbookref14_Back.l0, if_neg (by omega), this]
    rfl
  | n + 1, k + 1, i, hi, hk => by
    have hlt : i < GL.ents.length := by rw [ents_len]; omega
    have ih := ref_back_l0 r n k (i + 1) (by omega) (by omega)
    have hw := recs_len
    rw [List.drop_eq_getElem_cons hlt]
    rw [hornbookref14_Back.l0, if_pos (by omega), if_pos (by omega), recs_at i hlt, rec, w64n _ (by omega), List.find?_cons]
    simp only
    generalize GL.us GL.ents[i] = u
    match u with
    | [] =>
      rw [if_neg (by simp)]
      exact ih
    | [x] =>
      have hrd : rd [x] 0 = x := rfl
      have h1 : (([x] : List Int).length : Int) = 1 := rfl
      rw [if_pos h1, if_pos (by rw [h1]; omega), hrd]
      by_cases hx : x = r
      · rw [if_pos hx, hx]
        simp
      · rw [if_neg hx, ih]
        simp [hx]
    | x :: y :: l => 
      rw [if_neg (by simp only [List.length_cons]; omega), ih]
      simp
theorem ref_back_f (k : Nat) (r : Int) : hornbookref14_Back.f (4621 + k) r = some (mk (GL.back r).1, (GL.back r).2) := by
  unfold hornbookref14_Back.f
  rw [ref_all_f, Option.bind_some]
  refine (ref_back_l0 r 351 (4621 + k) 0 (by omega) (by omega)).trans ?_
  rw [List.drop_zero]
  unfold GL.back
  cases GL.ents.find? (fun e => decide (GL.us e = [r])) <;> rfl
theorem ref_names_l0 : ∀ (n k i : Nat), i + n = 351 → n < k → hornbookref14_Names.l0 k recs (names.take i) i = some names
  | 0, k + 1, i, hi, _ => by
    have hw := recs_len
    rw [hornbookref14_Names.l0, if_neg (by omega), List.take_of_length_le (by rw [names_len]; omega)]
  | n + 1, k + 1, i, hi, hk => by
    have hlt : i < GL.ents.length := by rw [ents_len]; omega
    have ih := ref_names_l0 n k (i + 1) (by omega) (by omega)
    have hw := recs_len
    have hn := names_len
    rw [hornbookref14_Names.l0, if_pos (by omega), if_pos (by omega), recs_at i hlt, if_pos (by rw [List.length_take]; omega), w64n _ (by omega), ← ih, List.take_add_one]
    congr 2
    unfold names
    rw [List.getElem?_map, List.getElem?_eq_getElem hlt]
    rfl
theorem ref_names_f (k : Nat) : hornbookref14_Names.f (4621 + k) = some names := by
  unfold hornbookref14_Names.f
  rw [ref_all_f, Option.bind_some]
  exact ref_names_l0 351 (4621 + k) 0 (by omega) (by omega)
theorem same_l0 (l : List Int) (hl : l.length < 1000000) : ∀ (n k i : Nat), i + n = l.length → n < k → hornbookref02_Same.l0 k l l i = some true
  | 0, k + 1, i, hi, _ => by rw [hornbookref02_Same.l0, if_neg (by omega)]
  | n + 1, k + 1, i, hi, hk => by
    have ih := same_l0 l hl n k (i + 1) (by omega) (by omega)
    rw [hornbookref02_Same.l0, if_pos (by omega), if_pos (by omega), if_pos (by omega), if_pos rfl, w64n _ (by omega), ih]
theorem same_f (l : List Int) (hl : l.length < 1000000) (k : Nat) (hk : l.length < k) : hornbookref02_Same.f k l l = some true := by
  unfold hornbookref02_Same.f
  rw [if_pos rfl]
  exact same_l0 l hl l.length k 0 (by omega) hk
end Go.Proofs.YtbldfpejcmainaaDoor
