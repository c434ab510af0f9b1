/- What the program's functions on glyphs come to: plain. -/
import Derived.Test.YtbldfpejcmainaaDoorGlyphList
import Derived.Test.YtbldfpejcmainaaDoorGAx
namespace Go.Proofs.YtbldfpejcmainaaDoor
open Go.RowKit Go.Proofs.YtbldfpejcmainaaDoorW.PrintWords Go.Proofs.YtbldfpejcmainaaDoor.GA
theorem w64 {x : Int} (h0 : -9223372036854775808 ≤ x) (h1 : x < 9223372036854775808) : wrap64 x = x := by unfold wrap64; omega
theorem data_inj {a b : ByteArray} (h : a.data.toList = b.data.toList) : a = b := ByteArray.ext (Array.ext' h)
def mk (l : List UInt8) : ByteArray := ⟨l.toArray⟩
theorem mk_list (l : List UInt8) : (mk l).data.toList = l := by simp [mk]
theorem mk_of (a : ByteArray) : mk a.data.toList = a := data_inj (by simp [mk])
theorem mk_size (l : List UInt8) : (mk l).size = l.length := by simp [mk, ByteArray.size]
theorem concat_two (k : Nat) (a b : List ByteArray) (ha : a.length ≤ 1000) (hb : b.length ≤ 1000) : slices_Concat_string_string.f (k + 6) [a, b] = some (a ++ b) := by
  have e1 : wrap64 (0 + (a.length : Int)) = a.length := by rw [w64 (by omega) (by omega)]; omega
  have e2 : wrap64 ((a.length : Int) + b.length) = a.length + b.length := w64 (by omega) (by omega)
  have e3 : wrap64 (0 + 1) = 1 := by unfold wrap64; omega
  have e4 : wrap64 (1 + 1) = 2 := by unfold wrap64; omega
  have h1 : ¬ (a.length : Int) < 0 := by omega
  have h2 : ¬ (a.length : Int) + b.length < 0 := by omega
  have h3 : 0 ≤ (a.length : Int) + b.length ∧ (a.length : Int) + b.length ≤ 8796093022208 := by omega
  have h4 : a.length < 8796093022208 := by omega
  have h5 : a.length + b.length < 8796093022208 := by omega
  have r0 : rd_L1 [a, b] 0 = a := rfl
  have r1 : rd_L1 [a, b] 1 = b := rfl
  unfold slices_Concat_string_string.f
  simp only [slices_Concat_string_string.l0, slices_Concat_string_string.l1, slices_Grow_string_string.f, List.length_cons, List.length_nil, r0, r1, e1, e2, e3, e4, h1, h2, h3, h4, h5, if_true, if_false, Option.bind_some, List.nil_append, Nat.zero_add]
  have c2 : ((1 + 1 : Nat) : Int) = 2 := rfl
  simp [c2, h3, h4, h5]
def P1 : List ByteArray := glyph_part1.f.getD []
def P2 : List ByteArray := glyph_part2.f.getD []
theorem part1_f : glyph_part1.f = some P1 := rfl
theorem part2_f : glyph_part2.f = some P2 := rfl
theorem parts_join : Lib.join ((P1 ++ P2).map (·.data.toList)) [32] ++ [32] = GL.refL := GL.eqL_sound (by kernel_rfl)
theorem refL_len : GL.refL.length = 4321 := by kernel_rfl
theorem P1_len : P1.length ≤ 1000 := by decide
theorem P2_len : P2.length ≤ 1000 := by decide
theorem list_f (k : Nat) : glyph_list.f (k + 6) = some (mk GL.listL) := by
  have hj := parts_join
  have hl : (Lib.join ((P1 ++ P2).map (·.data.toList)) [32]).length + 1 = 4321 := by rw [← refL_len, ← hj]; simp
  have h1 := P1_len
  have h2 := P2_len
  unfold glyph_list.f
  rw [part1_f, part2_f, Option.bind_some, Option.bind_some, concat_two k P1 P2 h1 h2, Option.bind_some]
  unfold strings_Join.f
  have e32 : (⟨#[32]⟩ : ByteArray).data.toList = [32] := rfl
  rw [e32, if_pos ⟨by simp only [List.length_append]; omega, by omega⟩, Option.bind_some]
  have hs : (⟨(Lib.join ((P1 ++ P2).map (·.data.toList)) [32]).toArray⟩ : ByteArray).size + 1 = 4321 := by rw [← hl]; simp [ByteArray.size]
  rw [if_pos (by omega), if_pos (by omega)]
  refine congrArg some (data_inj ?_)
  rw [mk_list, GL.listL, ← hj]
  simp [ByteArray.data_append]
theorem fields_f : strings_Fields.f (mk GL.listL) = some (GL.ents.map fun e => mk (GL.word e)) := by
  have hl := refL_len
  unfold strings_Fields.f
  have hasc : (mk GL.listL).data.toList.all (fun b => decide (b.toNat < 128)) = true := by
    rw [mk_list, List.all_eq_true]
    intro b hb
    rw [GL.listL, List.mem_cons] at hb
    rcases hb with rfl | hb
    · decide
    · exact decide_eq_true (GL.rows_ascii _ GL.ents_ok b hb)
  have h32 : Lib.fieldsGo [] (32 :: GL.refL) = Lib.fieldsGo [] GL.refL := by
    have : Lib.isSp 32 = true := by decide
    rw [Lib.fieldsGo]
    simp only [this, if_true, List.isEmpty_nil]
  rw [if_pos ⟨by rw [mk_size, GL.listL, List.length_cons]; omega, hasc⟩]
  rw [mk_list, GL.listL, Lib.fields, h32, GL.refL, GL.fields_rows _ GL.ents_ok, List.map_map]
  rfl
theorem uni_f (k : Nat) (a : ByteArray) (h : a.size ≤ 1000000) : glyph_Uni.f (k + 8) a = some (GL.uni a.data.toList) := by
  have hl := refL_len
  have hT : ∀ x, glyph_Uni.j0 (x + 1) a true = some ([], false) := fun x => by rw [glyph_Uni.j0, if_pos rfl]
  unfold glyph_Uni.f
  by_cases h0 : a.toList = []
  · rw [if_pos h0, hT, GL.uni_bad _ (.inl (by rw [← Lib.toList_data]; exact h0))]
  · rw [if_neg h0]
    unfold strings_ContainsAny.f
    rw [if_pos ⟨rfl, by omega⟩, Option.bind_some]
    cases hany : a.data.toList.any fun b => b == 32 || b == 61
    · have hno : ∀ b ∈ a.data.toList, b ≠ 32 ∧ b ≠ 61 := by
        intro b hb
        have := List.any_eq_false.1 hany b hb
        simpa using this
      have hf := GL.find_T a.data.toList (fun hm => (hno _ hm).2 rfl) GL.ents GL.ents_ok
      have hsep : (((⟨#[32]⟩ : ByteArray) ++ a) ++ (⟨#[61]⟩ : ByteArray)).data.toList = 32 :: (a.data.toList ++ [61]) := by simp [ByteArray.data_append]
      rw [glyph_Uni.j0, if_neg (by simp), list_f (k + 1), Option.bind_some, if_pos (by omega), if_pos (by omega)]
      unfold strings_Cut.f
      rw [if_pos (by rw [mk_size, GL.listL, List.length_cons]; omega), Option.bind_some, hsep, mk_list, GL.listL, GL.refL]
      unfold GL.uni
      cases hfd : GL.ents.find? (fun e => decide (e.1 = a.data.toList)) with
      | none =>
        rw [hfd] at hf
        simp only at hf
        have hc : Lib.cut (32 :: GL.rows GL.ents) (32 :: (a.data.toList ++ [61])) = (32 :: GL.rows GL.ents, [], false) := by
          unfold Lib.cut
          rw [if_neg (by omega)]
        rw [hc]
        rfl
      | some e =>
        rw [hfd] at hf
        obtain ⟨i, rest, h1, h2⟩ := hf
        have he := GL.ok_name (GL.ents_ok e (List.mem_of_find?_eq_some hfd))
        have hc : Lib.cut (32 :: GL.rows GL.ents) (32 :: (a.data.toList ++ [61])) = ((32 :: GL.rows GL.ents).take i, e.2 ++ 32 :: rest, true) := by
          unfold Lib.cut
          rw [h1, if_pos (by omega), ← h2]
          rfl
        rw [hc]
        simp only [if_true]
        have hlen : (e.2 ++ 32 :: rest).length ≤ 4322 := by
          rw [← h2, List.length_drop, List.length_cons]
          have : (GL.rows GL.ents).length = 4321 := hl
          omega
        have h32 : (32 : UInt8) ∉ e.2 := fun hm => (he.2.2.1 _ hm).1 rfl
        rw [if_pos (by show (mk (e.2 ++ 32 :: rest)).size < _; rw [mk_size]; omega), Option.bind_some]
        rw [GL.cut_at 32 _ _ h32]
        unfold glyph_values.f
        simp only
        rw [he.2.2.2]
        rfl
    · obtain ⟨b, hb, hb2⟩ := List.any_eq_true.1 hany
      have hb2 : b = 32 ∨ b = 61 := by simpa using hb2
      rw [hT, GL.uni_bad]
      rcases hb2 with rfl | rfl
      · exact .inr (.inl hb)
      · exact .inr (.inr hb)
theorem ents_len : GL.ents.length = 351 := by kernel_rfl
theorem word_len : ∀ e ∈ GL.ents, (GL.word e).length ≤ 100 := fun e he => of_decide_eq_true (List.all_eq_true.1 (by kernel_rfl : GL.ents.all (fun e => decide ((GL.word e).length ≤ 100)) = true) e he)
def words : List ByteArray := GL.ents.map fun e => mk (GL.word e)
theorem words_len : words.length = 351 := by rw [words, List.length_map, ents_len]
theorem words_at (i : Nat) (hi : i < GL.ents.length) : rdOf ByteArray.empty words (i : Int) = mk (GL.word GL.ents[i]) := by
  unfold rdOf words
  rw [Int.toNat_natCast, List.getD_eq_getElem?_getD, List.getElem?_map, List.getElem?_eq_getElem hi]
  rfl
theorem cut_word (e : List UInt8 × List UInt8) (he : e ∈ GL.ents) : strings_Cut.f (mk (GL.word e)) ⟨#[61]⟩ = some (mk e.1, mk e.2, true) := by
  have hw := word_len e he
  have ok := GL.ok_name (GL.ents_ok e he)
  have h61 : (61 : UInt8) ∉ e.1 := fun hm => (ok.2.1 _ hm).2.1 rfl
  unfold strings_Cut.f
  have h1' : (⟨#[61]⟩ : ByteArray).data.toList = [61] := rfl
  rw [if_pos (by rw [mk_size]; omega), mk_list, h1', GL.word, GL.cut_at 61 _ _ h61]
  rfl
theorem back_l0 (r : Int) : ∀ (n k i : Nat), i + n = 351 → n < k → glyph_Back.l0 k r words 351 i = some (match (GL.ents.drop i).find? (fun e => decide (GL.us e = [r])) with
    | some e => (mk e.1, true)
    | none => (mk [], false))
  | 0, k + 1, i, hi, _ => by
    obtain rfl : i = 351 := by omega
    have : GL.ents.drop 351 = [] := List.drop_eq_nil_of_le (by rw [ents_len]; omega)
    rw [glyph_Back.l0, if_neg (by omega), this]
    rfl
  | n + 1, k + 1, i, hi, hk => by
    have hlt : i < GL.ents.length := by rw [ents_len]; omega
    have hm : GL.ents[i] ∈ GL.ents := List.getElem_mem hlt
    have ok := GL.ok_name (GL.ents_ok _ hm)
    have ih := back_l0 r n k (i + 1) (by omega) (by omega)
    have hw := words_len
    rw [List.drop_eq_getElem_cons hlt]
    rw [glyph_Back.l0, if_pos (by omega), if_pos (by omega), if_pos (by omega), words_at i hlt, cut_word _ hm, Option.bind_some]
    have hv : glyph_values.f (mk GL.ents[i].2) = some (GL.us GL.ents[i]) := by unfold glyph_values.f; rw [mk_list]; exact ok.2.2.2
    rw [hv, Option.bind_some]
    have hnext : wrap64 ((i : Int) + 1) = ((i + 1 : Nat) : Int) := by rw [w64 (by omega) (by omega)]; omega
    rw [hnext]
    rw [List.find?_cons]
    generalize GL.us GL.ents[i] = u
    match u with
    | [] =>
      rw [if_neg (by simp)]
      exact ih
    | [x] =>
      have hrd : rd [x] 0 = x := rfl
      have h1 : (([x] : List Int).length : Int) = 1 := rfl
      rw [if_pos h1, if_pos (by rw [h1]; omega), hrd]
      by_cases hx : x = r
      · rw [if_pos hx, hx]
        simp
      · rw [if_neg hx, ih]
        simp [hx]
    | x :: y :: l => 
      rw [if_neg (by simp only [List.length_cons]; omega), ih]
      simp
theorem back_f (k : Nat) (r : Int) : glyph_Back.f (k + 352) r = some (mk (GL.back r).1, (GL.back r).2) := by
  unfold glyph_Back.f
  rw [show k + 352 = (k + 346) + 6 by omega, list_f, Option.bind_some, fields_f, Option.bind_some]
  have hb := back_l0 r 351 (k + 346 + 6) 0 (by omega) (by omega)
  have hw : ((words.length : Nat) : Int) = 351 := by rw [words_len]; rfl
  show glyph_Back.l0 _ r words (words.length : Int) 0 = _
  rw [hw]
  refine hb.trans ?_
  rw [List.drop_zero]
  unfold GL.back
  cases GL.ents.find? (fun e => decide (GL.us e = [r])) <;> rfl
def names : List ByteArray := GL.ents.map fun e => mk e.1
theorem names_len : names.length = 351 := by rw [names, List.length_map, ents_len]
theorem names_l0 : ∀ (n k i : Nat), i + n = 351 → n < k → glyph_Names.l0 k (names.take i) words 351 i = some names
  | 0, k + 1, i, hi, _ => by
    obtain rfl : i = 351 := by omega
    rw [glyph_Names.l0, if_neg (by omega), List.take_of_length_le (by rw [names_len]; omega)]
  | n + 1, k + 1, i, hi, hk => by
    have hlt : i < GL.ents.length := by rw [ents_len]; omega
    have hm : GL.ents[i] ∈ GL.ents := List.getElem_mem hlt
    have ih := names_l0 n k (i + 1) (by omega) (by omega)
    have hw := words_len
    have hn := names_len
    rw [glyph_Names.l0, if_pos (by omega), if_pos (by omega), if_pos (by omega), words_at i hlt, cut_word _ hm, Option.bind_some, if_pos (by rw [List.length_take]; omega)]
    have hnext : wrap64 ((i : Int) + 1) = ((i + 1 : Nat) : Int) := by rw [w64 (by omega) (by omega)]; omega
    rw [hnext, ← ih, List.take_add_one]
    congr 2
    unfold names
    rw [List.getElem?_map, List.getElem?_eq_getElem hlt]
    rfl
theorem names_f (k : Nat) : glyph_Names.f (k + 352) = some names := by
  unfold glyph_Names.f
  rw [show k + 352 = (k + 346) + 6 by omega, list_f, Option.bind_some, fields_f, Option.bind_some]
  have hw : ((words.length : Nat) : Int) = 351 := by rw [words_len]; rfl
  show glyph_Names.l0 _ [] words (words.length : Int) 0 = _
  rw [hw]
  exact names_l0 351 (k + 346 + 6) 0 (by omega) (by omega)
theorem count_f (k : Nat) : glyph_Count.f (k + 352) = some 351 := by
  unfold glyph_Count.f
  rw [names_f, Option.bind_some, names_len]; rfl
theorem uni_A : GL.uni [65] = ([65], true) := by kernel_rfl
theorem uni_dalet : GL.uni [100, 97, 108, 101, 116, 104, 97, 116, 97, 102, 112, 97, 116, 97, 104] = ([1491, 1458], true) := by kernel_rfl
theorem back_A : GL.back 65 = ([65], true) := by kernel_rfl
theorem awake_f (k : Nat) : hornbooklaw14_awake.f (k + 352) = some true := by
  unfold hornbooklaw14_awake.f
  have h1 := uni_f (k + 344) ⟨#[65]⟩ (by decide)
  have h2 := uni_f (k + 344) ⟨#[100, 97, 108, 101, 116, 104, 97, 116, 97, 102, 112, 97, 116, 97, 104]⟩ (by decide)
  have h3 := back_f k 65
  have e1 : (⟨#[65]⟩ : ByteArray).data.toList = [65] := rfl
  have e2 : (⟨#[100, 97, 108, 101, 116, 104, 97, 116, 97, 102, 112, 97, 116, 97, 104]⟩ : ByteArray).data.toList = [100, 97, 108, 101, 116, 104, 97, 116, 97, 102, 112, 97, 116, 97, 104] := rfl
  rw [e1, uni_A] at h1
  rw [e2, uni_dalet] at h2
  rw [back_A] at h3
  rw [h1, h2, h3, count_f]
  have e3 : (mk [65]).toList = [65] := by rw [Lib.toList_data]; rfl
  simp [rd, e3]
end Go.Proofs.YtbldfpejcmainaaDoor
