/- GlyphIs and GlyphAscii, plain. -/
import Derived.Test.YtbldfpejcmainaaDoorGlyphRef
namespace Go.Proofs.YtbldfpejcmainaaDoor
open Go.RowKit Go.Proofs.YtbldfpejcmainaaDoorW.PrintWords Go.Proofs.YtbldfpejcmainaaDoor.GA
theorem us_len : ∀ e ∈ GL.ents, 1 ≤ (GL.us e).length ∧ (GL.us e).length ≤ 2 := fun e he => of_decide_eq_true (List.all_eq_true.1 (by kernel_rfl : GL.ents.all (fun e => decide (1 ≤ (GL.us e).length ∧ (GL.us e).length ≤ 2)) = true) e he)
theorem uni_len (n : List UInt8) : (GL.uni n).1.length ≤ 2 := by
  unfold GL.uni
  split
  · rename_i e he
    exact (us_len e (List.mem_of_find?_eq_some he)).2
  · simp
theorem is_l0 (u : List Int) (ok : Bool) (b : ByteArray) (has : Bool) (m : Nat) (hu : u.length ≤ 2) : ∀ (n i : Nat), i + n = 351 → hornbooklaw14_GlyphIs.l0 (n + 5 + m) true u ok u ok b has b has names names i = some true
  | 0, i, hi => by
    have hn := names_len
    rw [show 0 + 5 + m = (m + 4) + 1 by omega, hornbooklaw14_GlyphIs.l0, if_neg (by omega), if_pos rfl, same_f u (by omega) (m + 4) (by omega), Option.bind_some, if_pos rfl, if_pos (by simp), if_pos rfl]
    simp
  | n + 1, i, hi => by
    have hn := names_len
    rw [show n + 1 + 5 + m = (n + 5 + m) + 1 by omega, hornbooklaw14_GlyphIs.l0, if_pos (by omega), if_pos (by omega), if_pos (by omega), if_pos rfl, w64n _ (by omega), is_l0 u ok b has m hu n (i + 1) (by omega)]
theorem GlyphIs_pure : hornbooklaw14_GlyphIs.Pure := by
  intro a0 a1 h0 h1
  refine ⟨8942 + 400, ?_⟩
  unfold hornbooklaw14_GlyphIs.f
  rw [awake_f (8942 + 48), Option.bind_some]
  by_cases hs : (a0.size : Int) > 300
  · rw [if_pos hs]
  · have hn := names_len
    rw [if_neg hs, uni_f (8942 + 392) a0 (by omega), Option.bind_some, ref_uni_f a0 400, Option.bind_some, back_f (8942 + 48), Option.bind_some, show 8942 + 400 = 4621 + 4721 from rfl, ref_back_f, Option.bind_some,
      show 4621 + 4721 = (8942 + 48) + 352 from rfl, names_f, Option.bind_some, show (8942 + 48) + 352 = 4621 + 4721 from rfl, ref_names_f, Option.bind_some, if_pos rfl, show 4621 + 4721 = (8942 + 48) + 352 from rfl, count_f, Option.bind_some]
    have hne : ((351 : Int) != ((names.length : Nat) : Int)) = false := by rw [hn]; rfl
    rw [hne, show (8942 + 48) + 352 = (351 + 5 + 8985) + 1 from rfl, hornbooklaw14_GlyphIs.j0, if_neg (by simp)]
    exact is_l0 _ _ _ _ 8985 (uni_len _) 351 0 (by omega)
theorem letters_ok : (List.range 26).all (fun k => (List.range 2).all fun i => decide (GL.uni [(65 + k + 32 * i).toUInt8] = ([((65 + k + 32 * i : Nat) : Int)], true) ∧ GL.back ((65 + k + 32 * i : Nat) : Int) = ([(65 + k + 32 * i).toUInt8], true))) = true := by kernel_rfl
theorem firsts_ok : (List.range 95).all (fun j => decide (GL.uni ((GL.ents[j]?.map Prod.fst).getD []) = ([((32 + j : Nat) : Int)], true))) = true := by kernel_rfl
theorem text_ok : (List.range 26).all (fun k => (List.range 2).all fun i => decide (utfText [((65 + k + 32 * i : Nat) : Int)] = [(65 + k + 32 * i).toUInt8])) = true := by kernel_rfl
theorem and_ffff (x : Int) : Go.bits .and .i64 x 65535 = x % 65536 := by
  have hm : (BitVec.ofInt 64 65535).toNat = 2 ^ 16 - 1 := by decide
  have key : (BitVec.ofInt 64 x &&& BitVec.ofInt 64 65535).toNat = (x % ((2 ^ 64 : Nat) : Int)).toNat % 2 ^ 16 := by
    rw [BitVec.toNat_and, BitVec.toNat_ofInt, hm, Nat.and_two_pow_sub_one_eq_mod]
  show IntKind.i64.wrap ((BitVec.ofInt 64 x &&& BitVec.ofInt 64 65535).toNat : Nat) = x % 65536
  rw [key, IntKind.wrap_i64]
  omega
theorem and_bd (x : Int) : 0 ≤ Go.bits .and .i64 x 65535 ∧ Go.bits .and .i64 x 65535 ≤ 65535 := by
  rw [and_ffff]
  omega
theorem ascii_step (m : Nat) (x0 : Int) (n i : Nat) (hn : n < 26) (hi : i < 2) : hornbooklaw14_GlyphAscii.l0 (352 + m + 1) x0 true n i = hornbooklaw14_GlyphAscii.l0 (352 + m) x0 true n ((i + 1 : Nat) : Int) := by
  have hr : wrap64 (wrap64 (65 + (n : Int)) + wrap64 (32 * (i : Int))) = ((65 + n + 32 * i : Nat) : Int) := by
    rw [w64 (x := 65 + (n : Int)) (by omega) (by omega), w64 (x := 32 * (i : Int)) (by omega) (by omega), w64 (by omega) (by omega)]
    omega
  have h1 := of_decide_eq_true (List.all_eq_true.1 (List.all_eq_true.1 letters_ok n (by simpa using hn)) i (by simpa using hi))
  have h2 := of_decide_eq_true (List.all_eq_true.1 (List.all_eq_true.1 text_ok n (by simpa using hn)) i (by simpa using hi))
  have ht : utf_Text.f [((65 + n + 32 * i : Nat) : Int)] = some (mk [(65 + n + 32 * i).toUInt8]) := by
    unfold utf_Text.f
    rw [if_pos (by simp), h2]
    rfl
  have hU := uni_f (344 + m) (mk [(65 + n + 32 * i).toUInt8]) (by rw [mk_size]; simp)
  rw [mk_list, h1.1] at hU
  have hB := back_f m ((65 + n + 32 * i : Nat) : Int)
  rw [h1.2] at hB
  rw [show 344 + m + 8 = 352 + m by omega] at hU
  rw [show m + 352 = 352 + m by omega] at hB
  rw [hornbooklaw14_GlyphAscii.l0, if_pos (by omega), hr, ht, Option.bind_some, hU, Option.bind_some, hB, Option.bind_some, if_pos rfl, if_pos (show (([((65 + n + 32 * i : Nat) : Int)] : List Int).length : Int) = 1 from rfl), if_pos (by simp), if_pos (show rd [((65 + n + 32 * i : Nat) : Int)] 0 = ((65 + n + 32 * i : Nat) : Int) from rfl), if_pos rfl, if_pos rfl, w64n _ (by omega)]
theorem GlyphAscii_pure : hornbooklaw14_GlyphAscii.Pure := by
  intro a0 h0
  refine ⟨352 + 10, ?_⟩
  have hb := and_bd a0
  obtain ⟨n, hn⟩ : ∃ n : Nat, Go.bits .and .i64 a0 65535 = n := ⟨(Go.bits .and .i64 a0 65535).toNat, by omega⟩
  have h26 : Int.tmod (n : Int) 26 = ((n % 26 : Nat) : Int) := by rw [Int.tmod_eq_emod_of_nonneg (by omega)]; omega
  have h95 : Int.tmod (n : Int) 95 = ((n % 95 : Nat) : Int) := by rw [Int.tmod_eq_emod_of_nonneg (by omega)]; omega
  unfold hornbooklaw14_GlyphAscii.f
  rw [show 352 + 10 = 10 + 352 from rfl, awake_f 10, Option.bind_some, hn, h26]
  have hlt := Nat.mod_lt n (show 0 < 26 by decide)
  have hl95 := Nat.mod_lt n (show 0 < 95 by decide)
  have s1 := ascii_step 9 a0 (n % 26) 0 hlt (by decide)
  have s2 := ascii_step 8 a0 (n % 26) 1 hlt (by decide)
  have hlen := names_len
  have hent := ents_len
  have hname : rdOf ByteArray.empty names ((n % 95 : Nat) : Int) = mk ((GL.ents[n % 95]?.map Prod.fst).getD []) := by
    unfold rdOf names
    rw [Int.toNat_natCast, List.getD_eq_getElem?_getD, List.getElem?_map, List.getElem?_eq_getElem (by omega)]
    rfl
  have hf := of_decide_eq_true (List.all_eq_true.1 firsts_ok (n % 95) (by simpa using hl95))
  have hsz : (mk ((GL.ents[n % 95]?.map Prod.fst).getD [])).size ≤ 1000000 := by
    rw [mk_size, List.getElem?_eq_getElem (by omega)]
    have := word_len _ (List.getElem_mem (show n % 95 < GL.ents.length by omega))
    simp only [Option.map_some, Option.getD_some]
    simp only [GL.word, List.length_append] at this
    omega
  have hU := uni_f (344 + 7) _ hsz
  rw [mk_list, hf] at hU
  refine s1.trans (s2.trans ?_)
  rw [show 352 + 8 = (352 + 7) + 1 from rfl, hornbooklaw14_GlyphAscii.l0, if_neg (by omega), names_f 7, Option.bind_some, if_neg (by omega), hn, h95, if_pos (by omega), if_pos (by omega), hname, hU, Option.bind_some, if_pos rfl, if_pos rfl, if_pos (show (([((32 + n % 95 : Nat) : Int)] : List Int).length : Int) = 1 from rfl), if_pos (by simp)]
  have : wrap64 (32 + ((n % 95 : Nat) : Int)) = ((32 + n % 95 : Nat) : Int) := by rw [w64 (by omega) (by omega)]; omega
  rw [this]
  simp [rd]
end Go.Proofs.YtbldfpejcmainaaDoor
