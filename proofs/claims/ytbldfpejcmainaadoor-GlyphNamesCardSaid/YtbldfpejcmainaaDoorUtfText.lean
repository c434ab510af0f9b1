/- utf.Text: values in UTF-8. -/
import Derived.Test.YtbldfpejcmainaaDoorJoin
import Derived.Lib.RuneBytes
import Derived.Lib.QuoteLoop
import Derived.IntWalk
import Derived.Deep.LoopGhost
namespace Go.Proofs.YtbldfpejcmainaaDoor
open Go.RowKit Go.Proofs.YtbldfpejcmainaaDoorW.PrintWords
/-- A value, or what stands for it. -/
def gz (r : Int) : Int := if 0 ≤ r ∧ r ≤ 1114111 ∧ (r < 55296 ∨ 57343 < r) then r else 65533
theorem gz_bd (r : Int) : 0 ≤ gz r ∧ gz r ≤ 1114111 := by unfold gz; split <;> omega
theorem gz_enc (r : Int) : Lib.runeCells (gz r) = Lib.runeCells r := by
  unfold gz Lib.runeCells
  split
  · rfl
  · rename_i h
    rw [Lib.encodeRuneZ_bad (r := r) (by omega)]
    rfl
theorem good_any (r : Int) (w : World) : Calls Tryd.prog 26 #[.int .i64 r] w fun e w' => e = .returned (.int .i64 (gz r)) ∧ w' = w := by
  by_cases h0 : 0 ≤ r
  · by_cases h1 : r ≤ 1114111
    · by_cases h2 : r < 55296
      · have e : gz r = r := by unfold gz; rw [if_pos ⟨h0, h1, .inl h2⟩]
        rw [e]
        go_enter Tryd.func26, Tryd.ntmps26
        go_wp2
        go_ret
        exact ⟨rfl, rfl⟩
      · by_cases h3 : 57343 < r
        · have e : gz r = r := by unfold gz; rw [if_pos ⟨h0, h1, .inr h3⟩]
          rw [e]
          go_enter Tryd.func26, Tryd.ntmps26
          go_wp2
          go_ret
          exact ⟨rfl, rfl⟩
        · have e : gz r = 65533 := by unfold gz; rw [if_neg (by omega)]
          rw [e]
          go_enter Tryd.func26, Tryd.ntmps26
          go_wp2
          go_ret
          exact ⟨rfl, rfl⟩
    · have e : gz r = 65533 := by unfold gz; rw [if_neg (by omega)]
      rw [e]
      go_enter Tryd.func26, Tryd.ntmps26
      go_wp2
      go_ret
      exact ⟨rfl, rfl⟩
  · have e : gz r = 65533 := by unfold gz; rw [if_neg (by omega)]
    rw [e]
    go_enter Tryd.func26, Tryd.ntmps26
    go_wp2
    go_ret
    exact ⟨rfl, rfl⟩
/-- A new builder. -/
theorem isB_new (w : World) : IsB w.heap.size w.heap.size [] (w.alloc (.cells #[.pointer none, .slice none 0 0] 49)) :=
  .inl ⟨Nat.le_refl _, _, heap_alloc_new w _, ⟨by simp, .inl ⟨rfl, rfl⟩⟩, by simp [Value.ownBlock]⟩
def utfText (l : List Int) : List UInt8 := l.flatMap Lib.encodeRune
theorem byteCells_append (a b : List UInt8) : Lib.byteCells (a ++ b) = Lib.byteCells a ++ Lib.byteCells b := by simp [Lib.byteCells]
theorem utfText_snoc (l : List Int) (r : Int) : Lib.byteCells (utfText (l ++ [r])) = Lib.byteCells (utfText l) ++ Lib.runeCells r := by
  rw [utfText, List.flatMap_append, byteCells_append]
  congr 1
  simp only [List.flatMap_cons, List.flatMap_nil, List.append_nil]
  exact Lib.byteCells_encodeRune r
theorem utfText_len : ∀ l : List Int, (utfText l).length ≤ 4 * l.length
  | [] => by simp [utfText]
  | r :: l => by
    have := utfText_len l
    have h2 := Lib.encodeRuneZ_length_le r
    simp only [utfText, List.flatMap_cons, List.length_append, List.length_cons, Lib.encodeRune, List.length_map] at *
    omega
set_option maxHeartbeats 400000 in
set_option maxRecDepth 100000 in
theorem text_any (A0 : Option Addr) (c0 : Nat) (l0 : List Int) (w : World) (hr0 : Kd.C (Kd.int .i64) w A0 l0.length l0) (_hc0 : l0.length ≤ c0) (hlen : l0.length * 8 ≤ 140737488355328) :
    Calls Tryd.prog 16 #[.slice A0 l0.length c0] w fun e w' => e = .returned (.string ⟨(utfText l0).toArray⟩) ∧ Below w.heap.size w w' := by
  have hcell : ∀ j : Nat, j < l0.length → ∃ ad, A0 = some ad ∧ w.cell? (ad.add j) = some (.int .i64 (l0.getD j 0)) := by
    intro j hj
    obtain ⟨b, o, rfl, _, hc⟩ := C_cells hr0 (by omega)
    refine ⟨_, rfl, ?_⟩
    rw [add_off]
    exact hc j _ (by rw [List.getD_eq_getElem?_getD, List.getElem?_eq_getElem hj]; rfl)
  have HC := Lib.hid hcell
  clear hcell hr0
  have hI0 := Lib.hid (isB_new w)
  have hB0 := Lib.hid ((Below.refl w.heap.size w).alloc (Nat.le_refl _) (.cells #[.pointer none, .slice none 0 0] 49))
  go_enter Tryd.func16, Tryd.ntmps16
  go_wp2
  go_loopg [5, 8] l0.length (fun g _ i wx => ∃ k : Nat, k + g = l0.length ∧ i = .int .i64 k ∧ Hid (IsB w.heap.size w.heap.size (Lib.byteCells (utfText (l0.take k))) wx) ∧ Hid (Below w.heap.size w wx))
  case atStart => exact ⟨0, by omega, rfl, hI0, hB0⟩
  case round =>
    obtain ⟨k, hk, rfl, HI, HB⟩ := hrel
    by_cases hlt : k < l0.length
    · obtain ⟨ad, hA, hc⟩ := HC.out k hlt
      have hc1 := (HB.out.cell (World.block_lt_of_cell? w _ hc)).trans hc
      subst hA
      obtain ⟨x, hx⟩ : ∃ x, l0.getD k 0 = x := ⟨_, rfl⟩
      rw [hx] at hc1
      have HX := Lib.hid hx
      clear hx hc HC
      have hg := gz_bd x
      have HG := Lib.hid (gz_enc x)
      have hw32 : wrap32 (gz x) = gz x := by unfold wrap32; omega
      have HGd := Lib.hid (fun W => good_any x W)
      have hl2 := utfText_len (l0.take k)
      have hl3 : (Lib.byteCells (utfText (l0.take k))).length + 4 ≤ 140737488355328 := by
        simp only [Lib.byteCells, List.length_map, List.length_take] at *; omega
      have HL3 := Lib.hid hl3
      clear hl2 hl3
      generalize gz x = y at *
      go_wp2_with (first | (go_at_call 26; go_must (refine (HGd.out _).mono ?_; rintro e w' ⟨rfl, hw'⟩; rw [hw']; clear hw')) | (go_at_call 25; go_must (refine (bld_WriteRune w.heap.size w.heap.size _ y (by omega) (by omega) _ HI.out HL3.out (by have := HB.out.size; omega)).mono ?_; rintro e w2 ⟨rfl, hat, hb2, hk2⟩; have HAT := Lib.hid hat; have HB2 := Lib.hid hb2; clear hat hb2 hk2)))
      go_roundg (l0.length - (k + 1))
      case measure => omega
      case rel =>
        refine ⟨k + 1, by omega, by go_num, .inr ?_, HB.out.trans HB2.out⟩
        rw [List.take_succ_eq_append_getElem hlt, utfText_snoc]
        have hx2 : l0[k] = x := by rw [← HX.out, List.getD_eq_getElem?_getD, List.getElem?_eq_getElem hlt]; rfl
        rw [hx2, ← HG.out]
        exact HAT.out
    · obtain rfl : k = l0.length := by omega
      go_wp2_with (go_at_call 27; go_must (refine (bld_String w.heap.size w.heap.size _ _ HI.out (by have := HB.out.size; omega)).mono ?_; rintro e w2 ⟨rfl, _, hb2, _⟩; have HB2 := Lib.hid hb2; clear hb2))
      go_ret
      exact ⟨rfl, HB.out.trans HB2.out⟩
end Go.Proofs.YtbldfpejcmainaaDoor
