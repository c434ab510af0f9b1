/- strings.ContainsAny at " =", of any string. -/
import Derived.Test.YtbldfpejcmainaaDoorGlyphA
import Derived.Lib.OthersKept
namespace Go.Proofs.YtbldfpejcmainaaDoor
open Go.RowKit Go.Proofs.YtbldfpejcmainaaDoorW.PrintWords
theorem get_at' (s : ByteArray) (pos : Nat) (h : pos < s.size) : s.get! pos = s[pos]'h := get_at s pos h
theorem decode_bytes (s : ByteArray) (pos : Nat) (h : pos < s.size) (ha : 128 ≤ (s[pos]'h).toNat) :
    ∀ k, k < (Utf8.decode s pos).2 → ∃ hj : pos + k < s.size, 128 ≤ (s[pos + k]'hj).toNat := by
  have key : ∀ k, 0 < k → (decide (pos + k < s.size) && ((s.get! (pos + k)).toNat / 64 == 2)) = true → ∃ hj : pos + k < s.size, 128 ≤ (s[pos + k]'hj).toNat := by
    intro k _ hk
    simp only [Bool.and_eq_true, decide_eq_true_eq, beq_iff_eq] at hk
    refine ⟨hk.1, ?_⟩
    have h2 := hk.2
    rw [get_at' s (pos + k) hk.1] at h2
    omega
  have k0 : ∃ hj : pos + 0 < s.size, 128 ≤ (s[pos + 0]'hj).toNat := ⟨h, ha⟩
  have hn : ¬ (s[pos]'h).toNat < 128 := by omega
  intro k hk
  simp only [Utf8.decode, get_at s pos h, hn, if_false] at hk
  repeat' split at hk
  all_goals
    rcases k with _ | _ | _ | _ | k
    all_goals first
      | exact k0
      | (exfalso; omega)
      | (refine key 1 (by decide) ?_; simp_all; done)
      | (refine key 2 (by decide) ?_; simp_all; done)
      | (refine key 3 (by decide) ?_; simp_all; done)
theorem noAny_high {s : ByteArray} {i n : Nat} (h : Lib.NoAny s.data.toList [32, 61] i) (hb : ∀ k, k < n → ∃ hj : i + k < s.size, 128 ≤ (s[i + k]'hj).toNat) : Lib.NoAny s.data.toList [32, 61] (i + n) := by
  intro j b hj hjb
  rcases Nat.lt_or_ge j i with hlt | hge
  · exact h j b hlt hjb
  · obtain ⟨k, rfl⟩ : ∃ k, j = i + k := ⟨j - i, by omega⟩
    obtain ⟨hs, h128⟩ := hb k (by omega)
    have h2 := Lib.data_getElem? s (i + k) hs
    rw [h2, Option.some.injEq] at hjb
    subst hjb
    have : ∀ x : UInt8, 128 ≤ x.toNat → [32, 61].contains x = false := by
      intro x hx
      simp only [List.contains_cons, List.contains_nil, Bool.or_false, Bool.or_eq_false_iff, beq_eq_false_iff_ne, ne_eq]
      constructor <;> (rintro rfl; simp at hx)
    exact this _ h128
set_option maxHeartbeats 8000000 in
set_option maxRecDepth 1000000 in
/-- s of at most 8 bytes, of any kind: 'for i, c := range s { if IndexRune(chars, c) >= 0 { return i } }'. -/
theorem indexAny_short (s : ByteArray) (w : World) (h8 : s.size ≤ 8) :
    Calls Tryd.prog 28 #[.string s, .string ⟨#[32, 61]⟩] w fun e w' => e = .returned (.int .i64 (Lib.indexAny s.data.toList [32, 61])) ∧ Below w.heap.size w w' := by
  have hemp : (⟨#[32, 61]⟩ : ByteArray).toList.isEmpty = false := by rw [Lib.toList_data]; rfl
  have h8z : decide ((8 : Int) < (s.size : Int)) = false := decide_eq_false (by omega)
  go_enter Tryd.func28, Tryd.ntmps28
  go_wp2_with (go_at_call 42; go_must (refine (Tryd.strings_shouldUseASCIISet _ _).mono ?_; rintro e w' ⟨rfl, hw⟩; rw [hw, h8z]))
  go_loopg [9, 10] s.size (fun g _ _ wx => ∃ i : Nat, i + g = s.size ∧ Hid (wx.heap[w.heap.size]? = some (.stringIter s i)) ∧ Hid (Below w.heap.size w wx) ∧ Hid (Lib.NoAny s.data.toList [32, 61] i))
  case atStart =>
    exact ⟨0, by omega, World.iter_heap w s 0, (Below.refl _ _).alloc (Nat.le_refl _) _, Lib.NoAny.zero _ _⟩
  case round =>
    obtain ⟨i, hig, hit, HB, HN⟩ := hrel
    by_cases hi : i < s.size
    · obtain ⟨x, hx⟩ : ∃ x : UInt8, s[i]'hi = x := ⟨_, rfl⟩
      have hxl : s.data.toList[i]? = some x := by rw [← hx]; exact Lib.data_getElem? s i hi
      have Hx := Lib.hid hxl
      clear hxl
      by_cases hx128 : x.toNat < 128
      · have hnx := fun ty => Lib.run_next_ascii_at (P := Tryd.prog) wr w.heap.size s i ty hit.out hi (by rw [hx]; exact hx128)
        rw [hx] at hnx
        have hit2 := Lib.hid (Lib.iterAt_heap wr w.heap.size s i (i + 1) hit.out)
        have HB2 := Lib.hid (Lib.below_iterAt HB.out (Nat.le_refl _) s (i + 1))
        generalize wr.iterAt w.heap.size s (i + 1) = w2 at hnx hit2 HB2
        clear hx hit HB
        have hcon := Lib.contains_iff_indexByte [32, 61] x
        have hback : ((x.toNat : Int)).toNat.toUInt8 = x := by simp
        cases hin : [32, 61].contains x
        · rw [hin] at hcon
          have hlt : ¬ ((0 : Int) ≤ Lib.indexByte [32, 61] x) := of_decide_eq_false hcon.symm
          clear hcon
          have HIn := Lib.hid hin
          clear hin
          go_wp2_with (go_at_call 41; go_must (refine (Tryd.strings_IndexRune_ascii _ _ _ (by omega) (by omega)).mono ?_; rintro e w' ⟨rfl, hw⟩; rw [hw, hback]))
          go_roundg (gk - 1)
          case measure => omega
          case rel => exact ⟨i + 1, by omega, hit2, HB2, HN.out.succ Hx.out HIn.out⟩
        · rw [hin] at hcon
          have hge : (0 : Int) ≤ Lib.indexByte [32, 61] x := of_decide_eq_true hcon.symm
          clear hcon
          have HIn := Lib.hid hin
          clear hin
          go_wp2_with (go_at_call 41; go_must (refine (Tryd.strings_IndexRune_ascii _ _ _ (by omega) (by omega)).mono ?_; rintro e w' ⟨rfl, hw⟩; rw [hw, hback]))
          go_ret
          exact ⟨by rw [Lib.indexAny_hit HN.out Hx.out HIn.out]; rfl, HB2.out⟩
      · have hb := decode_bytes s i hi (by rw [hx]; omega)
        obtain ⟨d1, d2⟩ := decode_high s i hi (by rw [hx]; omega)
        have d3 := decode_le s i
        obtain ⟨he, _⟩ := hb ((Utf8.decode s i).2 - 1) (by omega)
        have HN2 := Lib.hid (noAny_high HN.out hb)
        have hnx := fun ty => Lib.run_next_any_at (P := Tryd.prog) wr w.heap.size s i ty hit.out hi
        have hit2 := Lib.hid (Lib.iterAt_heap wr w.heap.size s i (i + (Utf8.decode s i).2) hit.out)
        have HB2 := Lib.hid (Lib.below_iterAt HB.out (Nat.le_refl _) s (i + (Utf8.decode s i).2))
        clear hb
        generalize (Utf8.decode s i).2 = wd at *
        generalize (Utf8.decode s i).1 = rn at *
        generalize wr.iterAt w.heap.size s (i + wd) = w2 at hnx hit2 HB2
        clear hx hit HB hx128 Hx HN
        go_wp2_with (go_at_call 41; go_must (refine (indexRune_high _ _ (by omega)).mono ?_; rintro e w3 ⟨rfl, hb3⟩; have H3 := Lib.hid hb3; clear hb3))
        go_roundg (gk - wd)
        case measure => omega
        case rel =>
          have hlt := (Array.getElem?_eq_some_iff.1 hit2.out).1
          exact ⟨i + wd, by omega, (H3.out.block _ hlt).trans hit2.out, HB2.out.trans (H3.out.mono HB2.out.size), HN2⟩
    · have hnx := fun ty => Lib.run_next_end_at (P := Tryd.prog) wr w.heap.size s i ty hit.out hi
      obtain rfl : i = s.size := by omega
      go_wp2
      go_ret
      exact ⟨by rw [Lib.indexAny_none (by rw [← Lib.size_eq]; exact HN.out)]; rfl, HB.out⟩
theorem indexAny_mem : ∀ l : List UInt8, decide ((0 : Int) ≤ Lib.indexAny l [32, 61]) = l.any fun b => b == 32 || b == 61
  | [] => by rfl
  | b :: l => by
    have ih := indexAny_mem l
    have hc : ([32, 61] : List UInt8).contains b = (b == 32 || b == 61) := by rw [List.contains_cons, List.contains_cons, List.contains_nil, Bool.or_false]
    have hge := Lib.indexAny_ge [32, 61] l
    unfold Lib.indexAny
    rw [hc, List.any_cons]
    cases hb : (b == 32 || b == 61)
    · rw [← ih]
      by_cases h1 : Lib.indexAny l [32, 61] = -1
      · simp [h1]
      · have : (Lib.indexAny l [32, 61] == -1) = false := beq_eq_false_iff_ne.2 h1
        simp only [this, Bool.false_or, Bool.false_eq_true, if_false, decide_eq_decide]
        omega
    · simp
set_option maxHeartbeats 1000000 in
set_option maxRecDepth 100000 in
theorem containsAny_any (s : ByteArray) (w : World) (hs : s.size < 4294967281) :
    Calls Tryd.prog 17 #[.string s, .string ⟨#[32, 61]⟩] w fun e w' => e = .returned (.bool (s.data.toList.any fun b => b == 32 || b == 61)) ∧ Below w.heap.size w w' := by
  have hI : Calls Tryd.prog 28 #[.string s, .string ⟨#[32, 61]⟩] w fun e w' => e = .returned (.int .i64 (Lib.indexAny s.data.toList [32, 61])) ∧ Below w.heap.size w w' := by
    by_cases h8 : s.size ≤ 8
    · exact indexAny_short s w h8
    · have hac : ∀ (j : Nat) b, ([32, 61] : List UInt8)[j]? = some b → b.toNat < 128 := by intro j b hj; match j, hj with | 0, hj => (cases hj; decide) | 1, hj => (cases hj; decide) | n + 2, hj => simp at hj
      refine (Any.strings_IndexAny_long Tryd.lays153 (by intro w; kernel_rfl) (by kernel_rfl) s ⟨#[32, 61]⟩ w (by decide) (by omega) hs (by decide) hac).mono ?_
      rintro e w' ⟨rfl, rfl⟩
      exact ⟨rfl, ((Below.refl _ _).alloc (Nat.le_refl _) _).alloc (by simp) _⟩
  have hm := indexAny_mem s.data.toList
  have HM := Lib.hid hm
  clear hm
  have H := Lib.hid hI
  clear hI
  go_enter Tryd.func17, Tryd.ntmps17
  go_wp2_with (go_at_call 28; go_must (refine H.out.mono ?_; rintro e w1 ⟨rfl, hb⟩; have HB := Lib.hid hb; clear hb))
  go_ret
  exact ⟨by rw [← HM.out]; rfl, HB.out⟩
end Go.Proofs.YtbldfpejcmainaaDoor
