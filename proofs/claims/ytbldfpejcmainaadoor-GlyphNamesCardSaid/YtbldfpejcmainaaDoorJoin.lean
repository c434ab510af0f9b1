/- strings.Join off the shelf, of a slice that is read; slices.Grow at nil, for strings. -/
import Derived.Test.YtbldfpejcmainaaDoorEnv
import Derived.Test.YtbldfpejcmainaaDoorLay
import Derived.Test.YtbldfpejcmainaaDoorShelf
import Derived.Test.YtbldfpejcmainaaDoorWWords
import Derived.Test.YtbldfpejcmainaaDoorWZeros
namespace Go.Proofs.YtbldfpejcmainaaDoor
open Go.RowKit Go.Proofs.YtbldfpejcmainaaDoorW.PrintWords
theorem addr_plain {w : World} {a : Addr} {v : Value} (h : w.cell? a = some v) : a = ⟨a.block, a.off, none⟩ := by
  unfold World.cell? at h
  split at h
  · split at h
    · cases h
    · rename_i hs
      obtain ⟨b, o, s⟩ := a
      cases s
      · rfl
      · simp at hs
  · cases h
theorem add_off (b o j : Nat) : (⟨b, o, none⟩ : Addr).add j = ⟨b, o + j, none⟩ := by unfold Addr.add; split <;> simp_all
/-- The cells of a row of one-cell elements that is read. -/
theorem C_cells {α : Type} {enc : α → Value} {h1 : ∀ x, (enc x).oneCell' = true} {w : World} {A : Option Addr} {n : Nat} {xs : List α} (h : (Kd.scalar enc h1).C w A n xs) (hn : 0 < n) :
    ∃ b o, A = some ⟨b, o, none⟩ ∧ b < w.heap.size ∧ ∀ j x, xs[j]? = some x → w.cell? ⟨b, o + j, none⟩ = some (enc x) := by
  obtain ⟨hl, hm, hc⟩ := h
  obtain ⟨ad, rfl, hc2⟩ := hc hn
  have hcell : ∀ j x, xs[j]? = some x → w.cell? (ad.add j) = some (enc x) := by
    intro j x hx
    obtain ⟨c, _, hk, hcc⟩ := hc2 j x hx
    have hk' : c = [enc x] := hk
    subst hk'
    have := hcc 0 (enc x) rfl
    rwa [show j * (Kd.scalar enc h1).sz + 0 = j from by show j * 1 + 0 = j; omega] at this
  have h0 : ∃ x, xs[0]? = some x := ⟨xs[0]'(by omega), List.getElem?_eq_getElem (by omega)⟩
  obtain ⟨x0, hx0⟩ := h0
  have hp := addr_plain (hcell 0 x0 hx0)
  have hb : (ad.add 0).block = ad.block := by unfold Addr.add; split <;> rfl
  have hlt := World.block_lt_of_cell? w _ (hcell 0 x0 hx0)
  rw [hb] at hlt
  obtain ⟨b, o, s⟩ := ad
  have hs : s = none := by
    unfold Addr.add at hp
    simp only [if_true] at hp
    simpa using hp
  subst hs
  exact ⟨b, o, rfl, hlt, fun j x hx => by rw [← add_off]; exact hcell j x hx⟩
theorem join_any (A0 : Option Addr) (c0 : Nat) (l0 : List ByteArray) (sep : ByteArray) (w : World) (hr0 : Kd.C Kd.string w A0 l0.length l0) (hc0 : l0.length ≤ c0)
    (hN : l0.length ≤ 140737488355328) (hL : (Lib.join (l0.map (·.data.toList)) sep.data.toList).length ≤ 140737488355328) :
    Calls Tryd.prog 30 #[.slice A0 l0.length c0, .string sep] w fun e w' => e = .returned (.string ⟨(Lib.join (l0.map (·.data.toList)) sep.data.toList).toArray⟩) ∧ Below w.heap.size w w' := by
  rcases Nat.eq_zero_or_pos l0.length with h0 | h0
  · obtain rfl := List.eq_nil_of_length_eq_zero h0
    exact (Tryd.strings_Join_none A0 c0 sep w).mono fun e w' ⟨he, hw⟩ => ⟨he, by rw [hw]; exact Below.refl _ _⟩
  · obtain ⟨b, o, rfl, hb, hcells⟩ := C_cells hr0 h0
    exact Tryd.strings_Join b o c0 l0 sep w hcells hb hN hc0 hL
set_option maxHeartbeats 1000000 in
set_option maxRecDepth 100000 in
theorem grow_nil (n : Int) (w : World) (h0 : 0 ≤ n) (hn : n ≤ 8796093022208) :
    Calls Tryd.prog 48 #[.slice none 0 0, .int .i64 n] w fun e w' => ∃ v0_ : Value, e = .returned (v0_) ∧ Kd.R Kd.string 9 w' w.heap.size (fun _ => True) v0_ [] ∧ Below w.heap.size w w' := by
  by_cases hz : n = 0
  · subst hz
    go_enter Tryd.func48, Tryd.ntmps48
    go_wp2
    go_ret
    exact ⟨_, rfl, Kd.R_nil _ _ _ _ _, Below.refl _ _⟩
  · have hp : 0 < n := by omega
    have info9 : (Tryd.prog.info? 9).map (fun i => (i.zero, i.size, i.bytes)) = some (some (.string ⟨#[]⟩), 1, 16) := by kernel_rfl
    go_enter Tryd.func48, Tryd.ntmps48
    go_wp2_with (at_builtin; go_must (refine Kd.R_append_zeros Kd.string (w0 := w) w.heap.size rfl (.tmp 20) (.tmp 21) 28 3 9 (.string ⟨#[]⟩) 16 rfl Tryd.underlying28 Tryd.underlying3 info9 rfl (by decide) (by omega) (.slice none 0 0) [] ⟨#[]⟩ n (fun _ => True) rfl rfl rfl (fun _ _ => trivial) (Kd.R_nil _ _ _ _ _) h0 (Below.refl _ _) (Nat.le_refl _) ?aL ?_))
    case aL => simp only [List.length_nil]; omega
    intro v1 w1 HR hb _ _
    obtain ⟨A, c, rfl, hlc, _⟩ := Kd.R_reads HR
    have HR2 := Lib.hid (Kd.R_take HR (Nat.zero_le _))
    have HB := Lib.hid hb
    have hl0 : ¬ (c : Int) < 0 := by omega
    clear HR hb
    generalize (List.replicate n.toNat (⟨#[]⟩ : ByteArray)).length = m at hlc HR2
    go_wp2
    go_ret
    exact ⟨_, rfl, HR2.out, HB.out⟩
end Go.Proofs.YtbldfpejcmainaaDoor
