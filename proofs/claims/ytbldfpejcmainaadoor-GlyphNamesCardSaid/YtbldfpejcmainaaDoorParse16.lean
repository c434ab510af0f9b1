/- strconv.ParseInt(s, 16, 32) of one to seven capital hex digits. -/
import Derived.Test.YtbldfpejcmainaaDoorGlyphPure
import Derived.Test.YtbldfpejcmainaaDoorEnv
import Derived.Test.YtbldfpejcmainaaDoorShelf
import Derived.Shelf.Strconv.ParseUint10
import Derived.IntWalk
import Derived.Lib.AtoiErrMem
import Derived.Lib.ItoaWalk
namespace Go.Proofs.YtbldfpejcmainaaDoor
open Go.RowKit
theorem hexv_some {c : UInt8} {d : Int} (h : GL.hexv c = some d) : (48 ≤ c.toNat ∧ c.toNat ≤ 57 ∧ d = (c.toNat : Int) - 48) ∨ (65 ≤ c.toNat ∧ c.toNat ≤ 70 ∧ d = (c.toNat : Int) - 55) := by
  unfold GL.hexv at h
  split at h
  · left; obtain rfl := Option.some.inj h; omega
  · split at h
    · right; obtain rfl := Option.some.inj h; omega
    · cases h
theorem low_nat : ∀ n : Fin 6, Go.bits .or .u8 ((65 + n.val : Nat) : Int) 32 = ((97 + n.val : Nat) : Int) := by decide
theorem low_hex (c : Nat) (h0 : 65 ≤ c) (h1 : c ≤ 70) : Go.bits .or .u8 (c : Int) 32 = (c : Int) + 32 := by
  have h := low_nat ⟨c - 65, by omega⟩
  have e : 65 + (c - 65) = c := by omega
  have e2 : 97 + (c - 65) = c + 32 := by omega
  simp only [e, e2] at h
  rw [h]; omega
theorem low_any (c : Nat) (h0 : 65 ≤ c) (h1 : c ≤ 70) (w : World) : Calls Tryd.prog 77 #[.int .u8 (c : Int)] w fun e w' => e = .returned (.int .u8 ((c : Int) + 32)) ∧ w' = w := by
  have hb := low_hex c h0 h1
  go_enter Tryd.func77, Tryd.ntmps77
  go_wp2
  go_ret
  exact ⟨rfl, rfl⟩
set_option maxHeartbeats 2000000 in
set_option maxRecDepth 100000 in
theorem parseUint16 (t : ByteArray) (v : Int) (h : GL.hexn t.data.toList = some v) (w : World) :
    Calls Tryd.prog 66 #[.string t, .int .i64 16, .int .i64 32] w fun e w' => e = .returned (.tuple #[.int .u64 v, .nilIface]) ∧ 0 ≤ v ∧ v < 268435456 ∧ Below w.heap.size w w' := by
  unfold GL.hexn at h
  split at h
  case isFalse => cases h
  rename_i hl
  obtain ⟨hl1, hl7⟩ := hl
  have hLn : t.data.toList.length = t.size := by rw [Lib.size_eq]
  have hne : t.size ≠ 0 := by omega
  have hemp : t.toList.isEmpty = false := by
    rw [← decide_eq_emptyBytes]
    exact decide_eq_false (fun h => hne (by rw [h]; rfl))
  have hcv := Lib.run_convert_string_bytes (P := Tryd.prog) w 9 34 5 t (u := .string) Tryd.underlying9 Tryd.underlying34 Tryd.underlying5
  have hB : ∀ j, j < t.size → (Lib.bytesWorld w 5 t).cell? ⟨w.heap.size, j, none⟩ = some (.int .u8 (t.data.toList.getD j 0).toNat) := fun j hj => Lib.bytesWorld_cell w 5 t j hj
  have hbw : Below w.heap.size w (Lib.bytesWorld w 5 t) := Lib.bytesWorld_below _ _ _
  obtain ⟨W1, hW1⟩ : ∃ W1, W1 = Lib.bytesWorld w 5 t := ⟨_, rfl⟩
  rw [← hW1] at hcv hB hbw
  clear hW1
  have HBW := Lib.hid hbw
  clear hbw
  obtain ⟨bs, hL⟩ : ∃ bs, bs = t.data.toList := ⟨_, rfl⟩
  rw [← hL] at hB h hl1 hl7 hLn
  clear hL hl1
  have hmv : IntKind.u64.wrap (IntKind.u64.wrap 4294967296 - 1) = 4294967295 := by
    rw [IntKind.wrap_u64, IntKind.wrap_u64]
    decide
  have HH := Lib.hid h
  have HL := Lib.hid hLn
  have ht7 : t.size ≤ 7 := by omega
  clear h hLn hl7
  go_enter Tryd.func66, Tryd.ntmps66
  go_wp2
  go_loop [12, 13, 101] (fun vu vn vi => ∃ (k : Nat) (a : Int), vu = .bool false ∧ vn = .int .u64 a ∧ vi = .int .i64 k ∧ k ≤ t.size ∧ Hid (0 ≤ a ∧ a < 16 ^ k ∧ GL.hexs a (bs.drop k) = some v))
    (fun _ _ vi => t.size - (intOf vi).toNat)
  case atStart => exact ⟨0, 0, rfl, rfl, rfl, by omega, by omega, by decide, HH.out⟩
  case round =>
    obtain ⟨k, a, rfl, rfl, rfl, hk, hh⟩ := hrel
    obtain ⟨a0, a1, hx⟩ := hh.out
    clear hh
    by_cases hkn : k < t.size
    · have hl := HL.out
      have hc := hB k hkn
      have hdrop : bs.drop k = bs[k]'(by omega) :: bs.drop (k + 1) := List.drop_eq_getElem_cons (by omega)
      have hget : bs.getD k 0 = bs[k]'(by omega) := by simp [List.getD, List.getElem?_eq_getElem (show k < bs.length by omega)]
      rw [hdrop] at hx
      rw [hget] at hc
      generalize bs[k]'(by omega) = c at hc hx
      have hc256 : c.toNat < 256 := c.toNat_lt
      clear hB hdrop hget hl
      have hp : (16 : Int) ^ k ≤ 16 ^ 6 := by
        have := Nat.pow_le_pow_right (show 0 < 16 by decide) (show k ≤ 6 by omega)
        exact_mod_cast this
      have hp6 : (16 : Int) ^ 6 = 16777216 := by decide
      have hps : (16 : Int) ^ (k + 1) = 16 ^ k * 16 := by rw [Int.pow_succ]
      have ha2 : a < 16777216 := by omega
      unfold GL.hexs at hx
      obtain ⟨d, hd, hx⟩ := Option.bind_eq_some_iff.1 hx
      have hdd := hexv_some hd
      have hnext : Hid (0 ≤ a * 16 + d ∧ a * 16 + d < 16 ^ (k + 1) ∧ GL.hexs (a * 16 + d) (bs.drop (k + 1)) = some v) := ⟨by omega, by omega, hx⟩
      clear hd hx hp hp6 hps a1
      rcases hdd with ⟨h1, h2, rfl⟩ | ⟨h1, h2, rfl⟩
      · go_wp2
        exact ⟨⟨k + 1, _, rfl, rfl, by go_num, by omega, hnext⟩, by simp only [intOf]; omega⟩
      · go_wp2_with (go_at_call 77; go_must (refine (low_any c.toNat h1 h2 _).mono ?_; rintro e w' ⟨rfl, hw'⟩; rw [hw']; clear hw'))
        rw [show (c.toNat : Int) - 55 = c.toNat + 32 - 97 + 10 by omega] at hnext
        exact ⟨⟨k + 1, _, rfl, rfl, by go_num, by omega, hnext⟩, by simp only [intOf]; omega⟩
    · obtain rfl : k = t.size := by omega
      have hl := HL.out
      rw [List.drop_eq_nil_of_le (by omega)] at hx
      obtain rfl := Option.some.inj hx
      have hp : (16 : Int) ^ t.size ≤ 16 ^ 7 := by
        have := Nat.pow_le_pow_right (show 0 < 16 by decide) ht7
        exact_mod_cast this
      have hp7 : (16 : Int) ^ 7 = 268435456 := by decide
      have ha2 : a < 268435456 := by omega
      clear hp hp7 a1 hl hx
      go_wp2
      go_ret2
      exact ⟨rfl, HBW.out⟩
set_option maxHeartbeats 2000000 in
set_option maxRecDepth 100000 in
theorem parseInt16 (t : ByteArray) (v : Int) (h : GL.hexn t.data.toList = some v) (w : World) :
    Calls Tryd.prog 50 #[.string t, .int .i64 16, .int .i64 32] w fun e w' => e = .returned (.tuple #[.int .i64 v, .nilIface]) ∧ 0 ≤ v ∧ v < 268435456 ∧ Below w.heap.size w w' := by
  have hU := parseUint16 t v h w
  have hlen : 1 ≤ t.data.toList.length := by
    unfold GL.hexn at h
    split at h
    · rename_i hl; exact hl.1
    · cases h
  have hne : t.size ≠ 0 := by rw [Lib.size_eq]; omega
  have hpos : 0 < t.size := by omega
  have hemp : t.toList.isEmpty = false := by
    rw [← decide_eq_emptyBytes]
    exact decide_eq_false (fun h => hne (by rw [h]; rfl))
  have hc : ∃ c, t[0]'hpos = c ∧ c.toNat ≠ 43 ∧ c.toNat ≠ 45 := by
    refine ⟨_, rfl, ?_⟩
    have hg := Lib.getD_at t 0 hpos
    unfold GL.hexn at h
    split at h
    · cases hL : t.data.toList with
      | nil => rw [hL] at hlen; simp at hlen
      | cons b l =>
        rw [hL] at h hg
        unfold GL.hexs at h
        obtain ⟨d, hd, _⟩ := Option.bind_eq_some_iff.1 h
        have := hexv_some hd
        have e : t[0]'hpos = b := hg
        rw [e]; omega
    · cases h
  obtain ⟨c, hc, hc1, hc2⟩ := hc
  have hk1 : ¬ (c.toNat : Int) = 43 := by omega
  have hk2 : ¬ (c.toNat : Int) = 45 := by omega
  have HU := Lib.hid hU
  clear hU h hlen
  go_enter Tryd.func50, Tryd.ntmps50
  go_wp2_with (go_at_call 66; go_must (refine HU.out.mono ?_; rintro e w' ⟨rfl, hv0, hv1, hb⟩; have HB := Lib.hid hb; clear hb))
  go_ret2
  exact ⟨rfl, hv0, hv1, HB.out⟩
set_option maxHeartbeats 2000000 in
set_option maxRecDepth 100000 in
theorem strconvParseInt16 (t : ByteArray) (v : Int) (h : GL.hexn t.data.toList = some v) (w : World) :
    Calls Tryd.prog 35 #[.string t, .int .i64 16, .int .i64 32] w fun e w' => e = .returned (.tuple #[.int .i64 v, .nilIface]) ∧ 0 ≤ v ∧ v < 268435456 ∧ Below w.heap.size w w' := by
  have HU := Lib.hid (parseInt16 t v h w)
  clear h
  go_enter Tryd.func35, Tryd.ntmps35
  go_wp2_with (go_at_call 50; go_must (refine HU.out.mono ?_; rintro e w' ⟨rfl, hv0, hv1, hb⟩; have HB := Lib.hid hb; clear hb))
  go_ret2
  exact ⟨rfl, hv0, hv1, HB.out⟩
end Go.Proofs.YtbldfpejcmainaaDoor
