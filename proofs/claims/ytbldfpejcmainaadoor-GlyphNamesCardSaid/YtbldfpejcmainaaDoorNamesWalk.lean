/- GlyphNames, walked by hand over the printed contracts. -/
import Derived.Test.YtbldfpejcmainaaDoorGlyphNames
import Derived.Test.YtbldfpejcmainaaDoorJoin
import Derived.Deep.LoopGhost
import Derived.Deep.RegionHeld
namespace Go.Proofs.YtbldfpejcmainaaDoor
open Go.RowKit Go.Proofs.YtbldfpejcmainaaDoorW.PrintWords Go.Proofs.YtbldfpejcmainaaDoor.GA
/-- A slice of the call's own, opened: its cells. -/
theorem own_open {α : Type} {enc : α → Value} {h1 : ∀ x, (enc x).oneCell' = true} {e : Nat} {w : World} {base : Nat} {ok : Nat → Prop} {v : Value} {xs : List α} (h : (Kd.scalar enc h1).R e w base ok v xs) (hn : 0 < xs.length) :
    ∃ b o c, v = .slice (some ⟨b, o, none⟩) xs.length c ∧ ∀ (j : Nat) x, xs[j]? = some x → w.cell? ⟨b, o + j, none⟩ = some (enc x) := by
  obtain ⟨A, c, rfl, _, hC⟩ := Kd.R_reads h
  obtain ⟨b, o, rfl, _, hc⟩ := C_cells hC hn
  exact ⟨b, o, c, rfl, hc⟩
theorem names_get {j : Nat} {y : ByteArray} (h : names[j]? = some y) : ∃ hj : j < 351, y = mk (GL.ents[j]'(by rw [ents_len]; exact hj)).1 := by
  unfold names at h
  rw [List.getElem?_map] at h
  obtain ⟨e, he, rfl⟩ := Option.map_eq_some_iff.1 h
  obtain ⟨hj, rfl⟩ := List.getElem?_eq_some_iff.1 he
  exact ⟨by rw [← ents_len]; exact hj, rfl⟩
theorem names_inj {i j : Nat} {y : ByteArray} (hi : names[i]? = some y) (hj : names[j]? = some y) : j = i := by
  obtain ⟨h1, e1⟩ := names_get hi
  obtain ⟨h2, e2⟩ := names_get hj
  refine ent_inj j i h2 h1 ?_
  have := congrArg (·.data.toList) (e2.symm.trans e1)
  simpa only [mk_list] using this
set_option maxHeartbeats 1000000 in
set_option maxRecDepth 100000 in
theorem GlyphNames_walk (k sign : Int) (w : World) (_wk : (Lit.int .i64 k).wf = true) (_ws : (Lit.int .u8 sign).wf = true) (HT : Env w) :
    Calls Tryd.prog 4 #[.int .i64 k, .int .u8 sign] w fun e w' => e = .returned (.bool true) ∧ Below w.heap.size w w' := by
  have hbd := and_bd k
  obtain ⟨n, hn⟩ : ∃ n : Nat, Go.bits .and .i64 k 65535 = n := ⟨(Go.bits .and .i64 k 65535).toNat, by omega⟩
  obtain ⟨i, hi⟩ : ∃ i : Nat, n % 351 = i := ⟨_, rfl⟩
  have hit : Int.tmod (n : Int) 351 = (i : Int) := by rw [Int.tmod_eq_emod_of_nonneg (by omega)]; omega
  have hi351 : i < 351 := by omega
  have hlt : i < GL.ents.length := by rw [ents_len]; exact hi351
  obtain ⟨E, hE⟩ : ∃ E, GL.ents[i] = E := ⟨_, rfl⟩
  have hmem : E ∈ GL.ents := by rw [← hE]; exact List.getElem_mem hlt
  have hul := us_len E hmem
  have huni := uni_f 392 (mk E.1) (by rw [mk_size]; have := word_len E hmem; simp only [GL.word, List.length_append] at this; omega)
  rw [mk_list] at huni
  have hown := uni_own i hi351
  rw [hE] at hown
  rw [hown] at huni
  have hnl := names_len
  have hname : names[i]? = some (mk E.1) := by rw [← hE, names, List.getElem?_map, List.getElem?_eq_getElem hlt]; rfl
  have hns : (mk E.1).size ≤ 100 := by rw [mk_size]; have := word_len E hmem; simp only [GL.word, List.length_append] at this; omega
  clear hbd hown
  have HA := Lib.hid (fun W HTW => hornbooklaw14_awake.calls 400 true W HTW (awake_f 48))
  have HN := Lib.hid (fun W HTW => glyph_Names.calls 400 names W HTW (names_f 48))
  have HU := Lib.hid (fun W HTW => glyph_Uni.calls 400 (mk E.1) (GL.us E) true W HTW huni)
  have HT0 := Lib.hid HT
  have HE := Lib.hid hE
  have HM := Lib.hid hmem
  clear HT huni hE hmem hi
  generalize hL : names = l at *
  generalize hu : GL.us E = u at *
  generalize hnm : mk E.1 = nm at *
  have HL := Lib.hid hL
  have HUs := Lib.hid hu
  have HNm := Lib.hid hnm
  clear hL hu hnm
  go_enter Tryd.func4, Tryd.ntmps4
  go_wp2_with (first
    | (go_at_call 6; go_must (refine (HA.out _ HT0.out).mono ?_; rintro e w1 ⟨rfl, hb1⟩; have HB1 := Lib.hid hb1; clear hb1))
    | (go_at_call 11; go_must (refine (HN.out _ (HT0.out.of HB1.out)).mono ?_; rintro e w2 ⟨v0, rfl, hR, hb2⟩; obtain ⟨lb, lo, lc, rfl, hlc⟩ := own_open hR (by rw [hnl]; decide); have HB2 := Lib.hid (HB1.out.trans (hb2.mono HB1.out.size)); have hci := hlc i _ hname; have HLC := Lib.hid hlc; clear hR hb2 hlc))
    | (go_at_call 7; go_must (refine (HU.out _ (HT0.out.of HB2.out)).mono ?_; rintro e w3 ⟨v1, rfl, hR, hb3⟩; obtain ⟨ub, uo, uc, rfl, huc⟩ := own_open hR (by omega); have HB3 := Lib.hid (HB2.out.trans (hb3.mono HB2.out.size)); have HK3 := Lib.hid hb3; have HLC3 := Lib.hid (fun (j : Nat) x (hx : l[j]? = some x) => cell_kept hb3 (HLC.out j x hx)); have HUC := Lib.hid huc; clear hR hb3 huc)))
  have hul2 : 1 ≤ u.length ∧ u.length ≤ 2 := hul
  go_loopg [10] u.length (fun g vj wx => ∃ j : Nat, j + g = u.length ∧ vj = .int .i64 j ∧ Hid (Below w3.heap.size w3 wx))
  case atStart => exact ⟨0, by omega, rfl, Below.refl _ _⟩
  case round =>
    obtain ⟨j, hj, rfl, HW⟩ := hrel
    by_cases hju : j < u.length
    · obtain ⟨x, hx⟩ : ∃ x, u[j]? = some x := ⟨_, List.getElem?_eq_getElem hju⟩
      have hc := cell_kept HW.out (HUC.out j x hx)
      have HG := Lib.hid (fun W HTW => utf_Good.calls x true W HTW (good_f E HM.out x (by rw [HUs.out]; exact List.mem_of_getElem? hx)))
      clear hx
      go_wp2_with (go_at_call 15; go_must (refine (HG.out _ (HT0.out.of (HB3.out.trans (HW.out.mono HB3.out.size)))).mono ?_; rintro e w' ⟨rfl, hd⟩; have HW2 := Lib.hid (HW.out.trans (hd.below.mono HW.out.size)); clear hd))
      go_roundg (u.length - (j + 1))
      case measure => omega
      case rel => exact ⟨j + 1, by omega, by go_num, HW2⟩
    · obtain rfl : j = u.length := by omega
      obtain ⟨x, hx⟩ : ∃ x, u[0]? = some x := ⟨_, List.getElem?_eq_getElem (by omega)⟩
      have hc := cell_kept HW.out (HUC.out 0 x hx)
      rw [Nat.add_zero] at hc
      have HX := Lib.hid hx
      have HBk := Lib.hid (fun W HTW => glyph_Back.calls 400 x (mk (GL.back x).1) (GL.back x).2 W HTW (back_f 48 x))
      clear hx
      -- where the name that x leads back to stands
      obtain ⟨m, hm⟩ : ∃ m : Nat, ((GL.back x).2 = true → names[m]? = some (mk (GL.back x).1)) ∧ (u.length = 1 → (GL.back x).2 = true ∧ m ≤ i) := by
        have hb1 : u.length = 1 → ∃ m, m ≤ i ∧ ∃ hm : m < 351, GL.back x = ((GL.ents[m]'(by rw [ents_len]; exact hm)).1, true) := fun hu1 => by
          refine back_first i hi351 x ?_
          have e : GL.us (GL.ents[i]'(by rw [ents_len]; exact hi351)) = u := by rw [← HUs.out, ← HE.out]
          rw [e]
          match u, hu1, HX.out with
          | [y], _, hy => simpa using hy
        rcases back_any x with ⟨h1, m, hm, h2⟩ | h1
        · refine ⟨m, fun _ => by rw [h2, names, List.getElem?_map, List.getElem?_eq_getElem (by rw [ents_len]; exact hm)]; rfl, fun hu1 => ⟨h1, ?_⟩⟩
          obtain ⟨m', h3, h4, h5⟩ := hb1 hu1
          rw [h5] at h2
          have := ent_inj m' m h4 hm h2
          omega
        · refine ⟨0, fun h => (by rw [h1] at h; cases h), fun hu1 => ?_⟩
          obtain ⟨m', h3, h4, h5⟩ := hb1 hu1
          rw [h5] at h1
          cases h1
      generalize mk (GL.back x).1 = bn at *
      generalize (GL.back x).2 = has at *
      have HMm := Lib.hid hm
      clear hm
      go_wp2_with (go_at_call 9; go_must (refine (HBk.out _ (HT0.out.of (HB3.out.trans (HW.out.mono HB3.out.size)))).mono ?_; rintro e w4 ⟨rfl, hb4⟩; have HB4 := Lib.hid (HW.out.trans (hb4.mono HW.out.size)); clear hb4))
      go_loopg [11, 14] 351 (fun g va vj wx => ∃ (j : Nat) (z : Int), j + g = 351 ∧ va = .int .i64 z ∧ Hid (z = if has = true ∧ m < j then (m : Int) else -1) ∧ vj = .int .i64 j ∧ Hid (Below w3.heap.size w3 wx))
      case atStart => exact ⟨0, -1, by omega, rfl, by rw [if_neg (by omega)]; exact Lib.hid rfl, rfl, HB4⟩
      case round =>
        obtain ⟨j, z, hj, rfl, HZ, rfl, HV⟩ := hrel
        by_cases hj351 : j < 351
        · obtain ⟨y, hy⟩ : ∃ y, l[j]? = some y := ⟨_, List.getElem?_eq_getElem (by omega)⟩
          have hcj := cell_kept HV.out (HLC3.out j y hy)
          have hci2 := cell_kept HV.out (HLC3.out i nm hname)
          have hstay : (¬ (has = true ∧ j = m)) → z = if has = true ∧ m < j + 1 then (m : Int) else -1 := fun hne => by
            rw [HZ.out]
            by_cases h1 : has = true ∧ m < j
            · rw [if_pos h1, if_pos ⟨h1.1, by omega⟩]
            · rw [if_neg h1, if_neg (fun h2 => h1 ⟨h2.1, by have : j ≠ m := fun e => hne ⟨h2.1, e⟩; omega⟩)]
          have HS := Lib.hid hstay
          clear hstay
          have hyi : (j = i → y = nm) ∧ (¬ j = i → ¬ y.toList = nm.toList) := by
            refine ⟨fun e => by subst e; exact Option.some.inj (hy.symm.trans hname), fun hji e => hji (names_inj (by rw [HL.out]; exact hname) (by rw [HL.out, hy]; exact congrArg some (data_inj (by rw [← Lib.toList_data, ← Lib.toList_data]; exact e))))⟩
          have hym : has = true → (j = m → y = bn) ∧ (¬ j = m → ¬ y.toList = bn.toList) := fun ht => by
            have hmb := HMm.out.1 ht
            rw [HL.out] at hmb
            refine ⟨fun e => by subst e; exact Option.some.inj (hy.symm.trans hmb), fun hjm e => hjm (names_inj (by rw [HL.out]; exact hmb) (by rw [HL.out, hy]; exact congrArg some (data_inj (by rw [← Lib.toList_data, ← Lib.toList_data]; exact e))))⟩
          have HYI := Lib.hid hyi
          have HYM := Lib.hid hym
          clear hyi hym hy
          have hjj : ((j : Int) = i) ↔ j = i := by omega
          by_cases hji : j = i
          · have hyn : y = nm := HYI.out.1 hji
            subst hji
            subst hyn
            cases has with
            | true =>
              by_cases hjm : j = m
              · subst hjm
                have HYB := Lib.hid ((HYM.out rfl).1 rfl)
                have hz : z < 0 := by have := HZ.out; rw [if_neg (by omega)] at this; omega
                go_upto_region 21 with (go_quiet (fail))
                have hyb : y.toList = bn.toList := by rw [HYB.out]
                go_wp2
                go_roundg (350 - j)
                case measure => omega
                case rel => exact ⟨j + 1, j, by omega, rfl, by rw [if_pos ⟨trivial, by omega⟩]; exact Lib.hid rfl, by go_num, pw_below_drewN HV.out _⟩
              · have hyb := (HYM.out rfl).2 hjm
                go_wp2_with (go_quiet (fail))
                go_roundg (350 - j)
                case measure => omega
                case rel => exact ⟨j + 1, z, by omega, rfl, HS.out (fun h => hjm h.2), by go_num, pw_below_drewN HV.out _⟩
            | false =>
              go_wp2_with (go_quiet (fail))
              go_roundg (350 - j)
              case measure => omega
              case rel => exact ⟨j + 1, z, by omega, rfl, HS.out (fun h => by cases h.1), by go_num, pw_below_drewN HV.out _⟩
          · have hyn := HYI.out.2 hji
            have hyn3 : (y.toList == nm.toList) = false := by simpa using hyn
            have hyn1 : ¬ y = nm := fun e => hyn (by rw [e])
            have hji2 : ¬ (j : Int) = i := by omega
            cases has with
            | true =>
              by_cases hjm : j = m
              · subst hjm
                have HYB := Lib.hid ((HYM.out rfl).1 rfl)
                have hz : z < 0 := by have := HZ.out; rw [if_neg (by omega)] at this; omega
                go_upto_region 21 with (go_quiet (fail))
                have hyb : y.toList = bn.toList := by rw [HYB.out]
                go_wp2
                go_roundg (350 - j)
                case measure => omega
                case rel => exact ⟨j + 1, j, by omega, rfl, by rw [if_pos ⟨trivial, by omega⟩]; exact Lib.hid rfl, by go_num, pw_below_drewN HV.out _⟩
              · have hyb := (HYM.out rfl).2 hjm
                go_wp2_with (go_quiet (fail))
                go_roundg (350 - j)
                case measure => omega
                case rel => exact ⟨j + 1, z, by omega, rfl, HS.out (fun h => hjm h.2), by go_num, pw_below_drewN HV.out _⟩
            | false =>
              go_wp2_with (go_quiet (fail))
              go_roundg (350 - j)
              case measure => omega
              case rel => exact ⟨j + 1, z, by omega, rfl, HS.out (fun h => by cases h.1), by go_num, pw_below_drewN HV.out _⟩
        · obtain rfl : j = 351 := by omega
          have hfin : u.length = 2 ∨ (u.length = 1 ∧ 0 ≤ z ∧ z ≤ i) := by
            rcases (show u.length = 1 ∨ u.length = 2 by omega) with h1 | h1
            · obtain ⟨h2, h3⟩ := HMm.out.2 h1
              have := HZ.out
              rw [if_pos ⟨h2, by omega⟩] at this
              exact .inr ⟨h1, by omega, by omega⟩
            · exact .inl h1
          have HF := Lib.hid hfin
          have hci2 := cell_kept HV.out (HLC3.out i nm hname)
          have hbw : wr.heap.size ≤ wr.heap.size := Nat.le_refl _
          have hcv : (convert 34 9 (.slice (some ⟨wr.heap.size, 0, none⟩) 1 1)).run Tryd.prog ((wr.alloc (.cells #[.int .u8 sign] 5)).drew) = .ok (.string (strOfNums [sign])) ((wr.alloc (.cells #[.int .u8 sign] 5)).drew) :=
            run_convert_bytes_arg _ 34 5 Tryd.underlying34 Tryd.underlying5 wr.heap.size 0 1 1 [sign] rfl (fun q hq => by
              obtain rfl : q = 0 := by omega
              exact (Boxed.new wr 5 (.int .u8 sign)).cell) 9 Tryd.underlying9
          have hb1 : (strOfNums [sign]).size = 1 := rfl
          generalize strOfNums [sign] = sb at *
          have HU2 : Hid (∀ W, Env W → Calls Tryd.prog 7 #[.string (nm ++ sb)] W fun e w' => ∃ (A : Option Addr) (len c : Nat) (is : Bool), e = .returned (.tuple #[.slice A len c, .bool is]) ∧ (is = false → len = 0) ∧ Below W.heap.size W w') := Lib.hid (fun W HTW => by
            have hs2 : (nm ++ sb).size ≤ 1000000 := by rw [ByteArray.size_append]; omega
            have hu := uni_f 392 (nm ++ sb) hs2
            have hz := uni_none (nm ++ sb).data.toList
            generalize GL.uni (nm ++ sb).data.toList = q at hu hz
            refine (glyph_Uni.calls 400 (nm ++ sb) q.1 q.2 W HTW hu).mono ?_
            rintro e w' ⟨v0, rfl, hR, hb⟩
            obtain ⟨A, c, rfl, _, _⟩ := Kd.R_reads hR
            exact ⟨A, _, c, _, rfl, fun hf => by rw [hz hf]; rfl, hb⟩)
          have hbx : Below wr.heap.size wr (wr.alloc (.cells #[.int .u8 sign] 5)).drew := ((Below.refl _ _).alloc (Nat.le_refl _) _).drew
          have hci3 := cell_kept hbx hci2
          have HBX := Lib.hid hbx
          have HVR := Lib.hid (HB3.out.trans (HV.out.mono HB3.out.size))
          have HTR := Lib.hid ((HT0.out.of HVR.out).of hbx)
          clear hbx
          have hcat : nm.size + sb.size ≤ 9223372036854775807 := by omega
          have hi0 : (0 : Int) ≤ (i : Int) := by omega
          have hi1 : (i : Int) < ((351 : Nat) : Int) := by omega
          have hi2 : (i : Int) < 351 := by omega
          go_upto_region 23 with (fail)
          go_region_held (fun W => W.cell? ⟨lb, lo + i, none⟩ = some (.string nm) ∧ Below wr.heap.size wr W) (first | exact ⟨hci2, (Below.refl _ _).drew⟩ | (refine ⟨?_, ?_⟩ <;> first | assumption | (exact cell_kept ((Below.refl _ _).alloc (Nat.le_refl _) _) (by assumption)) | (exact cell_kept ((Below.refl _ _).alloc (Nat.le_refl _) _).drew (by assumption)) | (repeat' first | assumption | exact Below.refl _ _ | apply Below.drew | (refine Below.alloc ?_ (by first | exact Nat.le_refl _ | simp | exact Below.size (by assumption)) _)))) (first | (go_at_call 7; refine (HU2.out _ HTR.out).mono ?_; rintro e w5 ⟨A5, len5, c5, is, rfl, his, hb5⟩; have hS5 := cell_kept hb5 hci3; have hB5 := HBX.out.trans (hb5.mono HBX.out.size); have HIS := Lib.hid his; clear his))
          all_goals
            have hfin2 : (u.length : Int) = 2 ∨ (¬ (u.length : Int) = 2 ∧ 0 ≤ z ∧ z ≤ i) := by
              have := HF.out
              omega
            have HBL := Lib.hid (HVR.out.trans (hB5.mono HVR.out.size))
            clear hB5 hb5
            rcases hfin2 with h2 | ⟨h2, hz0, hzi⟩
            all_goals
              cases is with
              | true =>
                go_wp2
                go_ret
                exact ⟨rfl, HBL.out⟩
              | false =>
                have hl0 := HIS.out rfl
                subst hl0
                go_wp2
                go_ret
                exact ⟨rfl, HBL.out⟩
end Go.Proofs.YtbldfpejcmainaaDoor
