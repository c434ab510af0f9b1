/- Contracts of glyph's library calls, by hand: the reference's list, strings.Fields, strings.ContainsAny at " =". -/
import Derived.Test.YtbldfpejcmainaaDoorGlyphPure
import Derived.Test.YtbldfpejcmainaaDoorEnv
import Derived.Test.YtbldfpejcmainaaDoorLay
import Derived.Test.YtbldfpejcmainaaDoorShelf
import Derived.Test.YtbldfpejcmainaaDoorWWords
import Derived.Laws.RangeAny
import Derived.Laws.Runes
import Derived.Deep.LoopGhost
import Derived.WalkMore
import Derived.ScopeJumps
import Derived.Deep.QuietTactic
import Derived.BigQuiet
namespace Go.Proofs.YtbldfpejcmainaaDoor
open Go.RowKit Go.Proofs.YtbldfpejcmainaaDoorW.PrintWords
theorem ref_list_any (w : World) : Calls Tryd.prog 21 #[] w fun e w' => e = .returned (.string GL.refB) ∧ w' = w := by
  go_enter Tryd.func21, Tryd.ntmps21
  go_wp2
  go_ret
  refine ⟨congrArg (fun l : List UInt8 => Ending.returned (Value.string ⟨l.toArray⟩)) (GL.eqL_sound (m := GL.refL) ?_), rfl⟩
  kernel_rfl
theorem fieldsGo_le : ∀ (l cur : List UInt8), (Lib.fieldsGo cur l).length ≤ l.length + 1
  | [], cur => by unfold Lib.fieldsGo; split <;> simp
  | b :: l, cur => by
    unfold Lib.fieldsGo
    split
    · split
      · have := fieldsGo_le l []; simp only [List.length_cons]; omega
      · have := fieldsGo_le l []; simp only [List.length_cons]; omega
    · have := fieldsGo_le l (cur ++ [b]); simp only [List.length_cons]; omega
/-- strings.Fields hands back a row of its own. -/
theorem fields_any (s : ByteArray) (w : World) (HT : Env w) (hs : s.size < 4294967281) (ha : s.data.toList.all (fun b => decide (b.toNat < 128)) = true) :
    Calls Tryd.prog 23 #[.string s] w fun e w' => ∃ v0_ : Value, e = .returned (v0_) ∧ Kd.R Kd.string 9 w' w.heap.size (fun _ => True) v0_ ((Lib.fields s.data.toList).map fun l => ⟨l.toArray⟩) ∧ Below w.heap.size w w' := by
  have hascii : ∀ (j : Nat) b, s.data.toList[j]? = some b → b.toNat < 128 := fun j b hj => by
    have := List.all_eq_true.1 ha b (List.mem_of_getElem? hj)
    simpa using this
  refine (Any.strings_Fields_core Tryd.lays157 (by kernel_rfl) s w hs hascii HT.space).mono ?_
  rintro e w' ⟨rfl, rfl⟩
  refine ⟨_, rfl, ?_, (Below.refl _ _).alloc (Nat.le_refl _) _⟩
  have hm : (Lib.fields s.data.toList).length ≤ maxLen := by
    have := fieldsGo_le s.data.toList []
    have h2 : s.data.toList.length = s.size := by rw [Array.length_toList]; rfl
    unfold Lib.fields maxLen; omega
  have h2 := World.ownsRow_lit (base := w.heap.size) (e := 9) (size := 1) w ((Lib.fields s.data.toList).map fun l => Value.string ⟨l.toArray⟩).toArray (Lib.fields s.data.toList).length (Nat.le_refl _) hm (by simp)
  refine Kd.R_of_own (enc := Value.string) ?_ (fun _ _ => trivial)
  have he : encs Value.string ((Lib.fields s.data.toList).map fun l => (⟨l.toArray⟩ : ByteArray)) = (Lib.fields s.data.toList).map fun l => Value.string ⟨l.toArray⟩ := by
    simp [encs]
  rw [he, List.length_map]
  rw [List.toList_toArray] at h2
  exact h2
set_option maxHeartbeats 1000000 in
set_option maxRecDepth 100000 in
theorem indexRune_bad (r : Int) (w : World) (h0 : 128 ≤ r) (hv : Utf8.valid r = false) :
    Calls Tryd.prog 41 #[.string ⟨#[32, 61]⟩, .int .i32 r] w fun e w' => e = .returned (.int .i64 (-1)) ∧ Below w.heap.size w w' := by
  have hne : ((r : Int) == 65533) = false := by
    rw [beq_eq_false_iff_ne]; rintro rfl; simp [Utf8.valid] at hv
  have h1 : ¬ r < 128 := by omega
  have hl : Lib.validRune r = false := by rw [← hv, validRune_eq]; rfl
  go_enter Tryd.func41, Tryd.ntmps41
  go_wp2_with (go_at_call 57; refine (Tryd.utf8_ValidRune _ _).mono ?_; go_must (rintro e w' ⟨rfl, hw⟩; rw [hw, hl]))
  go_ret
  exact ⟨rfl, Below.refl _ _⟩
set_option maxHeartbeats 4000000 in
set_option maxRecDepth 100000 in
theorem indexRune_err (w : World) :
    Calls Tryd.prog 41 #[.string ⟨#[32, 61]⟩, .int .i32 65533] w fun e w' => e = .returned (.int .i64 (-1)) ∧ Below w.heap.size w w' := by
  go_enter Tryd.func41, Tryd.ntmps41
  go_wp2
  have n0 : ∀ ty, (Instr.next (.pointer (some ⟨w.heap.size, 0, none⟩)) true ty).run Tryd.prog (w.iter ⟨#[32, 61]⟩ 0) = .ok (.tuple #[.bool true, .int .i64 0, .int .i32 32]) (w.iter ⟨#[32, 61]⟩ 1) := fun ty => run_next_ascii (P := Tryd.prog) w ⟨#[32, 61]⟩ 0 ty (by decide) (by decide)
  have n1 : ∀ ty, (Instr.next (.pointer (some ⟨w.heap.size, 0, none⟩)) true ty).run Tryd.prog (w.iter ⟨#[32, 61]⟩ 1) = .ok (.tuple #[.bool true, .int .i64 1, .int .i32 61]) (w.iter ⟨#[32, 61]⟩ 2) := fun ty => run_next_ascii (P := Tryd.prog) w ⟨#[32, 61]⟩ 1 ty (by decide) (by decide)
  have n2 : ∀ ty, (Instr.next (.pointer (some ⟨w.heap.size, 0, none⟩)) true ty).run Tryd.prog (w.iter ⟨#[32, 61]⟩ 2) = .ok (.tuple #[.bool false]) (w.iter ⟨#[32, 61]⟩ 2) := fun ty => run_next_end (P := Tryd.prog) w ⟨#[32, 61]⟩ 2 ty (by decide)
  refine wp_loop_rounds 3 ?_
  rw [rounds_succ]
  go_wp2
  rw [rounds_succ]
  go_wp2
  rw [rounds_succ]
  go_wp2
  go_ret
  exact ⟨rfl, (Below.refl _ _).alloc (Nat.le_refl _) _⟩
theorem rune_cases (rs : ByteArray) (h1 : 2 ≤ rs.size) (h2 : rs.size ≤ 4) (h3 : ∀ h : rs.size - 1 < rs.size, 128 ≤ (rs[rs.size - 1]'h).toNat) :
    (∃ a b, rs = ⟨#[a, b]⟩ ∧ 128 ≤ b.toNat) ∨ (∃ a b c, rs = ⟨#[a, b, c]⟩) ∨ (∃ a b c d, rs = ⟨#[a, b, c, d]⟩) := by
  obtain ⟨⟨l⟩⟩ := rs
  match l, h1, h2, h3 with
  | [a, b], _, _, h3 => exact .inl ⟨a, b, rfl, h3 (by simp [ByteArray.size])⟩
  | [a, b, c], _, _, _ => exact .inr (.inl ⟨a, b, c, rfl⟩)
  | [a, b, c, d], _, _, _ => exact .inr (.inr ⟨a, b, c, d, rfl⟩)
  | [], h1, _, _ => exact absurd h1 (by simp [ByteArray.size])
  | [a], h1, _, _ => exact absurd h1 (by simp [ByteArray.size])
  | a :: b :: c :: d :: e :: l, _, h2, _ => exact absurd h2 (by simp [ByteArray.size])
set_option maxHeartbeats 4000000 in
set_option maxRecDepth 100000 in
theorem indexRune_val (r : Int) (w : World) (h0 : 128 ≤ r) (hv : Utf8.valid r = true) (he : r ≠ 65533) :
    Calls Tryd.prog 41 #[.string ⟨#[32, 61]⟩, .int .i32 r] w fun e w' => e = .returned (.int .i64 (-1)) ∧ Below w.heap.size w w' := by
  have hne : ((r : Int) == 65533) = false := by rw [beq_eq_false_iff_ne]; exact he
  have h1 : ¬ r < 128 := by omega
  have hl : Lib.validRune r = true := by rw [← hv, validRune_eq]; rfl
  obtain ⟨f1, f2, f3⟩ := encode_facts r hv h0
  obtain ⟨rs, hrs⟩ : ∃ rs, rs = Utf8.encode r := ⟨_, rfl⟩
  rw [← hrs] at f1 f2 f3
  have HR : Hid (rs = Utf8.encode r) := hrs
  clear hrs
  have hcv : ∀ w' : World, (convert 21 9 (.int .i32 r)).run Tryd.prog w' = .ok (.string rs) w' := fun w' => by
    rw [HR.out]; exact run_convert_int_string w' _ _ _ _ (by kernel_rfl) Tryd.underlying9
  clear HR
  have hc := rune_cases rs f1 f2 f3
  clear f1 f2 f3
  rcases hc with ⟨a, b, rfl, hb⟩ | ⟨a, b, c, rfl⟩ | ⟨a, b, c, d, rfl⟩
  · have i1 : ∀ w, (Instr.index 9 (.string ⟨#[32, 61]⟩) (.int .i64 1)).run Tryd.prog w = .ok (.int .u8 61) w := fun _ => by kernel_rfl
    have i2 : ∀ w, (Instr.index 9 (.string ⟨#[a, b]⟩) (.int .i64 1)).run Tryd.prog w = .ok (.int .u8 (b.toNat : Int)) w := fun _ => by kernel_rfl
    have i3 : ∀ w, (Instr.slice 9 (.string ⟨#[32, 61]⟩) (some (.int .i64 2)) none none).run Tryd.prog w = .ok (.string ⟨#[]⟩) w := fun _ => by kernel_rfl
    have iw : IntKind.i64.wrap 2 = 2 := by decide
    have ib : ∀ w, Calls Tryd.prog 56 #[.string ⟨#[]⟩, .int .u8 (b.toNat : Int)] w fun e w' => e = .returned (.int .i64 (-1)) ∧ w' = w := fun w => Tryd.strings_IndexByte _ _ _
    have hne2 : ((61 : Int) != (b.toNat : Int)) = true := by rw [bne_iff_ne]; omega
    go_enter Tryd.func41, Tryd.ntmps41
    go_wp2_with (go_at_call 57; go_must (refine (Tryd.utf8_ValidRune _ _).mono ?_; rintro e w' ⟨rfl, hw⟩; rw [hw, hl]))
    go_wp2
    go_step3
    go_wp2
    refine wp_loop_rounds 1 ?_
    rw [rounds_succ]
    go_wp2
    go_step3
    go_wp2_with fail
    go_quiet (fail)
    have hbq : Below w.heap.size w (w.drewN nq) := ⟨rfl, rfl, rfl, Nat.le_refl _, fun _ _ => rfl⟩
    generalize w.drewN nq = w2 at hbq ⊢
    go_wp2_with fail
    go_quiet ((go_at_call 56; exact Calls.quiet_of_same (ib _)))
    go_wp2
    rw [Exit.noGoto_ret]
    simp only [Exit.inBlock, Exit.then]
    rw [Exit.noGoto_ret]
    go_ret
    exact ⟨rfl, hbq.os, hbq.tape, hbq.output, hbq.size, hbq.block⟩
  all_goals
    go_enter Tryd.func41, Tryd.ntmps41
    go_wp2_with (go_at_call 57; go_must (refine (Tryd.utf8_ValidRune _ _).mono ?_; rintro e w' ⟨rfl, hw⟩; rw [hw, hl]))
    go_wp2
    go_step3
    go_wp2
    refine wp_loop_rounds 1 ?_
    rw [rounds_succ]
    go_wp2
    rw [Exit.noGoto_ret]
    go_ret
    exact ⟨rfl, Below.refl _ _⟩
/-- No rune from 128 on is one of " =". -/
theorem indexRune_high (r : Int) (w : World) (h0 : 128 ≤ r) :
    Calls Tryd.prog 41 #[.string ⟨#[32, 61]⟩, .int .i32 r] w fun e w' => e = .returned (.int .i64 (-1)) ∧ Below w.heap.size w w' := by
  cases hv : Utf8.valid r
  · exact indexRune_bad r w h0 hv
  · by_cases he : r = 65533
    · subst he; exact indexRune_err w
    · exact indexRune_val r w h0 hv he
end Go.Proofs.YtbldfpejcmainaaDoor
