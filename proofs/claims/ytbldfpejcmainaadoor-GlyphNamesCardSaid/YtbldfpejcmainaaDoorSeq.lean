/- glyph.values: a range over strings.SplitSeq (an iterator that writes its own captured variable), numbers read and gathered. -/
import Derived.Test.YtbldfpejcmainaaDoorParse16
import Derived.Test.YtbldfpejcmainaaDoorWWords
import Derived.RangeFuncNested
import Derived.RangeFuncBound
import Derived.RangeFuncCalls
import Derived.RangeFuncLeaves
import Derived.RangeFuncBox
import Derived.Maps.AppendAt
import Derived.Shelf.Abstract
import Derived.OwnWalkIn
import Derived.TacticsInMore
import Derived.LoopNIn
import Derived.LoopIn
import Derived.Lib.IndexLaws
namespace Go.Proofs.YtbldfpejcmainaaDoor
open Go.RowKit Go.Shelf Go.Proofs.YtbldfpejcmainaaDoorW.PrintWords
attribute [local go_sem] Oper.semAt_some
/-- What the captured text is cut to. -/
def cutB (s : ByteArray) : List ByteArray := (GL.cuts [] s.data.toList).map fun l => ⟨l.toArray⟩
theorem cuts_acc : ∀ (l cur : List UInt8), ∃ h t, GL.cuts [] l = h :: t ∧ GL.cuts cur l = (cur ++ h) :: t
  | [], cur => ⟨[], [], by simp [GL.cuts], by simp [GL.cuts]⟩
  | b :: l, cur => by
    by_cases hb : b = 44
    · exact ⟨[], GL.cuts [] l, by simp [GL.cuts, hb], by simp [GL.cuts, hb]⟩
    · obtain ⟨h, t, h1, h2⟩ := cuts_acc l [b]
      obtain ⟨h', t', h1', h2'⟩ := cuts_acc l (cur ++ [b])
      rw [h1] at h1'
      cases h1'
      refine ⟨b :: h, t, ?_, ?_⟩
      · simp [GL.cuts, hb, h2]
      · simp [GL.cuts, hb, h2']
theorem cuts_none : ∀ (l : List UInt8), Lib.indexByte l 44 = -1 → GL.cuts [] l = [l]
  | [], _ => rfl
  | b :: l, h => by
    unfold Lib.indexByte at h
    split at h
    · cases h
    · rename_i hb
      have hb' : b ≠ 44 := fun e => hb (by simp [e])
      split at h
      · rename_i hl
        have hl' : Lib.indexByte l 44 = -1 := by simpa using hl
        have ih := cuts_none l hl'
        obtain ⟨a, t, h1, h2⟩ := cuts_acc l [b]
        rw [ih] at h1
        cases h1
        simp [GL.cuts, hb', h2]
      · have := Lib.indexByte_ge l 44; omega
theorem cuts_some : ∀ (l : List UInt8) (i : Nat), Lib.indexByte l 44 = (i : Int) → i < l.length ∧ GL.cuts [] l = l.take i :: GL.cuts [] (l.drop (i + 1))
  | [], i, h => by simp [Lib.indexByte] at h
  | b :: l, i, h => by
    unfold Lib.indexByte at h
    split at h
    · rename_i hb
      have hb' : b = 44 := by simpa using hb
      obtain rfl : i = 0 := by omega
      simp [GL.cuts, hb']
    · rename_i hb
      have hb' : b ≠ 44 := fun e => hb (by simp [e])
      split at h
      · exact absurd h (by omega)
      · have hge := Lib.indexByte_ge l 44
        rename_i hl
        have hl' : Lib.indexByte l 44 ≠ -1 := by simpa using hl
        obtain ⟨j, rfl⟩ : ∃ j, i = j + 1 := ⟨i - 1, by omega⟩
        obtain ⟨hj, ih⟩ := cuts_some l j (by omega)
        obtain ⟨a, t, h1, h2⟩ := cuts_acc l [b]
        rw [ih] at h1
        cases h1
        exact ⟨by simp; omega, by simp [GL.cuts, hb', h2]⟩
theorem cutB_none (s : ByteArray) (h : Lib.indexByte s.data.toList 44 = -1) : cutB s = [s] := by
  rw [cutB, cuts_none _ h]; simp
theorem cutB_some (s : ByteArray) (i : Nat) (h : Lib.indexByte s.data.toList 44 = (i : Int)) : i < s.size ∧ cutB s = s.extract 0 i :: cutB (s.extract (i + 1) s.size) := by
  obtain ⟨h1, h2⟩ := cuts_some _ _ h
  refine ⟨by rw [Lib.size_eq]; exact h1, ?_⟩
  rw [cutB, h2, List.map_cons, cutB]
  congr 1
  · apply ByteArray.ext; apply Array.ext'; rw [Lib.extract_data]; simp
  · rw [Lib.extract_data]
    congr 2
    rw [List.take_of_length_le (by rw [List.length_drop, Lib.size_eq]; omega)]
/-- The captured text's length, off the world: the loop's measure. -/
def txtLen (b : Nat) (W : World) : Nat := match W.cell? ⟨b, 0, none⟩ with
  | some (.string t) => t.size
  | _ => 0
theorem txtLen_eq {b t W} {s : ByteArray} (h : Boxed W b t (.string s)) : txtLen b W = s.size := by unfold txtLen; rw [h.cell]
set_option maxHeartbeats 1000000 in
set_option maxRecDepth 100000 in
/-- strings.SplitSeq's iterator at the separator ','. -/
theorem iter_any (n : Nat) (hn : 1 ≤ n) (l bs bp bv : Nat) (all : List ByteArray) (J : List ByteArray → World → Prop)
    (hJ : ∀ pre W s, J pre W → J pre (W.setCell ⟨bs, 0, none⟩ (.string s))) (hJp : ∀ pre W, J pre W → Boxed W bp 9 (.string ⟨#[44]⟩) ∧ Boxed W bv 3 (.int .i64 0))
    (hY : ∀ pre x rest W s, J pre W → all = pre ++ x :: rest → Boxed W bs 9 (.string s) → YieldAt Fence.wide (n - 1) Tryd.prog l #[.string x] W fun e W' =>
      e = .returned (.bool true) ∧ J (pre ++ [x]) W' ∧ Boxed W' bs 9 (.string s))
    (W : World) (s : ByteArray) (hall : all = cutB s) (hs : Boxed W bs 9 (.string s)) (hsz : s.size ≤ 1000) (h0 : J [] W) :
    CallsIn Fence.wide n Tryd.prog 63 #[.func (.yield l) #[] #[], .pointer (some ⟨bp, 0, none⟩), .pointer (some ⟨bs, 0, none⟩), .pointer (some ⟨bv, 0, none⟩)] W fun e W' => (∃ v, e = .returned v) ∧ J all W' := by
  have hB0 := hJp _ _ h0
  have c1 := hB0.1.cell
  have c2 := hB0.2.cell
  clear hB0
  refine callsIn_of_wp Tryd.func63 rfl trivial ?_ rfl
  simp only [Tryd.ntmps63, List.size_toArray, List.length_cons, List.length_nil, Nat.reduceAdd, Nat.reduceSub, Array.replicate_succ, Array.replicate_zero, List.push_toArray, List.append_toArray, List.nil_append, List.cons_append]
  gi_wp2
  clear c1 c2
  gi_loopw [7, 8] (fun _ _ wr => ∃ (pre : List ByteArray) (t : ByteArray), t.size ≤ 1000 ∧ all = pre ++ cutB t ∧ Boxed wr bs 9 (.string t) ∧ J pre wr)
    (fun _ _ wr => txtLen bs wr)
  case atStart => exact ⟨[], s, hsz, hall, hs, h0⟩
  case round =>
    obtain ⟨pre, t, hts, hx, hl, hJs⟩ := hrel
    obtain ⟨hp, hv⟩ := hJp _ _ hJs
    have c0 := hl.cell
    have c1 := hp.cell
    have c2 := hv.cell
    by_cases hneg : Lib.indexByte t.data.toList 44 = -1
    · rw [cutB_none t hneg] at hx
      obtain ⟨fn, tmps, assign, body, hy, hR⟩ := hY pre t [] wr t hJs hx hl
      have hI : Calls Tryd.prog 65 #[.string t, .string ⟨#[44]⟩] wr fun e w' => e = .returned (.int .i64 (-1)) ∧ w' = wr := by
        have := Tryd.strings_Index_one t 44 wr
        rwa [hneg] at this
      gi_wp2_with (refine ⟨trivial, ?_⟩; gi_at_call 65; refine (callsIn_wide.2 hI).mono ?_; rintro e w' ⟨rfl, rfl⟩)
      refine hR.mono ?_
      rintro e W3 ⟨rfl, hJ3, hB3⟩
      gi_wp2
      go_end0
      exact ⟨⟨_, rfl⟩, by rw [hx]; exact hJ3⟩
    · obtain ⟨i, hi⟩ : ∃ i : Nat, Lib.indexByte t.data.toList 44 = (i : Int) := ⟨(Lib.indexByte t.data.toList 44).toNat, by have := Lib.indexByte_ge t.data.toList 44; omega⟩
      obtain ⟨hlt, hcut⟩ := cutB_some t i hi
      rw [hcut] at hx
      obtain ⟨x, hxx⟩ : ∃ x, t.extract 0 i = x := ⟨_, rfl⟩
      obtain ⟨u, hu⟩ : ∃ u, t.extract (i + 1) t.size = u := ⟨_, rfl⟩
      rw [hxx, hu] at hx
      obtain ⟨fn, tmps, assign, body, hy, hR⟩ := hY pre x _ wr t hJs hx hl
      have hI : Calls Tryd.prog 65 #[.string t, .string ⟨#[44]⟩] wr fun e w' => e = .returned (.int .i64 i) ∧ w' = wr := by
        have := Tryd.strings_Index_one t 44 wr
        rwa [hi] at this
      have hs1 : ∀ W, (Instr.slice 9 (.string t) none (some (.int .i64 i)) none).run Tryd.prog W = .ok (.string x) W := fun W => by
        rw [run_slice_string_to_if W 9 t .i64 _ Tryd.underlying9, if_pos ⟨by omega, by omega⟩, ← hxx]
        rfl
      have hs2 : ∀ W, (Instr.slice 9 (.string t) (some (.int .i64 ((i : Int) + 1))) none none).run Tryd.prog W = .ok (.string u) W := fun W => by
        rw [run_slice_string_from_if W 9 t .i64 _ Tryd.underlying9, if_pos ⟨by omega, by omega⟩, ← hu]
        rfl
      have hw0 : wrap64 (i : Int) = i := by unfold wrap64; omega
      have hw1 : wrap64 ((i : Int) + 1) = i + 1 := by unfold wrap64; omega
      have hi0 : ¬ (i : Int) < 0 := by omega
      have hus : u.size < t.size := by rw [← hu, ByteArray.size_extract]; omega
      gi_wp2_with (refine ⟨trivial, ?_⟩; gi_at_call 65; refine (callsIn_wide.2 hI).mono ?_; rintro e w' ⟨rfl, rfl⟩)
      refine hR.mono ?_
      rintro e W3 ⟨rfl, hJ3, hB3⟩
      obtain ⟨hp3, hv3⟩ := hJp _ _ hJ3
      have d0 := hB3.cell
      have d1 := hp3.cell
      have d2 := hB3.frozen
      gi_wp2
      go_roundw
      case rel => exact ⟨pre ++ [x], u, by omega, by rw [hx]; simp, hB3.set _, hJ _ _ _ hJ3⟩
      case measure => rw [txtLen_eq (hB3.set _), txtLen_eq hl]; exact hus
theorem splitSeq_any (s sep : ByteArray) (w : World) : Calls Tryd.prog 49 #[.string s, .string sep, .int .i64 0] w fun e w' =>
    e = .returned (.func (.func 63) #[] #[.pointer (some ⟨w.heap.size + 1, 0, none⟩), .pointer (some ⟨w.heap.size, 0, none⟩), .pointer (some ⟨w.heap.size + 2, 0, none⟩)]) ∧
    w' = ((w.alloc (.cells #[.string s] 9)).alloc (.cells #[.string sep] 9)).alloc (.cells #[.int .i64 0] 3) := by
  go_enter Tryd.func49, Tryd.ntmps49
  go_wp2
  go_ret
  exact ⟨rfl, rfl⟩
theorem SplitSeq_any (s sep : ByteArray) (w : World) : Calls Tryd.prog 34 #[.string s, .string sep] w fun e w' =>
    e = .returned (.func (.func 63) #[] #[.pointer (some ⟨w.heap.size + 1, 0, none⟩), .pointer (some ⟨w.heap.size, 0, none⟩), .pointer (some ⟨w.heap.size + 2, 0, none⟩)]) ∧
    w' = ((w.alloc (.cells #[.string s] 9)).alloc (.cells #[.string sep] 9)).alloc (.cells #[.int .i64 0] 3) := by
  go_enter Tryd.func34, Tryd.ntmps34
  go_wp2_with (go_at_call 49; go_must (refine (splitSeq_any _ _ _).mono ?_; rintro e w' ⟨rfl, hw'⟩; rw [hw']; clear hw'))
  go_ret
  exact ⟨rfl, rfl⟩
theorem mapM_pt {α β : Type} {f : α → Option β} : ∀ {l : List α} {o : List β}, l.mapM f = some o → o.length = l.length ∧ ∀ (i : Nat) x, l[i]? = some x → ∃ d, o[i]? = some d ∧ f x = some d
  | [], o, h => by
    simp at h
    subst h
    simp
  | a :: l, o, h => by
    rw [List.mapM_cons] at h
    obtain ⟨d, hd, h⟩ := Option.bind_eq_some_iff.1 h
    obtain ⟨o', ho, h⟩ := Option.bind_eq_some_iff.1 h
    obtain rfl := Option.some.inj h
    obtain ⟨h1, h2⟩ := mapM_pt ho
    refine ⟨by simp [h1], fun i x hx => ?_⟩
    cases i with
    | zero => simp at hx; subst hx; exact ⟨d, by simp, hd⟩
    | succ i => simpa using h2 i x (by simpa using hx)
theorem cuts_len : ∀ (l cur : List UInt8), (GL.cuts cur l).length ≤ l.length + 1
  | [], cur => by simp [GL.cuts]
  | b :: l, cur => by
    unfold GL.cuts
    split
    · have := cuts_len l []; simp only [List.length_cons]; omega
    · have := cuts_len l (cur ++ [b]); simp only [List.length_cons]; omega
/-- A range over a function, outermost: its record r laid; the iterator is called. -/
theorem range_here {P : Program} {n : Nat} (h1 : 1 ≤ n) {g : Operand} {ps : Array Tmp} {assign body : Code} {Q : Exit → Act → World → Prop} {a : Act} {w : World} {gf : Nat} {lb : Array Value}
    (hg : a.eval g = .func (.func gf) #[] lb) (eg : ∀ args w, (callFunc gf args).run P w = .ok (.enter gf args) w)
    (h : ∀ r : Loop, r.state = .ready → r.pending = none → r.tmps = a.tmps → r.params = ps → r.assign = assign → r.body = body → ∀ W1, W1 = (w.alloc (.deferred (some []))).alloc (.loop r) →
      CallsIn Fence.wide (n - 1) P gf (#[.func (.yield (w.heap.size + 1)) #[] #[]] ++ lb) W1 (rangePost Fence.wide n P (w.heap.size + 1) Q { a with defers := { target := .collected w.heap.size, args := #[] } :: a.defers })) :
    (Code.rangeFunc g ps assign body).wpIn Fence.wide n P Q a w := by
  refine wpIn_rangeFunc (fun fn hfn => ?_)
  have hen := run_enterLoop_outer (P := P) (w := w) fn a.tmps ps assign body
  generalize hr : ({ state := .ready, pending := none, fn := fn, tmps := a.tmps, params := ps, assign := assign, body := body, defers := w.heap.size } : Loop) = r at hen
  have hc := h r (by rw [← hr]) (by rw [← hr]) (by rw [← hr]) (by rw [← hr]) (by rw [← hr]) (by rw [← hr]) _ rfl
  generalize (w.alloc (.deferred (some []))).alloc (.loop r) = W1 at hen hc
  refine ⟨w.heap.size + 1, [{ target := .collected w.heap.size, args := #[] }], W1, { target := .fn (.func gf) lb, args := #[.func (.yield (w.heap.size + 1)) #[] #[]] }, W1, gf, #[.func (.yield (w.heap.size + 1)) #[] #[]] ++ lb, W1, ?_, ?_, ?_, ?_, ?_, ?_⟩
  · exact hen
  · simp only [resolve, hg]
    simp [go_sem]
  · intro f' _; trivial
  · simp [invoke, go_sem, eg]
  · intro _; exact h1
  · exact hc
theorem yield_here {P : Program} {n l : Nat} {r : Loop} {W : World} {args : Array Value} (hl : W.heap[l]? = some (.loop r)) (hs : args.size = r.params.size) {R : Ending → World → Prop}
    (h : r.assign.wpIn (Fence.wide.inRound l) n P (Exit.then (fun a₁ w₁ => ∃ w₂, (Instr.beginRound l).run P w₁ = .ok () w₂ ∧ r.body.wpIn (Fence.wide.inRound l) n P (roundPost P l R) a₁ w₂) (fun _ _ _ => False))
      { tmps := (r.params.zip args).foldl (fun t (p, v) => t.setIfInBounds p v) r.tmps, defers := [] } W) : YieldAt Fence.wide n P l args W R :=
  ⟨r.fn, _, r.assign, r.body, run_yield hl hs, roundIn_of_wpIn trivial h⟩
/-- Between two rounds. -/
structure Between (n0 D : Nat) (r : Loop) (w : World) (out : List Int) (pre : List ByteArray) (W : World) : Prop where
  sep : Boxed W (n0 + 2) 9 (.string ⟨#[44]⟩)
  sv : Boxed W (n0 + 3) 3 (.int .i64 0)
  txt : ∃ u, Boxed W (n0 + 1) 9 (.string u)
  row : ∃ v, Boxed W n0 23 v ∧ OwnRow (fun x c => c = [Value.int .i64 x]) 3 1 W D v (out.take pre.length)
  loop : W.heap[D + 1]? = some (.loop r)
  defs : W.heap[D]? = some (.deferred (some []))
  below : Below n0 w W
theorem Between.txt_set {n0 D : Nat} {r : Loop} {w : World} {out : List Int} {pre : List ByteArray} {W : World} (h : Between n0 D r w out pre W) (hD : n0 + 4 ≤ D) (s : ByteArray) : Between n0 D r w out pre (W.setCell ⟨n0 + 1, 0, none⟩ (.string s)) := by
  obtain ⟨u, hu⟩ := h.txt
  obtain ⟨v, hv, hr⟩ := h.row
  refine ⟨h.sep.other (by omega) _, h.sv.other (by omega) _, ⟨s, hu.set _⟩, ⟨v, hv.other (by omega) _, hr.set_ hu (by decide) _ _⟩, ?_, ?_, ?_⟩
  · rw [Below.heap_setCell _ _ _ _ (by show D + 1 ≠ n0 + 1; omega)]; exact h.loop
  · rw [Below.heap_setCell _ _ _ _ (by show D ≠ n0 + 1; omega)]; exact h.defs
  · exact h.below.setCell (p := ⟨n0 + 1, 0, none⟩) (by show n0 ≤ n0 + 1; omega) _
theorem Between.of_below {n0 D : Nat} {r : Loop} {w : World} {out : List Int} {pre : List ByteArray} {W W' : World} (h : Between n0 D r w out pre W) (hb : Below W.heap.size W W') (hn : n0 ≤ W.heap.size) : Between n0 D r w out pre W' := by
  have hB : ∀ {B t v}, Boxed W B t v → Boxed W' B t v := fun hx => (hb.block _ hx.lt).trans hx
  obtain ⟨u, hu⟩ := h.txt
  obtain ⟨v, hv, hr⟩ := h.row
  exact ⟨hB h.sep, hB h.sv, ⟨u, hB hu⟩, ⟨v, hB hv, hr.below hb⟩, (hb.block _ (Array.getElem?_eq_some_iff.1 h.loop).1).trans h.loop, (hb.block _ (Array.getElem?_eq_some_iff.1 h.defs).1).trans h.defs, h.below.trans (hb.mono hn)⟩
theorem Between.put {n0 D : Nat} {r r' : Loop} {w : World} {out : List Int} {pre : List ByteArray} {W : World} (h : Between n0 D r w out pre W) (hD : n0 + 4 ≤ D) : Between n0 D r' w out pre (W.putObj (D + 1) (.loop r')) := by
  have hB : ∀ {B t v}, Boxed W B t v → B ≠ D + 1 → Boxed (W.putObj (D + 1) (.loop r')) B t v := fun hx hne => hx.kept (grownBy_putObj' _ _ _) (fun e => hne (Option.some.inj e))
  obtain ⟨u, hu⟩ := h.txt
  obtain ⟨v, hv, inner, ho, hr⟩ := h.row
  have hlt := (Array.getElem?_eq_some_iff.1 h.loop).1
  refine ⟨hB h.sep (by omega), hB h.sv (by omega), ⟨u, hB hu (by omega)⟩, ⟨v, hB hv (by omega), inner, ownsRow_putObj ho _ h.loop rfl, hr⟩, World.putObj_heap_same hlt, (World.putObj_heap_other (by omega)).trans h.defs, ?_⟩
  exact h.below.trans ((Below.refl n0 W).grown (grownBy_putObj' W (D + 1) _) (by omega) (fun k e => by have := Option.some.inj e; omega))
set_option maxHeartbeats 1000000 in
set_option maxRecDepth 100000 in
theorem values_any (s : ByteArray) (out : List Int) (h : GL.vals s.data.toList = some out) (w : World) :
    Calls Tryd.prog 20 #[.string s] w fun e w' => ∃ v0_ : Value, e = .returned (v0_) ∧ Kd.R (Kd.int .i64) 3 w' w.heap.size (fun _ => True) v0_ out ∧ Below w.heap.size w w' := by
  refine (callsIn_wide (n := 5)).1 ?_
  refine callsIn_of_wp_marks Tryd.func20 rfl trivial ?_ rfl
  simp only [Tryd.ntmps20, List.size_toArray, List.length_cons, List.length_nil, Nat.reduceAdd, Nat.reduceSub, Array.replicate_succ, Array.replicate_zero, List.push_toArray, List.append_toArray, List.nil_append, List.cons_append]
  gi_wp2_with (refine ⟨trivial, ?_⟩; gi_at_call 34; refine (callsIn_wide.2 (SplitSeq_any _ _ _)).mono ?_; rintro e w' ⟨rfl, rfl⟩)
  obtain ⟨W0, hW0⟩ : ∃ W0, ((((w.alloc (.cells #[.slice none 0 0] 23)).alloc (.cells #[.string s] 9)).alloc (.cells #[.string ⟨#[44]⟩] 9)).alloc (.cells #[.int .i64 0] 3)) = W0 := ⟨_, rfl⟩
  rw [hW0]
  have hsz : W0.heap.size = w.heap.size + 4 := by rw [← hW0]; simp
  have b0 : Boxed W0 w.heap.size 23 (.slice none 0 0) := by rw [← hW0]; exact (((Boxed.new w _ _).alloc _).alloc _).alloc _
  have b1 : Boxed W0 (w.heap.size + 1) 9 (.string s) := by
    rw [← hW0]
    have := Boxed.new (w.alloc (.cells #[.slice none 0 0] 23)) 9 (.string s)
    rw [World.size_alloc] at this
    exact (this.alloc _).alloc _
  have b2 : Boxed W0 (w.heap.size + 2) 9 (.string ⟨#[44]⟩) := by
    rw [← hW0]
    have := Boxed.new ((w.alloc (.cells #[.slice none 0 0] 23)).alloc (.cells #[.string s] 9)) 9 (.string ⟨#[44]⟩)
    rw [World.size_alloc, World.size_alloc] at this
    exact this.alloc _
  have b3 : Boxed W0 (w.heap.size + 3) 3 (.int .i64 0) := by
    rw [← hW0]
    have := Boxed.new (((w.alloc (.cells #[.slice none 0 0] 23)).alloc (.cells #[.string s] 9)).alloc (.cells #[.string ⟨#[44]⟩] 9)) 3 (.int .i64 0)
    rw [World.size_alloc, World.size_alloc, World.size_alloc] at this
    exact this
  have hb0 : Below w.heap.size w W0 := by
    rw [← hW0]
    exact ((((Below.refl _ w).alloc (by simp) _).alloc (by simp) _).alloc (by simp; omega) _).alloc (by simp; omega) _
  clear hW0
  have hsz4 : w.heap.size + 4 ≤ W0.heap.size := by omega
  clear hsz
  have e2 : w.heap.size + 1 + 1 = w.heap.size + 2 := rfl
  have e3 : w.heap.size + 1 + 2 = w.heap.size + 3 := rfl
  simp only [e2, e3]
  unfold GL.vals at h
  split at h
  case isFalse => cases h
  rename_i hs1000
  obtain ⟨hol, hpt⟩ := mapM_pt h
  have hcl := cuts_len s.data.toList []
  have hsize : s.size ≤ 1000 := by rw [Lib.size_eq]; exact hs1000
  have hall : ∀ (i : Nat) (x : ByteArray), (cutB s)[i]? = some x → ∃ d, out[i]? = some d ∧ GL.hexn x.data.toList = some d := by
    intro i x hx
    unfold cutB at hx
    rw [List.getElem?_map] at hx
    obtain ⟨l, hl, rfl⟩ := Option.map_eq_some_iff.1 hx
    exact hpt i l hl
  have hlen : out.length = (cutB s).length := by rw [hol]; simp [cutB]
  have hol2 : out.length ≤ 1001 := by omega
  clear h hs1000 hpt hol hcl
  refine range_here (gf := 63) (lb := #[.pointer (some ⟨w.heap.size + 2, 0, none⟩), .pointer (some ⟨w.heap.size + 1, 0, none⟩), .pointer (some ⟨w.heap.size + 3, 0, none⟩)]) (by omega) rfl (enters_of Tryd.func63 (by kernel_rfl) rfl) ?_
  intro r hr1 hr2 hr3 hr4 hr5 hr6 W1 hW1
  have h0 : Between w.heap.size W0.heap.size r w out [] W1 := by
    rw [hW1]
    refine ⟨(b2.alloc _).alloc _, (b3.alloc _).alloc _, ⟨s, (b1.alloc _).alloc _⟩, ⟨_, (b0.alloc _).alloc _, ?_⟩, ?_, ?_, (hb0.alloc (by omega) _).alloc (by simp; omega) _⟩
    · rw [List.length_nil, List.take_zero]
      exact OwnRow.none_ _ _ _ _ _
    · have := World.alloc_heap_new (W0.alloc (.deferred (some []))) (.loop r)
      rwa [World.size_alloc] at this
    · exact (Below.heap_alloc _ _ _ (by simp)).trans (World.alloc_heap_new W0 _)
  have b1' : Boxed W1 (w.heap.size + 1) 9 (.string s) := by rw [hW1]; exact (b1.alloc _).alloc _
  clear hW1
  refine (iter_any 4 (by omega) (W0.heap.size + 1) (w.heap.size + 1) (w.heap.size + 2) (w.heap.size + 3) (cutB s) (Between w.heap.size W0.heap.size r w out)
    (fun pre W t hj => hj.txt_set (by omega) t) (fun pre W hj => ⟨hj.sep, hj.sv⟩) ?round W1 s rfl b1' hsize h0).mono ?_
  case round =>
    intro pre x rest W t hj hx ht
    obtain ⟨d, hd, hxd⟩ := hall pre.length x (by rw [hx]; simp)
    refine yield_here hj.loop (by rw [hr4]; rfl) ?_
    rw [hr4, hr5, hr6, hr3]
    gi_wp2
    refine ⟨_, run_beginRound hj.loop hr1, ?_⟩
    have hj1 := hj.put (r' := { r with state := .busy }) hsz4
    have ht1 : Boxed (W.putObj (W0.heap.size + 1) (.loop { r with state := .busy })) (w.heap.size + 1) 9 (.string t) := ht.kept (grownBy_putObj' _ _ _) (fun e => by have := Option.some.inj e; omega)
    generalize W.putObj (W0.heap.size + 1) (.loop { r with state := .busy }) = Wb at hj1 ht1
    have hsb : w.heap.size ≤ Wb.heap.size := by have := ht1.lt; omega
    have infoE : (Tryd.prog.info? 3).map (fun i => (i.zero, i.size, i.bytes)) = some (some (.int .i64 0), 1, 8) := by kernel_rfl
    obtain ⟨i0, hi, hz0, hz1, hz2⟩ := info_parts infoE
    have hprel : pre.length < out.length := by rw [hlen, hx]; simp
    have er : ({ ({ r with state := .busy } : Loop) with state := (if (none : Option Code).isNone = true then .ready else .done), pending := none } : Loop) = r := by
      cases r
      simp only at hr1 hr2
      subst hr1 hr2
      rfl
    have hpt : out.take (pre ++ [x]).length = out.take pre.length ++ [d] := by
      rw [List.length_append, List.length_singleton, List.take_add_one, hd]; rfl
    clear hr1 hr2 hr3 hr4 hr5 hr6 h0 b1' b0 b1 b2 b3 hall
    gi_wp2_with (first
      | (refine ⟨trivial, ?_⟩; gi_at_call 35; refine (CallsIn.inRound _ (callsIn_wide.2 (strconvParseInt16 x d hxd _))).mono ?_; rintro e W3 ⟨rfl, _, _, hb3⟩
         have hj3 := hj1.of_below hb3 hsb
         have ht3 : Boxed W3 (w.heap.size + 1) 9 (.string t) := (hb3.block _ ht1.lt).trans ht1
         obtain ⟨v, hv, inner, ho, hr⟩ := hj3.row
         have hvc := hv.cell
         have hvf := hv.frozen
         have hD3 : W0.heap.size < W3.heap.size := (Array.getElem?_eq_some_iff.1 hj3.defs).1
         have hlt3 : (out.take pre.length).length = pre.length := by rw [List.length_take]; omega
         )
      | (gi_at_builtin; refine wpListIn_append_own _ rfl _ _ 23 rfl W0.heap.size 3 i0 (.int .i64 0) 1 8 Tryd.underlying23 hi hz0 hz1 hz2 rfl (by decide) _ _ _ rfl (ho.alloc _) ⟨W3.heap.size, 0, none⟩ 1 1 [.int .i64 d] rfl rfl (cell_one_new _ _ _) (by simp [Value.oneCell']) (by unfold maxLen; omega) (by omega) (by rw [World.size_alloc]; omega) ?_
         intro v' w1 hown' hgrow _
         obtain ⟨g', cap', rfl⟩ := ownsRow_succ hown'
         obtain ⟨hv1, hv2, hr2, hk2, hb2⟩ := hv.appended (by decide) (own_weaken ho (show w.heap.size ≤ W0.heap.size by omega)) (by omega) (Nat.le_refl _) (own_weaken hown' (by omega)) hgrow
         have hc1 := hv1.cell
         have hf1 := hv1.frozen))
    have hnb : ∀ B, B < W0.heap.size → some B ≠ v.ownBlock := fun B hB e => by have := own_base ho B e.symm; omega
    have hj5 : Between w.heap.size W0.heap.size { r with state := .busy } w out (pre ++ [x]) (w1.setCell ⟨w.heap.size, 0, none⟩ (.slice (some ⟨g', 0, none⟩) ((out.take pre.length).length + 1) cap')) := by
      refine ⟨((hj3.sep.alloc _).kept hgrow (hnb _ (by omega))).other (by omega) _, ((hj3.sv.alloc _).kept hgrow (hnb _ (by omega))).other (by omega) _, ⟨t, ((ht3.alloc _).kept hgrow (hnb _ (by omega))).other (by omega) _⟩,
        ⟨_, hv2, inner ++ [.int .i64 d], ?_, ?_⟩, hk2.same _ _ hj3.loop rfl, hk2.same _ _ hj3.defs rfl, hj3.below.trans hb2⟩
      · rw [hpt, List.length_append]
        exact own_setCell hown' (p := ⟨w.heap.size, 0, none⟩) (fun e => by have := own_base hown' _ e.symm; simp only at this; omega) _
      · rw [hpt]
        exact Reps.snoc hr rfl rfl
    have ht5 : Boxed (w1.setCell ⟨w.heap.size, 0, none⟩ (.slice (some ⟨g', 0, none⟩) ((out.take pre.length).length + 1) cap')) (w.heap.size + 1) 9 (.string t) := ((ht3.alloc _).kept hgrow (hnb _ (by omega))).other (by omega) _
    rw [hlt3] at hj5 ht5
    have hen := run_endRound (P := Tryd.prog) none hj5.loop
    rw [er] at hen
    exact ⟨_, _, hen, rfl, hj5.put hsz4, ht5.kept (grownBy_putObj' _ _ _) (fun e => by have := Option.some.inj e; omega)⟩
  · rintro e W2 ⟨⟨v, rfl⟩, hj⟩
    have hen := run_endLoop (P := Tryd.prog) hj.loop (by rw [hr1]; simp)
    rw [hr2] at hen
    refine ⟨none, _, hen, ?_⟩
    have hj6 := hj.put (r' := { state := .exhausted, pending := none, fn := r.fn, tmps := r.tmps, params := r.params, assign := r.assign, body := r.body, defers := r.defers }) hsz4
    have htk : out.take (cutB s).length = out := by rw [← hlen, List.take_length]
    obtain ⟨v0, hv0, hr0⟩ := hj6.row
    rw [htk] at hr0
    have hvc := hv0.cell
    clear hen hr1 hr2 hr3 hr4 hr5 hr6 h0 b1' b0 b1 b2 b3 hall hj
    dsimp only [Exit.inBlock, Exit.then]
    gi_wp2
    have hd6 := hj6.defs
    have hbl := hj6.below
    obtain ⟨inner, ho, hr⟩ := hr0
    generalize W2.putObj (W0.heap.size + 1) (.loop { state := .exhausted, pending := none, fn := r.fn, tmps := r.tmps, params := r.params, assign := r.assign, body := r.body, defers := r.defers }) = W6 at *
    refine ⟨by simp, .inl ⟨_, _, rfl, run_takeDeferred hd6, ?_⟩⟩
    refine ⟨_, results_tmp rfl _ _ _, _, rfl, ⟨fun _ _ => trivial, inner, own_weaken (ownsRow_putObj ho _ hd6 rfl) (by omega), hr⟩, ?_⟩
    have hsz6 := (Array.getElem?_eq_some_iff.1 hd6).1
    exact hbl.trans ((Below.refl w.heap.size W6).grown (grownBy_putObj' W6 W0.heap.size _) (by omega) (fun k e => by have := Option.some.inj e; omega))
end Go.Proofs.YtbldfpejcmainaaDoor
