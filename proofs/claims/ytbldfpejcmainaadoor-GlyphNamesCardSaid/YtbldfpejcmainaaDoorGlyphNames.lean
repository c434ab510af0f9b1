/- GlyphNames, walked by hand over the printed contracts, and its plain facts. -/
import Derived.Test.YtbldfpejcmainaaDoorGlyphPures
namespace Go.Proofs.YtbldfpejcmainaaDoor
open Go.RowKit Go.Proofs.YtbldfpejcmainaaDoorW.PrintWords Go.Proofs.YtbldfpejcmainaaDoor.GA
def distinct : List (List UInt8) → Bool
  | [] => true
  | a :: l => match l.all (fun b => !GL.eqL a b) with
    | true => distinct l
    | false => false
theorem eqL_refl : ∀ l : List UInt8, GL.eqL l l = true
  | [] => rfl
  | a :: l => by
    have h : Nat.beq a.toNat a.toNat = true := Nat.beq_refl _
    unfold GL.eqL
    rw [h]
    exact eqL_refl l
theorem distinct_at : ∀ {l : List (List UInt8)}, distinct l = true → ∀ (i j : Nat) (hi : i < l.length) (hj : j < l.length), l[i] = l[j] → i = j
  | [], _, i, _, hi, _, _ => by simp at hi
  | a :: l, h, i, j, hi, hj, e => by
    unfold distinct at h
    split at h
    · rename_i hall
      cases i with
      | zero =>
        cases j with
        | zero => rfl
        | succ j =>
          simp only [List.getElem_cons_zero, List.getElem_cons_succ] at e
          have := List.all_eq_true.1 hall _ (List.getElem_mem (show j < l.length by simpa using hj))
          rw [← e, eqL_refl] at this
          cases this
      | succ i =>
        cases j with
        | zero =>
          simp only [List.getElem_cons_zero, List.getElem_cons_succ] at e
          have := List.all_eq_true.1 hall _ (List.getElem_mem (show i < l.length by simpa using hi))
          rw [e, eqL_refl] at this
          cases this
        | succ j => rw [distinct_at h i j (by simpa using hi) (by simpa using hj) (by simpa using e)]
    · cases h
theorem names_distinct : distinct (GL.ents.map Prod.fst) = true := by kernel_rfl
theorem ent_inj (i j : Nat) (hi : i < 351) (hj : j < 351) (h : (GL.ents[i]'(by rw [ents_len]; exact hi)).1 = (GL.ents[j]'(by rw [ents_len]; exact hj)).1) : i = j :=
  distinct_at names_distinct i j (by rw [List.length_map, ents_len]; exact hi) (by rw [List.length_map, ents_len]; exact hj) (by simpa using h)
theorem find_at {α : Type} {p : α → Bool} : ∀ {l : List α} {m : Nat} (hm : m < l.length), p l[m] = true → ∃ i, i ≤ m ∧ ∃ hi : i < l.length, l.find? p = some l[i] ∧ p l[i] = true
  | [], m, hm, _ => by simp at hm
  | a :: l, m, hm, h => by
    by_cases ha : p a = true
    · exact ⟨0, by omega, by simp, by simp [ha], by simpa using ha⟩
    · cases m with
      | zero => exact absurd (by simpa using h) ha
      | succ m =>
        obtain ⟨i, h1, h2, h3, h4⟩ := find_at (l := l) (m := m) (by simpa using hm) (by simpa using h)
        exact ⟨i + 1, by omega, by simpa using h2, by rw [List.find?_cons_of_neg ha, h3]; simp, by simpa using h4⟩
theorem uni_own (i : Nat) (hi : i < 351) : GL.uni (GL.ents[i]'(by rw [ents_len]; exact hi)).1 = (GL.us (GL.ents[i]'(by rw [ents_len]; exact hi)), true) := by
  have hlt : i < GL.ents.length := by rw [ents_len]; exact hi
  obtain ⟨n, hn⟩ : ∃ n, (GL.ents[i]).1 = n := ⟨_, rfl⟩
  have hf := find_at (l := GL.ents) (p := fun e => decide (e.1 = n)) (m := i) hlt (by simpa using hn)
  rw [hn]
  obtain ⟨j, h1, h2, h3, h4⟩ := hf
  have hj : j = i := ent_inj j i (by rw [← ents_len]; exact h2) hi (by rw [hn]; simpa using h4)
  subst hj
  unfold GL.uni
  rw [h3]
theorem good_all : GL.ents.all (fun e => (GL.us e).all fun x => decide (0 ≤ x ∧ x ≤ 1114111 ∧ (x < 55296 ∨ x > 57343))) = true := by kernel_rfl
theorem good_f (e : List UInt8 × List UInt8) (he : e ∈ GL.ents) (x : Int) (hx : x ∈ GL.us e) : utf_Good.f x = some true := by
  have := of_decide_eq_true (List.all_eq_true.1 (List.all_eq_true.1 good_all e he) x hx)
  unfold utf_Good.f
  rw [if_pos (by omega), if_pos (by omega)]
  split
  · rfl
  · rw [decide_eq_true (by omega)]
theorem uni_none (n : List UInt8) (h : (GL.uni n).2 = false) : (GL.uni n).1 = [] := by
  unfold GL.uni at h ⊢
  split
  · rename_i e he; rw [he] at h; simp at h
  · rfl
/-- The name that a value leads back to: the first one; of a single value not behind its own. -/
theorem back_first (i : Nat) (hi : i < 351) (x : Int) (hx : GL.us (GL.ents[i]'(by rw [ents_len]; exact hi)) = [x]) : ∃ m, m ≤ i ∧ ∃ hm : m < 351, GL.back x = ((GL.ents[m]'(by rw [ents_len]; exact hm)).1, true) := by
  obtain ⟨j, h1, h2, h3, h4⟩ := find_at (l := GL.ents) (p := fun e => decide (GL.us e = [x])) (m := i) (by rw [ents_len]; exact hi) (by simpa using hx)
  refine ⟨j, h1, by rw [← ents_len]; exact h2, ?_⟩
  unfold GL.back
  rw [h3]
/-- Of any value: a name of the list, or none. -/
theorem back_any (x : Int) : ((GL.back x).2 = true ∧ ∃ m, ∃ hm : m < 351, (GL.back x).1 = (GL.ents[m]'(by rw [ents_len]; exact hm)).1) ∨ (GL.back x).2 = false := by
  unfold GL.back
  split
  · rename_i e he
    obtain ⟨m, hm, rfl⟩ := List.getElem_of_mem (List.mem_of_find?_eq_some he)
    exact .inl ⟨rfl, m, by rw [← ents_len]; exact hm, rfl⟩
  · exact .inr rfl
end Go.Proofs.YtbldfpejcmainaaDoor
