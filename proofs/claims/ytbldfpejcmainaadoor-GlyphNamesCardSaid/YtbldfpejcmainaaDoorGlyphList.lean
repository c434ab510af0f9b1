/- The list of glyphs, plain: names found, cut, split; no program. -/
import Derived.Test.YtbldfpejcmainaaDoorGlyphPure
import Derived.Lib.Fields
import Derived.Lib.IndexMore
import Derived.Lib.Join
namespace Go.Proofs.YtbldfpejcmainaaDoor
namespace GL
def plainB (b : UInt8) : Bool := b != 32 && b != 61 && b != 44 && !Lib.isSp b && decide (b.toNat < 128)
def okEnt (e : List UInt8 × List UInt8) : Bool := !e.1.isEmpty && e.1.all plainB && e.2.all (fun b => b == 44 || plainB b) && (vals e.2).isSome
def us (e : List UInt8 × List UInt8) : List Int := (vals e.2).getD []
theorem ents_ok : ∀ e ∈ ents, okEnt e = true := List.all_eq_true.1 (by kernel_rfl : ents.all okEnt = true)
theorem ok_name {e : List UInt8 × List UInt8} (h : okEnt e = true) : e.1 ≠ [] ∧ (∀ b ∈ e.1, b ≠ 32 ∧ b ≠ 61 ∧ Lib.isSp b = false ∧ b.toNat < 128) ∧ (∀ b ∈ e.2, b ≠ 32 ∧ b ≠ 61 ∧ Lib.isSp b = false ∧ b.toNat < 128) ∧ vals e.2 = some (us e) := by
  simp only [okEnt, Bool.and_eq_true, Bool.not_eq_true', List.all_eq_true, Bool.or_eq_true, beq_iff_eq] at h
  obtain ⟨⟨⟨h1, h2⟩, h3⟩, h4⟩ := h
  refine ⟨by simpa using h1, fun b hb => ?_, fun b hb => ?_, ?_⟩
  · have := h2 b hb
    simp only [plainB, Bool.and_eq_true, bne_iff_ne, Bool.not_eq_true', decide_eq_true_eq] at this
    exact ⟨this.1.1.1.1, this.1.1.1.2, this.1.2, this.2⟩
  · rcases h3 b hb with rfl | this
    · decide
    · simp only [plainB, Bool.and_eq_true, bne_iff_ne, Bool.not_eq_true', decide_eq_true_eq] at this
      exact ⟨this.1.1.1.1, this.1.1.1.2, this.1.2, this.2⟩
  · unfold us
    obtain ⟨v, hv⟩ := Option.isSome_iff_exists.1 h4
    rw [hv]; rfl
def word (e : List UInt8 × List UInt8) : List UInt8 := e.1 ++ 61 :: e.2
theorem rows_cons (e : List UInt8 × List UInt8) (l : List (List UInt8 × List UInt8)) : rows (e :: l) = word e ++ 32 :: rows l := by simp [rows, row, word]
theorem rows_nil : rows [] = [] := rfl
/-! ### What begins at c is not found where no c stands. -/
theorem index_skip {c : UInt8} {t : List UInt8} : ∀ (a b : List UInt8), c ∉ a → Lib.index (a ++ b) (c :: t) = if Lib.index b (c :: t) = -1 then -1 else Lib.index b (c :: t) + a.length
  | [], b, _ => by
    simp only [List.nil_append, List.length_nil]
    split
    · assumption
    · omega
  | x :: a, b, h => by
    have hx : ¬ c = x := fun e => h (by simp [e])
    have ih := index_skip (c := c) (t := t) a b (fun e => h (List.mem_cons_of_mem _ e))
    have hge := Lib.index_ge b (c :: t)
    rw [List.cons_append, Lib.index, ih]
    have hp : (c :: t).isPrefixOf (x :: (a ++ b)) = false := by
      have hcx : (c == x) = false := by simpa using hx
      unfold List.isPrefixOf
      rw [hcx]; rfl
    rw [hp]
    simp only [Bool.false_eq_true, if_false, beq_iff_eq]
    split
    · simp
    · rw [if_neg (by omega)]
      simp only [List.length_cons]
      omega
theorem pre_name : ∀ (a n x : List UInt8), 61 ∉ a → 61 ∉ n → (a ++ [61]).isPrefixOf (n ++ 61 :: x) = decide (a = n)
  | [], [], x, _, _ => by simp [List.isPrefixOf]
  | [], c :: n, x, _, h => by
    have : ¬ (61 : UInt8) = c := fun e => h (by simp [e])
    simp [List.isPrefixOf, this]
  | c :: a, [], x, h, _ => by
    have : ¬ c = (61 : UInt8) := fun e => h (by simp [e])
    simp [List.isPrefixOf, this]
  | c :: a, d :: n, x, h, h2 => by
    have ih := pre_name a n x (fun e => h (by simp [e])) (fun e => h2 (by simp [e]))
    simp only [List.cons_append, List.isPrefixOf, ih]
    by_cases hcd : c = d
    · subst hcd; simp
    · simp [hcd]
theorem find_T (name : List UInt8) (hn : 61 ∉ name) : ∀ (l : List (List UInt8 × List UInt8)), (∀ e ∈ l, okEnt e = true) →
    match l.find? (fun e => decide (e.1 = name)) with
    | none => Lib.index (32 :: rows l) (32 :: (name ++ [61])) = -1
    | some e => ∃ (i : Nat) (rest : List UInt8), Lib.index (32 :: rows l) (32 :: (name ++ [61])) = i ∧ (32 :: rows l).drop (i + (32 :: (name ++ [61])).length) = e.2 ++ 32 :: rest
  | [], _ => by
    simp only [List.find?_nil, rows_nil]
    unfold Lib.index
    cases name <;> simp [List.isPrefixOf, Lib.index]
  | e :: l, h => by
    have he := ok_name (h e (by simp))
    have ih := find_T name hn l (fun e he => h e (by simp [he]))
    have h61 : (61 : UInt8) ∉ e.1 := fun hm => (he.2.1 _ hm).2.1 rfl
    have h32 : (32 : UInt8) ∉ word e := by
      intro hm
      simp only [word, List.mem_append, List.mem_cons] at hm
      rcases hm with hm | hm | hm
      · exact (he.2.1 _ hm).1 rfl
      · cases hm
      · exact (he.2.2.1 _ hm).1 rfl
    have hpre : (32 :: (name ++ [61])).isPrefixOf (32 :: rows (e :: l)) = decide (name = e.1) := by
      rw [rows_cons, word, List.append_assoc, List.cons_append]
      simp only [List.isPrefixOf, beq_self_eq_true, Bool.true_and]
      exact pre_name _ _ _ hn h61
    have hidx : Lib.index (32 :: rows (e :: l)) (32 :: (name ++ [61])) = if name = e.1 then 0 else if Lib.index (32 :: rows l) (32 :: (name ++ [61])) = -1 then -1 else Lib.index (32 :: rows l) (32 :: (name ++ [61])) + ((word e).length + 1 : Nat) := by
      have hge := Lib.index_ge (32 :: rows l) (32 :: (name ++ [61]))
      rw [Lib.index, hpre]
      by_cases hne : name = e.1
      · simp [hne]
      · rw [if_neg (by simp [hne]), if_neg hne]
        rw [rows_cons, index_skip _ _ h32]
        simp only [beq_iff_eq]
        split
        · simp
        · rw [if_neg (by omega)]; omega
    by_cases hne : name = e.1
    · subst hne
      simp only [List.find?_cons, decide_true]
      refine ⟨0, rows l, by rw [hidx, if_pos rfl]; rfl, ?_⟩
      rw [rows_cons, word]
      simp [List.append_assoc, List.drop_append]
    · have hf : (e :: l).find? (fun e => decide (e.1 = name)) = l.find? (fun e => decide (e.1 = name)) := by
        rw [List.find?_cons_of_neg (by simp [Ne.symm hne])]
      rw [hf, hidx, if_neg hne]
      split
      · rename_i hnone
        rw [hnone] at ih
        simp only at ih
        rw [ih]; rfl
      · rename_i e' hsome
        rw [hsome] at ih
        obtain ⟨i, rest, h1, h2⟩ := ih
        refine ⟨i + ((word e).length + 1), rest, ?_, ?_⟩
        · rw [h1, if_neg (by omega)]; omega
        · rw [rows_cons, ← h2, show i + ((word e).length + 1) + (32 :: (name ++ [61])).length = ((i + (32 :: (name ++ [61])).length) + (word e).length) + 1 by omega, List.drop_succ_cons, List.drop_append,
            List.drop_eq_nil_of_le (by omega), List.nil_append]
          congr 1
          omega
/-- A word cut at '='. -/
theorem index_at (c : UInt8) : ∀ (a b : List UInt8), c ∉ a → Lib.index (a ++ c :: b) [c] = a.length := by
  intro a b h
  rw [index_skip a (c :: b) h]
  have : Lib.index (c :: b) [c] = 0 := by unfold Lib.index; simp [List.isPrefixOf]
  rw [this]; simp
theorem cut_at (c : UInt8) (a b : List UInt8) (h : c ∉ a) : Lib.cut (a ++ c :: b) [c] = (a, b, true) := by
  unfold Lib.cut
  rw [index_at c a b h]
  rw [if_pos (by omega)]
  simp
theorem fields_word : ∀ (w cur l : List UInt8), (∀ b ∈ w, Lib.isSp b = false) → (cur ++ w) ≠ [] → Lib.fieldsGo cur (w ++ 32 :: l) = (cur ++ w) :: Lib.fieldsGo [] l
  | [], cur, l, _, hne => by
    have : Lib.isSp 32 = true := by decide
    cases cur with
    | nil => simp at hne
    | cons => simp [Lib.fieldsGo, this]
  | b :: w, cur, l, h, _ => by
    have hb : Lib.isSp b = false := h b (by simp)
    rw [List.cons_append, Lib.fieldsGo]
    simp only [hb, Bool.false_eq_true, if_false]
    rw [fields_word w (cur ++ [b]) l (fun b hb => h b (by simp [hb])) (by simp)]
    simp
theorem fields_rows : ∀ (l : List (List UInt8 × List UInt8)), (∀ e ∈ l, okEnt e = true) → Lib.fieldsGo [] (rows l) = l.map word
  | [], _ => by simp [rows, Lib.fieldsGo]
  | e :: l, h => by
    have he := ok_name (h e (by simp))
    rw [rows_cons, fields_word (word e) [] _ ?_ (by simp [word]), List.nil_append, fields_rows l (fun e he => h e (by simp [he])), List.map_cons]
    intro b hb
    simp only [word, List.mem_append, List.mem_cons] at hb
    rcases hb with hb | rfl | hb
    · exact (he.2.1 _ hb).2.2.1
    · decide
    · exact (he.2.2.1 _ hb).2.2.1
theorem rows_ascii (l : List (List UInt8 × List UInt8)) (h : ∀ e ∈ l, okEnt e = true) : ∀ b ∈ rows l, b.toNat < 128 := by
  intro b hb
  obtain ⟨e, he, hb⟩ := List.mem_flatMap.1 hb
  have ok := ok_name (h e he)
  simp only [row, List.mem_append, List.mem_cons, List.not_mem_nil, or_false] at hb
  rcases hb with hb | rfl | hb | rfl
  · exact (ok.2.1 _ hb).2.2.2
  · decide
  · exact (ok.2.2.1 _ hb).2.2.2
  · decide
/-- What a name has. -/
def uni (name : List UInt8) : List Int × Bool := match ents.find? (fun e => decide (e.1 = name)) with
  | some e => (us e, true)
  | none => ([], false)
/-- What a value leads to. -/
def back (r : Int) : List UInt8 × Bool := match ents.find? (fun e => decide (us e = [r])) with
  | some e => (e.1, true)
  | none => ([], false)
theorem uni_bad (name : List UInt8) (h : name = [] ∨ 32 ∈ name ∨ 61 ∈ name) : uni name = ([], false) := by
  unfold uni
  split
  · rename_i e he
    have hm := List.mem_of_find?_eq_some he
    have hp : e.1 = name := by simpa using List.find?_some he
    have ok := ok_name (ents_ok e hm)
    subst hp
    rcases h with h | h | h
    · exact absurd h ok.1
    · exact absurd rfl (ok.2.1 _ h).1
    · exact absurd rfl (ok.2.1 _ h).2.1
  · rfl
end GL
end Go.Proofs.YtbldfpejcmainaaDoor
