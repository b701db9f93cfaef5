/- Graphs of "and" and negations: what literals are worth, and that And, Or, Xor, Ite, All make what they say. -/
import Derived.Test.YtjeihigmneepcaaPg
set_option linter.unusedVariables false
set_option linter.unusedSimpArgs false
set_option linter.unusedSectionVars false
namespace Go.Vm

theorem list_snoc {α : Type} {P : List α → Prop} (h0 : P []) (h1 : ∀ l a, P l → P (l ++ [a])) (l : List α) : P l := by
  have : ∀ r : List α, P r.reverse := by
    intro r
    induction r with
    | nil => exact h0
    | cons a r ih => rw [List.reverse_cons]; exact h1 _ _ ih
  have h := this l.reverse
  rwa [List.reverse_reverse] at h
/-! ### values -/
def isIn (n : T75) : Bool := (n.f0 == -1) && ((n.f1 == -1) && true)
def litV (v : List Bool) (l : Int) : Bool := if l < 2 then l == 1 else (v.getD (l.toNat / 2 - 1) false) != (l % 2 == 1)
def ev1 (ins : List Bool) (st : Nat × List Bool) (n : T75) : Nat × List Bool :=
  bif isIn n then (st.1 + 1, st.2 ++ [ins.getD st.1 false]) else (st.1, st.2 ++ [litV st.2 n.f0 && litV st.2 n.f1])
def evG (ins : List Bool) (g : List T75) : Nat × List Bool := g.foldl (ev1 ins) (0, [])
def vals (ins : List Bool) (g : List T75) : List Bool := (evG ins g).2
def nI (g : List T75) : Nat := (g.filter isIn).length
def V (ins : List Bool) (g : List T75) (l : Int) : Bool := litV (vals ins g) l

theorem evG_snoc (ins : List Bool) (g : List T75) (n : T75) : evG ins (g ++ [n]) = ev1 ins (evG ins g) n := by simp [evG, List.foldl_append]
theorem evG_count (ins : List Bool) : ∀ g : List T75, (evG ins g).1 = nI g ∧ (vals ins g).length = g.length := by
  intro g
  refine list_snoc (P := fun g => (evG ins g).1 = nI g ∧ (vals ins g).length = g.length) ?_ ?_ g
  · simp [evG, nI, vals]
  · intro g n ih
    unfold vals at ih ⊢
    rw [evG_snoc]
    unfold ev1
    cases h : isIn n <;> simp [nI, List.filter_append, h, ih.1, ih.2] <;> exact ih.1
theorem vals_len (ins : List Bool) (g : List T75) : (vals ins g).length = g.length := (evG_count ins g).2
theorem vals_snoc (ins : List Bool) (g : List T75) (n : T75) : vals ins (g ++ [n]) = vals ins g ++ [bif isIn n then ins.getD (nI g) false else (V ins g n.f0 && V ins g n.f1)] := by
  have h1 := (evG_count ins g).1
  unfold vals
  rw [evG_snoc]
  unfold ev1
  cases h : isIn n
  · simp [V, vals]
  · simp [h1]
theorem vals_ext (ins : List Bool) (g : List T75) : ∀ h : List T75, ∃ t, vals ins (g ++ h) = vals ins g ++ t := by
  intro h
  refine list_snoc (P := fun h => ∃ t, vals ins (g ++ h) = vals ins g ++ t) ?_ ?_ h
  · exact ⟨[], by simp⟩
  · intro h n ih
    obtain ⟨t, ht⟩ := ih
    refine ⟨t ++ [bif isIn n then ins.getD (nI (g ++ h)) false else (V ins (g ++ h) n.f0 && V ins (g ++ h) n.f1)], ?_⟩
    rw [← List.append_assoc, vals_snoc, ht, List.append_assoc]
theorem litV_ext {v t : List Bool} {l : Int} (h : l ≤ 2 * v.length + 1) : litV (v ++ t) l = litV v l := by
  unfold litV
  split
  · rfl
  · have : l.toNat / 2 - 1 < v.length := by omega
    simp [List.getD_eq_getElem?_getD, List.getElem?_append_left this]
theorem V_ext {ins : List Bool} {g : List T75} {l : Int} (h : l ≤ 2 * g.length + 1) (h' : List T75) : V ins (g ++ h') l = V ins g l := by
  obtain ⟨t, ht⟩ := vals_ext ins g h'
  unfold V
  rw [ht, litV_ext (by rw [vals_len]; exact h)]
theorem V_fl {ins : List Bool} {g : List T75} {l : Int} (h0 : 0 ≤ l) : V ins g (fl l) = !V ins g l := by
  unfold V litV fl
  rcases Int.emod_two_eq l with e | e
  · simp only [e, if_true]
    by_cases hl : l < 2
    · have : l = 0 := by omega
      subst this; rfl
    · have a1 : ¬ l + 1 < 2 := by omega
      have a2 : (l + 1).toNat / 2 - 1 = l.toNat / 2 - 1 := by omega
      have a3 : (l + 1) % 2 = 1 := by omega
      simp only [a1, if_false, hl, a2, a3]
      cases (vals ins g).getD (l.toNat / 2 - 1) false <;> rfl
  · have hne : ¬ (1 : Int) = 0 := by decide
    simp only [e, hne, if_false]
    by_cases hl : l < 2
    · have : l = 1 := by omega
      subst this; rfl
    · have a1 : ¬ l - 1 < 2 := by omega
      have a2 : (l - 1).toNat / 2 - 1 = l.toNat / 2 - 1 := by omega
      have a3 : (l - 1) % 2 = 0 := by omega
      simp only [a1, if_false, hl, a2, a3]
      cases (vals ins g).getD (l.toNat / 2 - 1) false <;> rfl
theorem V_zero (ins : List Bool) (g : List T75) : V ins g 0 = false := rfl
theorem V_one (ins : List Bool) (g : List T75) : V ins g 1 = true := rfl

/-! ### graphs -/
def okN (i : Nat) (n : T75) : Prop := isIn n = true ∨ (0 ≤ n.f0 ∧ n.f0 ≤ 2 * (i : Int) + 1 ∧ 0 ≤ n.f1 ∧ n.f1 ≤ 2 * (i : Int) + 1)
structure AG (g : List T75) (m : List (T75 × Int)) : Prop where
  wf : ∀ i n, g[i]? = some n → okN i n
  tab : ∀ p ∈ m, ∃ i : Nat, p.2 = 2 * ((i : Int) + 1) ∧ g[i]? = some p.1 ∧ isIn p.1 = false
theorem okN_not_in {i : Nat} {n : T75} (h : okN i n) : (0 ≤ n.f0 ∧ n.f0 ≤ 2 * (i : Int) + 1 ∧ 0 ≤ n.f1 ∧ n.f1 ≤ 2 * (i : Int) + 1) → isIn n = false := by
  intro h; unfold isIn
  have : (n.f0 == -1) = false := by simp; omega
  simp [this]
theorem V_node {ins : List Bool} {g : List T75} (hw : ∀ i n, g[i]? = some n → okN i n) {i : Nat} {n : T75} (h : g[i]? = some n) (hn : isIn n = false) : V ins g (2 * ((i : Int) + 1)) = (V ins g n.f0 && V ins g n.f1) := by
  have hi := (List.getElem?_eq_some_iff.1 h).1
  have e : g = g.take i ++ [n] ++ g.drop (i + 1) := by
    have hx := (List.getElem?_eq_some_iff.1 h).2
    rw [List.append_assoc, List.singleton_append, ← hx, ← List.drop_eq_getElem_cons hi, List.take_append_drop]
  have hr : 0 ≤ n.f0 ∧ n.f0 ≤ 2 * (i : Int) + 1 ∧ 0 ≤ n.f1 ∧ n.f1 ≤ 2 * (i : Int) + 1 := by
    rcases hw i n h with g | g
    · rw [hn] at g; cases g
    · exact g
  have ht : (g.take i).length = i := by simp; omega
  have e0 : V ins g n.f0 = V ins (g.take i) n.f0 := by
    conv => lhs; rw [e, List.append_assoc]
    exact V_ext (by rw [ht]; exact hr.2.1) _
  have e1 : V ins g n.f1 = V ins (g.take i) n.f1 := by
    conv => lhs; rw [e, List.append_assoc]
    exact V_ext (by rw [ht]; exact hr.2.2.2) _
  have e2 : V ins g (2 * ((i : Int) + 1)) = V ins (g.take i ++ [n]) (2 * ((i : Int) + 1)) := by
    conv => lhs; rw [e]
    exact V_ext (by simp; omega) _
  rw [e0, e1, e2]
  unfold V
  rw [vals_snoc]
  simp only [hn, cond_false]
  have hl : (vals ins (g.take i)).length = i := by rw [vals_len, ht]
  unfold litV
  have a1 : ¬ (2 * ((i : Int) + 1)) < 2 := by omega
  have a2 : (2 * ((i : Int) + 1)).toNat / 2 - 1 = i := by omega
  have a3 : (2 * ((i : Int) + 1)) % 2 = 0 := by omega
  simp only [a1, if_false, a2, a3]
  rw [List.getD_eq_getElem?_getD, List.getElem?_append_right (by omega), hl]
  simp [V, litV]
/-- A graph that grew by "and"s. -/
structure Grow (g : List T75) (g' : List T75) (c : Nat) : Prop where
  ex : ∃ h, g' = g ++ h ∧ h.length ≤ c ∧ ∀ n ∈ h, isIn n = false
theorem Grow.refl (g : List T75) (c : Nat) : Grow g g c := ⟨[], by simp, by simp, by simp⟩
theorem Grow.trans {g g' g'' : List T75} {c d e : Nat} (h : Grow g g' c) (k : Grow g' g'' d) (he : c + d ≤ e) : Grow g g'' e := by
  obtain ⟨⟨a, rfl, a2, a3⟩⟩ := h
  obtain ⟨⟨b, rfl, b2, b3⟩⟩ := k
  exact ⟨a ++ b, by simp, by simp; omega, fun n hn => (List.mem_append.1 hn).elim (a3 n) (b3 n)⟩
theorem Grow.V {g g' : List T75} {c : Nat} (h : Grow g g' c) {l : Int} (hl : l ≤ 2 * g.length + 1) (ins : List Bool) : V ins g' l = V ins g l := by
  obtain ⟨⟨a, rfl, a2, a3⟩⟩ := h
  exact V_ext hl a
theorem Grow.len {g g' : List T75} {c : Nat} (h : Grow g g' c) : g.length ≤ g'.length ∧ g'.length ≤ g.length + c := by
  obtain ⟨⟨a, rfl, a2, a3⟩⟩ := h
  simp; omega
theorem Grow.nI {g g' : List T75} {c : Nat} (h : Grow g g' c) : nI g' = nI g := by
  obtain ⟨⟨a, rfl, a2, a3⟩⟩ := h
  have : a.filter isIn = [] := List.filter_eq_nil_iff.2 fun n hn => by simp [a3 n hn]
  simp [Vm.nI, List.filter_append, this]
def Rg (g : List T75) (l : Int) : Prop := 0 ≤ l ∧ l ≤ 2 * (g.length : Int) + 1
theorem Rg.grow {g g' : List T75} {c : Nat} {l : Int} (h : Rg g l) (k : Grow g g' c) : Rg g' l := by have := k.len; exact ⟨h.1, by have := h.2; omega⟩
theorem Rg.fl {g : List T75} {l : Int} (h : Rg g l) : Rg g (fl l) := by obtain ⟨h1, h2⟩ := h; have := fl_range h1; exact ⟨this.1, by omega⟩
/-- What an operation of the graph makes: a literal that is worth so. -/
def Made (F : Nat → Option (Int × List T75 × List (T75 × Int))) (g : List T75) (c : Nat) (val : List Bool → Bool) : Prop :=
  ∃ l g' m', Ev F (l, g', m') ∧ AG g' m' ∧ Grow g g' c ∧ Rg g' l ∧ ∀ ins, V ins g' l = val ins

instance (g : List T75) (l : Int) : Decidable (Rg g l) := by unfold Rg; infer_instance
theorem F45_eq (k : Nat) : F45 k = some (-1, -1) := rfl
theorem F46_eq (k : Nat) (l : Int) (g : List T75) (m : List (T75 × Int)) (hg : g.length ≤ 100000) : F46 k l g m = some (decide (Rg g l)) := by
  unfold F46 Rg
  rw [l75_len]
  by_cases h0 : l ≥ 0
  · have h0' : 0 ≤ l := h0
    simp only [h0, decide_true, cond_true, h0', true_and]
    rw [wrap_small (x := 2 * (g.length : Int)) (by omega) (by omega), wrap_small (by omega) (by omega)]
  · have h0' : ¬ 0 ≤ l := h0
    simp only [h0, decide_false, cond_false, h0', false_and]
theorem F84_low (k : Nat) {l : Int} (h : l < 2) (g : List T75) (m : List (T75 × Int)) : F84 k l g m = some (0, 0, false) := by simp [F84, h]
theorem F84_eq (k : Nat) {l : Int} {g : List T75} (m : List (T75 × Int)) (hg : g.length ≤ 100000) (h : 2 ≤ l) (h2 : l ≤ 2 * (g.length : Int) + 1) : ∃ n, g[(l / 2 - 1).toNat]? = some n ∧ F84 k l g m = some (n.f0, n.f1, !isIn n) := by
  have hi : (l / 2 - 1).toNat < g.length := by omega
  refine ⟨g[(l / 2 - 1).toNat], List.getElem?_eq_getElem hi, ?_⟩
  have hlt : ¬ l < 2 := by omega
  have ht : Int.tdiv l 2 = l / 2 := Int.tdiv_eq_ediv_of_nonneg (by omega)
  unfold F84
  simp only [hlt, decide_false, cond_false, ht]
  rw [wrap_small (x := l / 2) (by omega) (by omega), wrap_small (by omega) (by omega), idx_nat (by omega) (List.getElem?_eq_getElem hi)]
  simp only [Option.bind_some, F45_eq, isIn]
end Go.Vm
