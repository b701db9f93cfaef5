/- Graphs: And makes what it says. -/
import Derived.Test.YtjeihigmneepcaaAgA
set_option linter.unusedVariables false
set_option linter.unusedSimpArgs false
set_option linter.unusedSectionVars false
namespace Go.Vm

theorem node_of {g : List T75} {m : List (T75 × Int)} (hG : AG g m) {b : Int} {n : T75} (h2 : 2 ≤ b) (hn : g[(b / 2 - 1).toNat]? = some n) (hin : isIn n = false) :
    (0 ≤ n.f0 ∧ n.f0 < b - b % 2 ∧ 0 ≤ n.f1 ∧ n.f1 < b - b % 2) ∧ ∀ ins, V ins g (b - b % 2) = (V ins g n.f0 && V ins g n.f1) := by
  have hw := hG.wf _ _ hn
  have hr : 0 ≤ n.f0 ∧ n.f0 ≤ 2 * ((b / 2 - 1).toNat : Int) + 1 ∧ 0 ≤ n.f1 ∧ n.f1 ≤ 2 * ((b / 2 - 1).toNat : Int) + 1 := by
    rcases hw with g | g
    · rw [hin] at g; cases g
    · exact g
  have e : 2 * (((b / 2 - 1).toNat : Int) + 1) = b - b % 2 := by omega
  refine ⟨by omega, fun ins => ?_⟩
  have := V_node (ins := ins) hG.wf hn hin
  rwa [e] at this
theorem F78_j2_eq (k : Nat) (c : Bool) : F78_j2 k c = some (0, c) := by cases c <;> rfl
theorem F78_spec {g : List T75} {m : List (T75 × Int)} (hG : AG g m) (hg : g.length ≤ 100000) {a b : Int} (ha : Rg g a) (hb : Rg g b) :
    ∃ l ok, (∀ k, F78 k a b g m = some (l, ok)) ∧ (ok = true → Rg g l ∧ ∀ ins, V ins g l = (V ins g a && V ins g b)) := by
  by_cases h2 : b < 2
  · exact ⟨0, false, fun k => by simp [F78, F84_low k h2, F78_j0], by simp⟩
  · obtain ⟨n, hn, _⟩ := F84_eq 0 m hg (by omega) hb.2
    have hF : ∀ k, F84 k b g m = some (n.f0, n.f1, !isIn n) := fun k => by
      obtain ⟨n', hn', h⟩ := F84_eq k m hg (by omega) hb.2
      rw [hn] at hn'; cases hn'; exact h
    cases hin : isIn n with
    | true => exact ⟨0, false, fun k => by simp [F78, hF k, hin, F78_j0], by simp⟩
    | false =>
      have ht : Int.tmod b 2 = b % 2 := Int.tmod_eq_emod_of_nonneg (by have := hb.1; omega)
      obtain ⟨hr, hV⟩ := node_of hG (by omega) hn hin
      have hx := xor_one ha.1 (by have := ha.2; omega)
      rcases Int.emod_two_eq b with e | e
      · -- an "and"
        rw [e] at hr hV
        simp only [Int.sub_zero] at hr hV
        have key : ∀ k, F78 k a b g m = F78_j0 k a b n.f0 n.f1 false := fun k => by simp [F78, hF k, hin, ht, e]
        by_cases c1 : a = n.f0 ∨ a = n.f1
        · refine ⟨b, true, fun k => ?_, fun _ => ⟨hb, fun ins => ?_⟩⟩
          · rw [key k]
            simp only [F78_j0, cond_false]
            rcases c1 with c | c
            · simp [c, F78_j1]
            · by_cases c0 : a = n.f0
              · simp [c0, F78_j1]
              · have : (a == n.f0) = false := by simp [c0]
                simp [this, c, F78_j1]
          · rw [hV ins]
            rcases c1 with c | c <;> rw [← c] <;> cases V ins g a <;> simp
        · simp only [not_or] at c1
          have k1 : (a == n.f0) = false := by simp [c1.1]
          have k2 : (a == n.f1) = false := by simp [c1.2]
          by_cases c2 : fl a = n.f0 ∨ fl a = n.f1
          · refine ⟨0, true, fun k => ?_, fun _ => ⟨⟨by omega, by omega⟩, fun ins => ?_⟩⟩
            · rw [key k]
              simp only [F78_j0, cond_false, k1, k2, F78_j1, hx]
              rcases c2 with c | c
              · simp [c, F78_j2_eq]
              · by_cases c0 : fl a = n.f0
                · simp [c0, F78_j2_eq]
                · have : (fl a == n.f0) = false := by simp [c0]
                  simp [this, c, F78_j2_eq]
            · rw [hV ins, V_zero]
              have := V_fl (ins := ins) (g := g) ha.1
              rcases c2 with c | c <;> rw [← c, this] <;> cases V ins g a <;> simp
          · simp only [not_or] at c2
            have k3 : (fl a == n.f0) = false := by simp [c2.1]
            have k4 : (fl a == n.f1) = false := by simp [c2.2]
            exact ⟨0, false, fun k => by rw [key k]; simp only [F78_j0, cond_false, k1, k2, F78_j1, hx, k3, k4, F78_j2_eq], by simp⟩
      · exact ⟨0, false, fun k => by simp [F78, hF k, hin, ht, e, F78_j0], by simp⟩

/-- And's promise. -/
def AndOk (a b : Int) (g : List T75) (m : List (T75 × Int)) : Prop := Made (fun k => F65 k a b g m) g 1 fun ins => V ins g a && V ins g b
theorem F79_spec {g : List T75} {m : List (T75 × Int)} (hG : AG g m) (hg : g.length ≤ 90000) {a b : Int} (ha : Rg g a) (hb : Rg g b)
    (ih : ∀ a' b', Rg g a' → Rg g b' → a' + b' < a + b → AndOk a' b' g m) :
    ∃ l ok g' m', Ev (fun k => F79 k a b g m) (l, ok, g', m') ∧ (ok = false → g' = g ∧ m' = m) ∧ (ok = true → AG g' m' ∧ Grow g g' 1 ∧ Rg g' l ∧ ∀ ins, V ins g' l = (V ins g a && V ins g b)) := by
  by_cases h2 : b < 2
  · refine ⟨0, false, g, m, Ev.succ (Ev.succ ?_) , fun _ => ⟨rfl, rfl⟩, by simp⟩
    simp only [F79, F84_low _ h2, Option.bind_some, Bool.not_false, cond_true, F79_j0]
    exact Ev.pure
  · obtain ⟨n, hn, _⟩ := F84_eq 0 m (by omega) (by omega) hb.2
    have hF : ∀ k, F84 k b g m = some (n.f0, n.f1, !isIn n) := fun k => by
      obtain ⟨n', hn', h⟩ := F84_eq k m (by omega) (by omega) hb.2
      rw [hn] at hn'; cases hn'; exact h
    have no : ∀ (c : Bool), c = true → ∃ l ok g' m', Ev (fun k => F79_j0 k a n.f0 n.f1 g m c) (l, ok, g', m') ∧ (ok = false → g' = g ∧ m' = m) ∧ (ok = true → AG g' m' ∧ Grow g g' 1 ∧ Rg g' l ∧ ∀ ins, V ins g' l = (V ins g a && V ins g b)) := fun c hc => by
      subst hc
      exact ⟨0, false, g, m, Ev.succ (by simp only [F79_j0, cond_true]; exact Ev.pure), fun _ => ⟨rfl, rfl⟩, by simp⟩
    cases hin : isIn n with
    | true =>
      obtain ⟨l, ok, g', m', e1, e2, e3⟩ := no true rfl
      exact ⟨l, ok, g', m', Ev.succ (by simp only [F79, hF, Option.bind_some, hin, Bool.not_true, Bool.not_false, cond_true]; exact e1), e2, e3⟩
    | false =>
      have ht : Int.tmod b 2 = b % 2 := Int.tmod_eq_emod_of_nonneg (by have := hb.1; omega)
      obtain ⟨hr, hV⟩ := node_of hG (by omega) hn hin
      have hx := xor_one ha.1 (by have := ha.2; omega)
      rcases Int.emod_two_eq b with e | e
      · obtain ⟨l, ok, g', m', e1, e2, e3⟩ := no true rfl
        exact ⟨l, ok, g', m', Ev.succ (by simp only [F79, hF, Option.bind_some, hin, Bool.not_true, Bool.not_false, cond_false, ht, e]; exact e1), e2, e3⟩
      · rw [e] at hr hV
        have hb1 : fl (b - 1) = b := by unfold fl; split <;> omega
        have hVb : ∀ ins, V ins g b = !(V ins g n.f0 && V ins g n.f1) := fun ins => by
          have := V_fl (ins := ins) (g := g) (l := b - 1) (by omega)
          rw [hb1] at this
          rw [this, hV ins]
        have start : ∀ R, Ev (fun k => F79_j0 k a n.f0 n.f1 g m false) R → Ev (fun k => F79 k a b g m) R := fun R h => Ev.succ (by
          simp only [F79, hF, Option.bind_some, hin, Bool.not_true, Bool.not_false, cond_false, ht, e]
          exact h)
        have r0 : Rg g n.f0 := ⟨hr.1, by have := hb.2; omega⟩
        have r1 : Rg g n.f1 := ⟨hr.2.2.1, by have := hb.2; omega⟩
        have x0 : bits .xor .i64 n.f0 1 = fl n.f0 := xor_one r0.1 (by have := r0.2; omega)
        have x1 : bits .xor .i64 n.f1 1 = fl n.f1 := xor_one r1.1 (by have := r1.2; omega)
        by_cases c2 : fl a = n.f0 ∨ fl a = n.f1
        · refine ⟨a, true, g, m, start _ (Ev.succ ?_), by simp, fun _ => ⟨hG, Grow.refl g 1, ha, fun ins => ?_⟩⟩
          · simp only [F79_j0, cond_false, hx]
            have fin : Ev (fun k => F79_j1 k a n.f0 n.f1 g m true) (a, true, g, m) := Ev.succ (by simp only [F79_j1, cond_true]; exact Ev.pure)
            rcases c2 with c | c
            · simp only [c, beq_self_eq_true, cond_true]; exact fin
            · by_cases c0 : fl a = n.f0
              · simp only [c0, beq_self_eq_true, cond_true]; exact fin
              · have : (fl a == n.f0) = false := by simp [c0]
                have k4 : (fl a == n.f1) = true := by simp [c]
                simp only [this, k4, cond_false]; exact fin
          · rw [hVb ins]
            have := V_fl (ins := ins) (g := g) ha.1
            rcases c2 with c | c <;> rw [← c, this] <;> cases V ins g a <;> simp
        · simp only [not_or] at c2
          have k3 : (fl a == n.f0) = false := by simp [c2.1]
          have k4 : (fl a == n.f1) = false := by simp [c2.2]
          have mid : ∀ R, Ev (fun k => F79_j1 k a n.f0 n.f1 g m false) R → Ev (fun k => F79 k a b g m) R := fun R h => start _ (Ev.succ (by
            simp only [F79_j0, cond_false, hx, k3, k4]
            exact h))
          by_cases c0 : a = n.f0
          · obtain ⟨l, g', m', e1, e2, e3, e4, e5⟩ := ih a (fl n.f1) ha r1.fl (by have := fl_range r1.1; omega)
            refine ⟨l, true, g', m', mid _ (Ev.succ ?_), by simp, fun _ => ⟨e2, e3, e4, fun ins => ?_⟩⟩
            · have : (a == n.f0) = true := by simp [c0]
              simp only [F79_j1, cond_false, this, cond_true, x1]
              exact Ev.bind e1 Ev.pure
            · rw [e5]
              dsimp only
              rw [V_fl r1.1, hVb ins, ← c0]
              cases V ins g a <;> simp
          · have k1 : (a == n.f0) = false := by simp [c0]
            by_cases c1 : a = n.f1
            · obtain ⟨l, g', m', e1, e2, e3, e4, e5⟩ := ih a (fl n.f0) ha r0.fl (by have := fl_range r0.1; omega)
              refine ⟨l, true, g', m', mid _ (Ev.succ ?_), by simp, fun _ => ⟨e2, e3, e4, fun ins => ?_⟩⟩
              · have : (a == n.f1) = true := by simp [c1]
                simp only [F79_j1, cond_false, k1, this, cond_true, x0]
                exact Ev.bind e1 Ev.pure
              · rw [e5]
                dsimp only
                rw [V_fl r0.1, hVb ins, ← c1]
                cases V ins g a <;> simp
            · have k2 : (a == n.f1) = false := by simp [c1]
              refine ⟨0, false, g, m, mid _ (Ev.succ ?_), fun _ => ⟨rfl, rfl⟩, by simp⟩
              simp only [F79_j1, cond_false, k1, k2]
              exact Ev.pure

theorem q75_eq {x y : T75} : q75 x y = true ↔ x = y := by
  obtain ⟨a, b⟩ := x
  obtain ⟨c, d⟩ := y
  simp [q75]
theorem add_made {g : List T75} {m : List (T75 × Int)} (hG : AG g m) (hg : g.length ≤ 90000) {x y : Int} (hx : Rg g x) (hy : Rg g y) :
    ∀ k, F44 k x y g m = some (2 * ((g.length : Int) + 1), g ++ [⟨x, y⟩]) := fun k => by
  have h1 : ¬ ((g.length : Int) ≥ 1048576) := by omega
  unfold F44
  simp only [l75_len, h1, decide_false, cond_false, appL_small (b := 16) (xs := g) (ys := [(⟨x, y⟩ : T75)]) (by omega) (by simp; omega), Option.bind_some, List.length_append, List.length_singleton]
  rw [wrap_small (by omega) (by omega)]
  simp
theorem and_all (N : Nat) : ∀ (a b : Int) (g : List T75) (m : List (T75 × Int)), AG g m → g.length ≤ 90000 → Rg g a → Rg g b → (a + b).toNat = N → AndOk a b g m := by
  induction N using Nat.strongRecOn with
  | ind N ih =>
    intro a b g m hG hg ha hb hN
    have ih' : ∀ a' b', Rg g a' → Rg g b' → a' + b' < a + b → AndOk a' b' g m := fun a' b' ha' hb' hlt => ih _ (by have := ha'.1; have := hb'.1; omega) a' b' g m hG hg ha' hb' rfl
    have s1 : ∀ R, Ev (fun k => F65_j0 k a b g m false) R → Ev (fun k => F65 k a b g m) R := fun R h => Ev.succ (by
      simp only [F65, F46_eq _ _ _ _ (show g.length ≤ 100000 by omega), ha, hb, decide_true, Option.bind_some, Bool.not_true, cond_false]
      exact h)
    generalize hx : (if b < a then b else a) = x at *
    generalize hy : (if b > a then b else a) = y at *
    have hxy : (x = a ∧ y = b) ∨ (x = b ∧ y = a) := by split at hx <;> split at hy <;> omega
    have rx : Rg g x := by rcases hxy with h | h <;> (rw [h.1]; assumption)
    have ry : Rg g y := by rcases hxy with h | h <;> (rw [h.2]; assumption)
    have hle : x ≤ y := by split at hx <;> split at hy <;> omega
    have hsum : x + y = a + b := by rcases hxy with h | h <;> omega
    have hval : ∀ ins, (V ins g a && V ins g b) = (V ins g x && V ins g y) := fun ins => by rcases hxy with h | h <;> rw [h.1, h.2]; exact Bool.and_comm _ _
    have done : ∀ (l : Int), Rg g l → (∀ ins, V ins g l = (V ins g x && V ins g y)) → Ev (fun k => F65 k a b g m) (l, g, m) → AndOk a b g m := fun l h1 h2 h3 =>
      ⟨l, g, m, h3, hG, Grow.refl g 1, h1, fun ins => (h2 ins).trans (hval ins).symm⟩
    have hxx := xor_one rx.1 (by have := rx.2; omega)
    have j0 : ∀ R, (∀ c, ((x == 0) || (fl x == y)) = c → Ev (fun k => F65_j1 k b a g m c) R) → Ev (fun k => F65 k a b g m) R := fun R h => s1 R (Ev.succ (by
      simp only [F65_j0, cond_false, hx, hy, hxx]
      cases c : (x == 0) with
      | true => exact h true (by simp [c])
      | false => exact h _ (by simp [c])))
    by_cases z0 : x = 0 ∨ fl x = y
    · refine done 0 ⟨by omega, by omega⟩ (fun ins => ?_) (j0 _ fun c hc => ?_)
      · rw [V_zero]
        rcases z0 with z | z
        · rw [z, V_zero]; simp
        · rw [← z, V_fl rx.1]; cases V ins g x <;> simp
      · have : c = true := by
          rw [← hc]
          rcases z0 with z | z <;> simp [z]
        subst this
        exact Ev.succ (by simp only [F65_j1, cond_true]; exact Ev.pure)
    · simp only [not_or] at z0
      have hc0 : ((x == 0) || (fl x == y)) = false := by simp [z0.1, z0.2]
      have j1 : ∀ R, (∀ c, ((x == 1) || (x == y)) = c → Ev (fun k => F65_j2 k b a g m c) R) → Ev (fun k => F65 k a b g m) R := fun R h => j0 R fun c hc => by
        rw [hc0] at hc
        subst hc
        exact Ev.succ (by
          simp only [F65_j1, cond_false, hx, hy]
          cases c : (x == 1) with
          | true => exact h true (by simp [c])
          | false => exact h _ (by simp [c]))
      by_cases z1 : x = 1 ∨ x = y
      · refine done y ry (fun ins => ?_) (j1 _ fun c hc => ?_)
        · rcases z1 with z | z
          · rw [z, V_one]; simp
          · rw [z]; simp
        · have : c = true := by
            rw [← hc]
            rcases z1 with z | z <;> simp [z]
          subst this
          exact Ev.succ (by simp only [F65_j2, cond_true, hy]; exact Ev.pure)
      · simp only [not_or] at z1
        have hc1 : ((x == 1) || (x == y)) = false := by simp [z1.1, z1.2]
        obtain ⟨l1, o1, p1, q1⟩ := F78_spec hG (by omega) rx ry
        obtain ⟨l2, o2, p2, q2⟩ := F78_spec hG (by omega) ry rx
        have j2 : ∀ R, Ev (fun k => F65_j2 k b a g m false) R → Ev (fun k => F65 k a b g m) R := fun R h => j1 R fun c hc => by
          rw [hc1] at hc; subst hc; exact h
        cases o1 with
        | true => exact done l1 (q1 rfl).1 (q1 rfl).2 (j2 _ (Ev.succ (by simp only [F65_j2, cond_false, hx, hy, p1, Option.bind_some, cond_true]; exact Ev.pure)))
        | false =>
          cases o2 with
          | true =>
            refine done l2 (q2 rfl).1 (fun ins => by rw [(q2 rfl).2 ins]; exact Bool.and_comm _ _) (j2 _ (Ev.succ ?_))
            simp only [F65_j2, cond_false, hx, hy, p1, p2, Option.bind_some, cond_true]; exact Ev.pure
          | false =>
            obtain ⟨l3, o3, g3, m3, p3, n3, q3⟩ := F79_spec hG hg rx ry (fun a' b' h1 h2 h3 => ih' a' b' h1 h2 (by omega))
            have j3 : ∀ R, Ev (fun k => bif o3 then some (l3, g3, m3) else ((F79 k y x g3 m3).bind fun ⟨v18, v19, v20, v21⟩ =>
                (bif v19 then some (v18, v20, v21) else
                  (bif (getM q75 v21 (T75.mk x y)).isSome then some (((getM q75 v21 (T75.mk x y)).getD 0), v20, v21)
                  else ((F44 k x y v20 v21).bind fun ⟨v22, v23⟩ => (bif (v22 != (-1)) then some (v22, v23, (putM q75 v21 (T75.mk x y) v22)) else some (v22, v23, v21))))))) R → Ev (fun k => F65 k a b g m) R := fun R h => j2 R (Ev.succ (by
              simp only [F65_j2, cond_false, hx, hy, p1, p2, Option.bind_some]
              exact Ev.bind p3 h))
            cases o3 with
            | true =>
              obtain ⟨a1, a2, a3, a4⟩ := q3 rfl
              exact ⟨l3, g3, m3, j3 _ (by simp only [cond_true]; exact Ev.pure), a1, a2, a3, fun ins => (a4 ins).trans (hval ins).symm⟩
            | false =>
              obtain ⟨rfl, rfl⟩ := n3 rfl
              obtain ⟨l4, o4, g4, m4, p4, n4, q4⟩ := F79_spec hG hg ry rx (fun a' b' h1 h2 h3 => ih' a' b' h1 h2 (by omega))
              have j4 : ∀ R, Ev (fun k => (bif o4 then some (l4, g4, m4) else
                  (bif (getM q75 m4 (T75.mk x y)).isSome then some (((getM q75 m4 (T75.mk x y)).getD 0), g4, m4)
                  else ((F44 k x y g4 m4).bind fun ⟨v22, v23⟩ => (bif (v22 != (-1)) then some (v22, v23, (putM q75 m4 (T75.mk x y) v22)) else some (v22, v23, m4)))))) R → Ev (fun k => F65 k a b g3 m3) R := fun R h => j3 R (by
                simp only [cond_false]
                exact Ev.bind p4 h)
              cases o4 with
              | true =>
                obtain ⟨a1, a2, a3, a4⟩ := q4 rfl
                exact ⟨l4, g4, m4, j4 _ (by simp only [cond_true]; exact Ev.pure), a1, a2, a3, fun ins => ((a4 ins).trans (Bool.and_comm _ _)).trans (hval ins).symm⟩
              | false =>
                obtain ⟨rfl, rfl⟩ := n4 rfl
                cases hgm : getM q75 m4 ⟨x, y⟩ with
                | some l =>
                  obtain ⟨p, hp, hq, hl⟩ := getM_mem hgm
                  have hpe := q75_eq.1 hq
                  obtain ⟨i, hi, hgi, hni⟩ := hG.tab p hp
                  have hil := (List.getElem?_eq_some_iff.1 hgi).1
                  rw [← hpe] at hgi hni
                  refine done l ⟨by omega, by omega⟩ (fun ins => ?_) (j4 _ ?_)
                  · have := V_node (ins := ins) hG.wf hgi hni
                    rw [← hl, hi]; exact this
                  · simp only [cond_false, hgm, Option.isSome_some, cond_true, Option.getD_some]; exact Ev.pure
                | none =>
                  have hnode : isIn ⟨x, y⟩ = false := by
                    unfold isIn
                    have : (x == -1) = false := by simp; have := rx.1; omega
                    simp [this]
                  have hadd := add_made hG hg rx ry
                  have hne : ((2 * ((g4.length : Int) + 1)) != -1) = true := by simp; omega
                  have hG' : AG (g4 ++ [⟨x, y⟩]) (putM q75 m4 ⟨x, y⟩ (2 * ((g4.length : Int) + 1))) := {
                    wf := fun i n hi => by
                      rcases Nat.lt_or_ge i g4.length with h | h
                      · rw [List.getElem?_append_left h] at hi; exact hG.wf i n hi
                      · rw [List.getElem?_append_right h] at hi
                        have hl := (List.getElem?_eq_some_iff.1 hi).1
                        simp at hl
                        have : i = g4.length := by omega
                        subst this
                        simp at hi
                        subst hi
                        exact .inr ⟨rx.1, rx.2, ry.1, ry.2⟩
                    tab := fun p hp => by
                      rcases putM_mem hp with h | h
                      · obtain ⟨i, hi, hgi, hni⟩ := hG.tab p h
                        exact ⟨i, hi, by rw [List.getElem?_append_left (List.getElem?_eq_some_iff.1 hgi).1]; exact hgi, hni⟩
                      · subst h
                        exact ⟨g4.length, rfl, by simp, hnode⟩ }
                  refine ⟨2 * ((g4.length : Int) + 1), g4 ++ [⟨x, y⟩], putM q75 m4 ⟨x, y⟩ (2 * ((g4.length : Int) + 1)), j4 _ ?_, hG', ⟨[⟨x, y⟩], rfl, by simp, by simpa using hnode⟩, ⟨by omega, by simp; omega⟩, fun ins => ?_⟩
                  · simp only [cond_false, hgm, Option.isSome_none, hadd, Option.bind_some, hne, cond_true]
                    exact Ev.pure
                  · have := V_node (ins := ins) hG'.wf (i := g4.length) (n := ⟨x, y⟩) (by simp) hnode
                    refine (this.trans ?_).trans (hval ins).symm
                    rw [V_ext (by have := rx.2; simpa using this), V_ext (by have := ry.2; simpa using this)]
theorem and_made {a b : Int} {g : List T75} {m : List (T75 × Int)} (hG : AG g m) (hg : g.length ≤ 90000) (ha : Rg g a) (hb : Rg g b) : Made (fun k => F65 k a b g m) g 1 fun ins => V ins g a && V ins g b := and_all _ a b g m hG hg ha hb rfl
end Go.Vm
