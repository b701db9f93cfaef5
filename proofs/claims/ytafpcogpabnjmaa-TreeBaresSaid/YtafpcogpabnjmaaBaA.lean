/- Programs without places: what the program makes of a program is the program with all places 0. -/
import Derived.Test.YtafpcogpabnjmaaPlL
set_option linter.unusedVariables false
set_option linter.unusedSimpArgs false
set_option linter.unusedSectionVars false
namespace Go.Vm

theorem appL_small {α : Type} {b : Nat} {xs ys : List α} (hb : b ≤ 1000) (h : xs.length + ys.length ≤ 1000000) : appL b xs ys = some (xs ++ ys) := by
  unfold appL
  have : (xs.length + ys.length) * b ≤ 1000000 * 1000 := Nat.mul_le_mul h hb
  rw [if_pos ⟨by omega, by omega⟩]
mutual
def bE : T57 → T57
  | ⟨a, b, c, d, l, _⟩ => ⟨a, b, c, d, bEs l, 0⟩
def bEs : List T57 → List T57
  | [] => []
  | e :: r => bE e :: bEs r
end
mutual
def bS : T69 → T69
  | ⟨a, b, c, d, e, f, _⟩ => ⟨a, b, c, bEs d, bSs e, bSs f, 0⟩
def bSs : List T69 → List T69
  | [] => []
  | s :: r => bS s :: bSs r
end
def bD (x : T76) : T76 := ⟨x.f0, x.f1, x.f2, 0⟩
def bP (x : T34) : T34 := ⟨x.f0, bSs x.f1, 0⟩
theorem bEs_len : ∀ l, (bEs l).length = l.length
  | [] => rfl
  | e :: r => by simp [bEs, bEs_len r]
theorem bSs_len : ∀ l, (bSs l).length = l.length
  | [] => rfl
  | e :: r => by simp [bSs, bSs_len r]
theorem cE_pos (e : T57) : 1 ≤ cE e := by cases e; simp only [cE]; omega
theorem cEs_len : ∀ l, l.length ≤ cEs l
  | [] => Nat.le_refl _
  | e :: r => by have := cE_pos e; have := cEs_len r; simp only [cEs, List.length_cons]; omega
theorem cS_pos (e : T69) : 1 ≤ cS e := by cases e; simp only [cS]; omega
theorem cSs_len : ∀ l, l.length ≤ cSs l
  | [] => Nat.le_refl _
  | e :: r => by have := cS_pos e; have := cSs_len r; simp only [cSs, List.length_cons]; omega

mutual
theorem bE_ev : ∀ (e : T57), w57 e → cE e ≤ 500000 → Ev (fun k => F83 k e.f4) (bEs e.f4)
  | ⟨a, b, c, d, l, f⟩, h, hc => by
    simp only [w57] at h
    simp only [cE] at hc
    have := bEs_ls l h.2.2.2.2.1.2 (by omega) l 0 [] rfl h.2.2.2.2.1.1 (by have := cEs_len l; simp; omega)
    exact Ev.succ (by simp only [F83]; simpa using this)
theorem bEs_ls : ∀ (rest : List T57), ws57 rest → cEs rest ≤ 500000 → ∀ (xs : List T57) (i : Nat) (acc : List T57), xs.drop i = rest → xs.length ≤ maxLen → acc.length + rest.length ≤ 1000000 → Ev (fun k => F83_l0 k xs (i : Int) acc) (acc ++ bEs rest)
  | [], h, hc, xs, i, acc, hd, hl, ha => by
    refine Ev.succ ?_
    simp only [F83_l0, l57_len, ge_dec (drop_end hd), cond_false, bEs, List.append_nil]
    exact Ev.pure
  | e :: rest, h, hc, xs, i, acc, hd, hl, ha => by
    obtain ⟨h1, h2, h3⟩ := idx_drop hd
    simp only [cEs] at hc
    have he := bE_ev e h.1 (by omega)
    have hr := bEs_ls rest h.2 (by omega) xs (i + 1) (acc ++ [bE e]) h3 hl (by simp at ha ⊢; omega)
    obtain ⟨a, b, c, d, l, f⟩ := e
    refine Ev.succ ?_
    simp only [F83_l0, l57_len, lt_dec h2, cond_true, h1, Option.bind_some, wrap_nat h2 hl]
    refine Ev.bind he ?_
    refine Ev.some_bind (appL_small (by omega) (by simp at ha ⊢; omega)) ?_
    simpa [bEs, bE] using hr
end
theorem F83_ev (l : List T57) (h : ws57 l) (hl : l.length ≤ maxLen) (hc : cEs l ≤ 500000) : Ev (fun k => F83 k l) (bEs l) := by
  have := bEs_ls l h hc l 0 [] rfl hl (by have := cEs_len l; simp; omega)
  exact Ev.succ (by simp only [F83]; simpa using this)
mutual
theorem bS_ev : ∀ (s : T69), w69 s → cS s ≤ 500000 → mS s ≤ 500000 → Ev (fun k => F83 k s.f3) (bEs s.f3) ∧ Ev (fun k => F41 k s.f4) (bSs s.f4) ∧ Ev (fun k => F41 k s.f5) (bSs s.f5)
  | ⟨a, b, c, d, e, f, g⟩, h, hc, hm => by
    simp only [w69] at h
    simp only [cS] at hc
    simp only [mS] at hm
    have h1 := F83_ev d h.2.2.2.1.2 h.2.2.2.1.1 (by omega)
    have h2 := bSs_ls e h.2.2.2.2.1.2 (by omega) (by omega) e 0 [] rfl h.2.2.2.2.1.1 (by have := cSs_len e; simp; omega)
    have h3 := bSs_ls f h.2.2.2.2.2.1.2 (by omega) (by omega) f 0 [] rfl h.2.2.2.2.2.1.1 (by have := cSs_len f; simp; omega)
    exact ⟨h1, Ev.succ (by simp only [F41]; simpa using h2), Ev.succ (by simp only [F41]; simpa using h3)⟩
theorem bSs_ls : ∀ (rest : List T69), ws69 rest → cSs rest ≤ 500000 → mSs rest ≤ 500000 → ∀ (xs : List T69) (i : Nat) (acc : List T69), xs.drop i = rest → xs.length ≤ maxLen → acc.length + rest.length ≤ 1000000 → Ev (fun k => F41_l0 k xs (i : Int) acc) (acc ++ bSs rest)
  | [], h, hc, hm, xs, i, acc, hd, hl, ha => by
    refine Ev.succ ?_
    simp only [F41_l0, l69_len, ge_dec (drop_end hd), cond_false, bSs, List.append_nil]
    exact Ev.pure
  | e :: rest, h, hc, hm, xs, i, acc, hd, hl, ha => by
    obtain ⟨h1, h2, h3⟩ := idx_drop hd
    simp only [cSs] at hc
    simp only [mSs] at hm
    obtain ⟨e1, e2, e3⟩ := bS_ev e h.1 (by omega) (by omega)
    have hr := bSs_ls rest h.2 (by omega) (by omega) xs (i + 1) (acc ++ [bS e]) h3 hl (by simp at ha ⊢; omega)
    obtain ⟨a, b, c, d, l, f, g⟩ := e
    refine Ev.succ ?_
    simp only [F41_l0, l69_len, lt_dec h2, cond_true, h1, Option.bind_some, wrap_nat h2 hl]
    refine Ev.bind e1 (Ev.bind e2 (Ev.bind e3 ?_))
    refine Ev.some_bind (appL_small (by omega) (by simp at ha ⊢; omega)) ?_
    simpa [bSs, bS] using hr
end
theorem F41_ev (l : List T69) (h : ws69 l) (hl : l.length ≤ maxLen) (hc : cSs l ≤ 500000) (hm : mSs l ≤ 500000) : Ev (fun k => F41 k l) (bSs l) := by
  have := bSs_ls l h hc hm l 0 [] rfl hl (by have := cSs_len l; simp; omega)
  exact Ev.succ (by simp only [F41]; simpa using this)
theorem F17_l1_ev (w : Int) (dd : List T76) : ∀ (rest : List T34), ws34 rest → cP rest ≤ 500000 → mP rest ≤ 500000 → ∀ (xs : List T34) (i : Nat) (acc : List T34), xs.drop i = rest → xs.length ≤ maxLen → acc.length + rest.length ≤ 1000000 →
    Ev (fun k => F17_l1 k xs w dd (i : Int) acc) (w, dd, acc ++ rest.map bP)
  | [], h, hc, hm, xs, i, acc, hd, hl, ha => by
    refine Ev.succ ?_
    simp only [F17_l1, l34_len, ge_dec (drop_end hd), cond_false, List.map_nil, List.append_nil]
    exact Ev.pure
  | e :: rest, h, hc, hm, xs, i, acc, hd, hl, ha => by
    obtain ⟨h1, h2, h3⟩ := idx_drop hd
    simp only [cP] at hc
    simp only [mP] at hm
    have hr := F17_l1_ev w dd rest h.2 (by omega) (by omega) xs (i + 1) (acc ++ [bP e]) h3 hl (by simp at ha ⊢; omega)
    obtain ⟨a, b, c⟩ := e
    have hw := h.1
    simp only [w34] at hw
    have e1 := F41_ev b hw.2.1.2 hw.2.1.1 (by simp only at hc; omega) (by simp only at hm; omega)
    refine Ev.succ ?_
    simp only [F17_l1, l34_len, lt_dec h2, cond_true, h1, Option.bind_some, wrap_nat h2 hl]
    refine Ev.bind e1 ?_
    refine Ev.some_bind (appL_small (by omega) (by simp at ha ⊢; omega)) ?_
    simpa [bP] using hr
theorem F17_l0_ev (w : Int) {ps : List T34} {R : Int × List T76 × List T34} {all : List T76} (hgo : Ev (fun k => F17_l1 k ps w all 0 []) R) : ∀ (rest : List T76) (xs : List T76) (i : Nat) (acc : List T76), xs.drop i = rest → xs.length ≤ maxLen → acc.length + rest.length ≤ 1000000 → acc ++ rest.map bD = all →
    Ev (fun k => F17_l0 k xs w ps (i : Int) acc) R
  | [], xs, i, acc, hd, hl, ha, hall => by
    refine Ev.succ ?_
    simp only [List.map_nil, List.append_nil] at hall
    subst hall
    simp only [F17_l0, l76_len, ge_dec (drop_end hd), cond_false]
    exact hgo
  | e :: rest, xs, i, acc, hd, hl, ha, hall => by
    obtain ⟨h1, h2, h3⟩ := idx_drop hd
    have hr := F17_l0_ev w hgo rest xs (i + 1) (acc ++ [bD e]) h3 hl (by simp at ha ⊢; omega) (by simpa using hall)
    obtain ⟨a, b, c, d⟩ := e
    refine Ev.succ ?_
    simp only [F17_l0, l76_len, lt_dec h2, cond_true, h1, Option.bind_some, wrap_nat h2 hl]
    refine Ev.some_bind (appL_small (by omega) (by simp at ha ⊢; omega)) ?_
    simpa [bD] using hr
end Go.Vm
