/- Plain laws of the tree's functions: words that all use; how many parts a program has. -/
import Derived.Test.YtafpcogpabnjmaaWx
import Derived.IntWalk
set_option linter.unusedVariables false
set_option linter.unusedSimpArgs false
set_option linter.unusedSectionVars false
namespace Go.Vm

theorem Ev.bindE {α β : Type} {f : Nat → Option α} {g : Nat → α → Option β} {a : α} {r : β} (h : Ev f a) (k : Ev (fun n => g n a) r) : Ev (fun n => (f n).bind (fun x => g n x)) r := Ev.bind h k
theorem Ev.some_bind {α β : Type} {o : Option α} {g : Nat → α → Option β} {a : α} {r : β} (h : o = some a) (k : Ev (fun n => g n a) r) : Ev (fun n => o.bind (fun x => g n x)) r := by
  subst h; exact k
theorem Ev.bif {α : Type} {c : Bool} {f g : Nat → Option α} {r : α} (ht : c = true → Ev f r) (hf : c = false → Ev g r) : Ev (fun n => bif c then f n else g n) r := by
  cases c
  · exact hf rfl
  · exact ht rfl
theorem idx_drop {α : Type} {xs : List α} {i : Nat} {x : α} {r : List α} (h : xs.drop i = x :: r) : idx xs (i : Int) = some x ∧ i < xs.length ∧ xs.drop (i + 1) = r := by
  have hl : i < xs.length := by
    rcases Nat.lt_or_ge i xs.length with g | g
    · exact g
    · rw [List.drop_eq_nil_of_le g] at h; cases h
  rw [List.drop_eq_getElem_cons hl] at h
  injection h with h1 h2
  refine ⟨?_, hl, h2⟩
  have : (0 : Int) ≤ (i : Int) := Int.natCast_nonneg i
  simp [idx, hl, h1]
theorem drop_end {α : Type} {xs : List α} {i : Nat} (h : xs.drop i = []) : xs.length ≤ i := List.drop_eq_nil_iff.1 h
theorem wrap_nat {i n : Nat} (h : i < n) (hn : n ≤ maxLen) : IntKind.wrap .i64 ((i : Int) + 1) = ((i + 1 : Nat) : Int) := by
  have : n ≤ 9223372036854775807 := hn
  rw [IntKind.wrap_i64]
  omega
theorem lt_dec {i n : Nat} (h : i < n) : decide ((i : Int) < (n : Int)) = true := by simp [h]
theorem ge_dec {i n : Nat} (h : n ≤ i) : decide ((i : Int) < (n : Int)) = false := by simp; omega

/-! ### parts: they are counted -/
mutual
theorem kids_ev : ∀ (e : T57), w57 e → ∀ most : Int, ∃ r, Ev (fun k => F71 k e.f0 e.f1 e.f2 e.f3 e.f4 e.f5 most) r
  | ⟨a, b, c, d, l, f⟩, h, most => by
    simp only [w57] at h
    obtain ⟨r, hr⟩ := kids_ls l h.2.2.2.2.1.2 most l 0 1 rfl h.2.2.2.2.1.1
    exact ⟨r, Ev.succ (by simp only [F71]; exact hr)⟩
theorem kids_ls : ∀ (rest : List T57), ws57 rest → ∀ (most : Int) (xs : List T57) (i : Nat) (n : Int), xs.drop i = rest → xs.length ≤ maxLen → ∃ r, Ev (fun k => F71_l0 k most xs n (i : Int)) r
  | [], h, most, xs, i, n, hd, hl => by
    refine ⟨n, Ev.succ ?_⟩
    simp only [F71_l0, l57_len, ge_dec (drop_end hd), cond_false]
    exact Ev.succ (by simpa only [F71_j1, cond_false] using Ev.pure)
  | e :: rest, h, most, xs, i, n, hd, hl => by
    obtain ⟨h1, h2, h3⟩ := idx_drop hd
    obtain ⟨r1, hr1⟩ := kids_ev e h.1 most
    obtain ⟨r2, hr2⟩ := kids_ls rest h.2 most xs (i + 1) (IntKind.wrap .i64 (n + r1)) h3 hl
    obtain ⟨a, b, c, d, l, f⟩ := e
    dsimp only at hr1
    by_cases hm : n ≤ most
    · refine ⟨r2, Ev.succ ?_⟩
      simp only [F71_l0, l57_len, lt_dec h2, cond_true]
      refine Ev.succ ?_
      simp only [F71_j1, hm, decide_true, cond_true, h1, Option.bind_some, wrap_nat h2 hl]
      refine Ev.bind hr1 ?_
      exact hr2
    · refine ⟨n, Ev.succ ?_⟩
      simp only [F71_l0, l57_len, lt_dec h2, cond_true]
      exact Ev.succ (by simpa only [F71_j1, hm, decide_false, cond_false] using Ev.pure)
end
mutual
theorem part_ev : ∀ (s : T69), w69 s → ∀ most : Int, (∃ r, Ev (fun k => F36 k s.f4 most) r) ∧ (∃ r, Ev (fun k => F36 k s.f5 most) r)
  | ⟨a, b, c, d, e, f, g⟩, h, most => by
    simp only [w69] at h
    obtain ⟨r, hr⟩ := parts_ls e h.2.2.2.2.1.2 most e 0 0 rfl h.2.2.2.2.1.1
    obtain ⟨r', hr'⟩ := parts_ls f h.2.2.2.2.2.1.2 most f 0 0 rfl h.2.2.2.2.2.1.1
    exact ⟨⟨r, Ev.succ (by simp only [F36]; exact hr)⟩, ⟨r', Ev.succ (by simp only [F36]; exact hr')⟩⟩
theorem parts_ls : ∀ (rest : List T69), ws69 rest → ∀ (most : Int) (xs : List T69) (i : Nat) (n : Int), xs.drop i = rest → xs.length ≤ maxLen → ∃ r, Ev (fun k => F36_l0 k xs most n (i : Int)) r
  | [], h, most, xs, i, n, hd, hl => by
    refine ⟨n, Ev.succ ?_⟩
    simp only [F36_l0, l69_len, ge_dec (drop_end hd), cond_false]
    exact Ev.succ (by simp only [F36_j1, cond_false]; exact Ev.pure)
  | s :: rest, h, most, xs, i, n, hd, hl => by
    obtain ⟨h1, h2, h3⟩ := idx_drop hd
    obtain ⟨⟨r1, hr1⟩, ⟨r2, hr2⟩⟩ := part_ev s h.1 most
    have ih := fun n => parts_ls rest h.2 most xs (i + 1) n h3 hl
    obtain ⟨sa, sb, sc, es, sd, se, sg⟩ := s
    dsimp only at hr1 hr2
    have hs := h.1
    simp only [w69] at hs
    -- the expressions of this statement
    generalize hes : es = es0 at *
    have hE : ∀ (es : List T57) (j : Nat) (n : Int), es0.drop j = es → ws57 es → ∃ r, Ev (fun k => F36_l2 k xs most n (i : Int) (j : Int)) r := by
      have hsl : es0.length ≤ maxLen := hs.2.2.2.1.1
      intro es
      induction es with
      | nil =>
        intro j n hj _
        obtain ⟨r, hr⟩ := ih n
        refine ⟨r, Ev.succ ?_⟩
        simp only [F36_l2, h1, Option.bind_some, l57_len, ge_dec (drop_end hj), cond_false]
        refine Ev.succ ?_
        simp only [F36_j3, cond_false, wrap_nat h2 hl]
        exact hr
      | cons e es ihe =>
        intro j n hj hw
        obtain ⟨k1, k2, k3⟩ := idx_drop hj
        by_cases hm : n ≤ most
        · obtain ⟨x, hx⟩ := kids_ev e hw.1 most
          obtain ⟨ea, eb, ec, ed, el, ef⟩ := e
          dsimp only at hx
          obtain ⟨r, hr⟩ := ihe (j + 1) (IntKind.wrap .i64 (n + x)) k3 hw.2
          refine ⟨r, Ev.succ ?_⟩
          simp only [F36_l2, h1, Option.bind_some, l57_len, lt_dec k2, cond_true]
          refine Ev.succ ?_
          simp only [F36_j3, hm, decide_true, cond_true, h1, Option.bind_some, k1, wrap_nat k2 hsl]
          refine Ev.bind hx ?_
          exact hr
        · obtain ⟨r, hr⟩ := ih n
          refine ⟨r, Ev.succ ?_⟩
          simp only [F36_l2, h1, Option.bind_some, l57_len, lt_dec k2, cond_true]
          refine Ev.succ ?_
          simp only [F36_j3, hm, decide_false, cond_false, wrap_nat h2 hl]
          exact hr
    by_cases hm : n ≤ most
    · obtain ⟨r, hr⟩ := hE es0 0 (IntKind.wrap .i64 ((IntKind.wrap .i64 ((IntKind.wrap .i64 ((IntKind.wrap .i64 (n + 1)) + (es0.length : Int))) + r1)) + r2)) rfl hs.2.2.2.1.2
      refine ⟨r, Ev.succ ?_⟩
      simp only [F36_l0, l69_len, lt_dec h2, cond_true]
      refine Ev.succ ?_
      simp only [F36_j1, hm, decide_true, cond_true, h1, Option.bind_some, l57_len]
      refine Ev.bind hr1 ?_
      refine Ev.bind hr2 ?_
      exact hr
    · refine ⟨n, Ev.succ ?_⟩
      simp only [F36_l0, l69_len, lt_dec h2, cond_true]
      exact Ev.succ (by simp only [F36_j1, hm, decide_false, cond_false]; exact Ev.pure)
end
theorem parts_ev (l : List T69) (h : ws69 l) (hl : l.length ≤ maxLen) (most : Int) : ∃ r, Ev (fun k => F36 k l most) r := by
  obtain ⟨r, hr⟩ := parts_ls l h most l 0 0 rfl hl
  exact ⟨r, Ev.succ (by simp only [F36]; exact hr)⟩
theorem light_ls : ∀ (rest : List T34), ws34 rest → ∀ (xs : List T34) (i : Nat) (n : Int), xs.drop i = rest → xs.length ≤ maxLen → ∃ r, Ev (fun k => F10_l0 k xs n (i : Int)) r
  | [], h, xs, i, n, hd, hl => by
    have : ∃ r, Ev (fun k => F10_j1 k xs n (i : Int) false) r := by
      by_cases hn : n ≤ 800
      · exact ⟨_, Ev.succ (by simp only [F10_j1, cond_false, hn, decide_true, cond_true]; exact Ev.pure)⟩
      · exact ⟨_, Ev.succ (by simp only [F10_j1, cond_false, hn, decide_false, cond_false]; exact Ev.pure)⟩
    obtain ⟨r, hr⟩ := this
    refine ⟨r, Ev.succ ?_⟩
    simp only [F10_l0, l34_len, ge_dec (drop_end hd), cond_false]
    exact hr
  | p :: rest, h, xs, i, n, hd, hl => by
    obtain ⟨h1, h2, h3⟩ := idx_drop hd
    have hp := h.1
    obtain ⟨a, b, c⟩ := p
    simp only [w34] at hp
    obtain ⟨x, hx⟩ := parts_ev b hp.2.1.2 hp.2.1.1 800
    obtain ⟨r, hr⟩ := light_ls rest h.2 xs (i + 1) (IntKind.wrap .i64 (n + x)) h3 hl
    by_cases hi : (i : Int) < 20
    · refine ⟨r, Ev.succ ?_⟩
      simp only [F10_l0, l34_len, lt_dec h2, cond_true]
      refine Ev.succ ?_
      simp only [F10_j1, hi, decide_true, cond_true, h1, Option.bind_some, wrap_nat h2 hl]
      refine Ev.bind hx ?_
      exact hr
    · have : ∃ r, Ev (fun k => F10_j1 k xs n (i : Int) false) r := by
        by_cases hn : n ≤ 800
        · exact ⟨_, Ev.succ (by simp only [F10_j1, cond_false, hn, decide_true, cond_true]; exact Ev.pure)⟩
        · exact ⟨_, Ev.succ (by simp only [F10_j1, cond_false, hn, decide_false, cond_false]; exact Ev.pure)⟩
      obtain ⟨r, hr⟩ := this
      refine ⟨r, Ev.succ ?_⟩
      simp only [F10_l0, l34_len, lt_dec h2, cond_true, hi, decide_false]
      exact hr
theorem light_ev (y : T24) (h : w24 y) : ∃ r, Ev (fun k => F10 k y.f0 y.f1 y.f2) r := by
  obtain ⟨a, b, c⟩ := y
  simp only [w24] at h
  obtain ⟨r, hr⟩ := light_ls c h.2.2.2 c 0 (b.length : Int) rfl h.2.2.1
  exact ⟨r, by simp only [F10, l76_len]; exact hr⟩
/-- The first example answers. -/
theorem awake_ev : Ev (fun k => F11 k) true := by
  refine ⟨60, fun k hk => ?_⟩
  obtain ⟨n, rfl⟩ : ∃ n, k = n + 60 := ⟨k - 60, by omega⟩
  kernel_rfl
end Go.Vm
