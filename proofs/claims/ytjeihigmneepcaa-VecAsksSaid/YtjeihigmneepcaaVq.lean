/- What is read of an argument bears its type. -/
import Derived.Test.YtjeihigmneepcaaVp
set_option linter.unusedVariables false
set_option linter.unusedSectionVars false
set_option linter.unusedSimpArgs false
namespace Go.Vm
variable [Glob]

/-- An abstract value of a type, with the bounds that hold of arguments. -/
inductive TA (P : Program) : TypeId → AV → Prop
  | bool {t : TypeId} {b : Bool} (h : P.underlying t = some .bool) : TA P t (.bool b)
  | int {t : TypeId} {k : IntKind} {n : Int} (h : P.underlying t = some (.int k)) (hr : k.min ≤ n ∧ n ≤ k.max) : TA P t (.int k n)
  | str {t : TypeId} {s : ByteArray} (h : P.underlying t = some .string) (hs : s.size ≤ maxLen) : TA P t (.str s)
  | sl {t e : TypeId} {xs : List AV} (h : P.underlying t = some (.slice e)) (hl : xs.length ≤ maxLen) (hx : ∀ x ∈ xs, TA P e x) : TA P t (.sl xs)
  | agg {t : TypeId} {fs : Array Field} {xs : List AV} (h : P.underlying t = some (.struct fs)) (hl : xs.length = fs.toList.length) (hx : ∀ p ∈ fs.toList.zip xs, TA P p.1.type p.2) : TA P t (.agg (xs.flatMap AV.cells))
  | arr {t e : TypeId} {n : Nat} {xs : List AV} (h : P.underlying t = some (.array n e)) (hl : xs.length = n) (hx : ∀ x ∈ xs, TA P e x) : TA P t (.agg (xs.flatMap AV.cells))

theorem fields_ta {P : Program} {α : Type} {Q : Field → α → Prop} {F : Field → Option α} : ∀ {fs : List Field} {xs : List α}, fs.mapM F = some xs → (∀ f ∈ fs, ∀ x, F f = some x → Q f x) → xs.length = fs.length ∧ ∀ p ∈ fs.zip xs, Q p.1 p.2
  | [], xs, h, _ => by simp at h; subst h; simp
  | f :: fs, xs, h, hF => by
    rw [List.mapM_cons] at h
    simp only [Option.bind_eq_bind, Option.pure_def, Option.bind_eq_some_iff] at h
    obtain ⟨x, hx, xs', hxs, h⟩ := h
    cases h
    obtain ⟨i1, i2⟩ := fields_ta (P := P) hxs fun g hg => hF g (by simp [hg])
    refine ⟨by simp [i1], fun p hp => ?_⟩
    simp only [List.zip_cons_cons, List.mem_cons] at hp
    rcases hp with rfl | hp
    · exact hF f (by simp) x hx
    · exact i2 p hp

theorem zip_map {α β γ : Type} {g : β → γ} : ∀ {l : List α} {r : List β} {p : α × γ}, p ∈ l.zip (r.map g) → ∃ b, (p.1, b) ∈ l.zip r ∧ g b = p.2
  | [], r, p, h => by simp at h
  | a :: l, [], p, h => by simp at h
  | a :: l, b :: r, p, h => by
    simp only [List.map_cons, List.zip_cons_cons, List.mem_cons] at h
    rcases h with rfl | h
    · exact ⟨b, by simp, rfl⟩
    · obtain ⟨b', h1, h2⟩ := zip_map h
      exact ⟨b', by simp [h1], h2⟩

theorem trod_ta {H : Type} {enc : TypeId × Value → H} {P : Program} {w : World} {spare : Nat → Bool} {held : Bool} {Ts : List TypeId} (hTs : ∀ t ∈ Ts, okT P Ts t = true) : ∀ (fuel : Nat) (t : TypeId), t ∈ Ts → ∀ (cs : List Value) (d : DataW H) (ps : List MemPlace),
    DataW.trod enc P w 0 spare held fuel t cs = some (d, ps) → TA P t (dav d) := by
  intro fuel
  induction fuel with
  | zero => intro t ht cs d ps h; simp [DataW.trod] at h
  | succ fuel ih =>
    intro t ht cs d ps h
    have hok := hTs t ht
    unfold okT at hok
    unfold DataW.trod at h
    cases hu : P.underlying t with
    | none => simp [hu] at hok
    | some td =>
      simp only [hu] at hok h
      cases td <;> simp only at hok <;> try (simp at hok; done)
      case bool =>
        rcases cs with _ | ⟨u, _ | ⟨u2, us⟩⟩ <;> try (simp at h; done)
        cases u <;> try (simp at h; done)
        simp at h
        obtain ⟨rfl, _⟩ := h
        exact .bool hu
      case int k =>
        rcases cs with _ | ⟨u, _ | ⟨u2, us⟩⟩ <;> try (simp at h; done)
        cases u <;> try (simp at h; done)
        simp at h
        obtain ⟨⟨rfl, hw⟩, rfl, _⟩ := h
        exact .int hu (by simpa [Lit.wf] using hw)
      case string =>
        rcases cs with _ | ⟨u, _ | ⟨u2, us⟩⟩ <;> try (simp at h; done)
        cases u <;> try (simp at h; done)
        rename_i s
        simp at h
        obtain ⟨hs, rfl, _⟩ := h
        simp only [dav]
        exact .str hu hs
      case slice e =>
        simp only [Bool.and_eq_true] at hok
        have he : e ∈ Ts := by simpa using hok.2.1
        rcases cs with _ | ⟨u, _ | ⟨u2, us⟩⟩ <;> try (simp at h; done)
        cases u <;> try (simp at h; done)
        rename_i a len cap
        cases a with
        | none =>
          cases len <;> try (simp at h; done)
          cases cap <;> try (simp at h; done)
          simp at h
          obtain ⟨rfl, _⟩ := h
          exact .sl hu (Nat.zero_le _) (by simp)
        | some a =>
          simp only at h
          split at h <;> try (cases h; done)
          rename_i hb
          simp only [Option.bind_eq_some_iff, Option.map_eq_some_iff] at h
          obtain ⟨elems, hel, rest, hrest, h⟩ := h
          cases h
          obtain ⟨m1, m2⟩ := mapM_some hel
          simp at m1
          have hxs : davs (elems.map (·.1)) = (elems.map (·.1)).map dav := davs_map _
          simp only [dav, hxs]
          refine .sl hu (by simp [m1]; omega) fun x hx => ?_
          obtain ⟨d', hd', rfl⟩ := List.mem_map.1 hx
          obtain ⟨q, hq, rfl⟩ := List.mem_map.1 hd'
          obtain ⟨i, hi⟩ := List.getElem?_of_mem hq
          have hil : i < len := by have := (List.getElem?_eq_some_iff.1 hi).1; omega
          obtain ⟨y, hy, hf⟩ := m2 i i (by simp [hil])
          rw [hi] at hy
          cases hy
          simp only [Option.bind_eq_some_iff] at hf
          obtain ⟨cs', hcs, htr⟩ := hf
          exact ih e he cs' q.1 q.2 (by rw [htr])
      case struct fs =>
        simp only [Bool.and_eq_true] at hok
        obtain ⟨hok1, hok2⟩ := hok
        have hft : ∀ f ∈ fs.toList, f.type ∈ Ts := fun f hf => by
          have := List.all_eq_true.1 hok2 f hf
          simpa using this
        have h' : (if cs.length = P.cellsOf t then (fs.toList.mapM fun f => DataW.trod enc P w 0 spare held fuel f.type ((cs.drop f.offset).take (P.cellsOf f.type))).map fun xs => ((.agg (xs.map (·.1)) : DataW H), xs.flatMap (·.2)) else none) = some (d, ps) := by
          rcases cs with _ | ⟨u, _ | ⟨u2, us⟩⟩ <;> exact h
        split at h' <;> try (cases h'; done)
        simp only [Option.map_eq_some_iff] at h'
        obtain ⟨xs, hxs, hd⟩ := h'
        cases hd
        obtain ⟨i1, i2⟩ := fields_ta (P := P) (Q := fun f x => TA P f.type (dav x.1)) hxs fun f hf x hx => ih f.type (hft f hf) _ x.1 x.2 (by rw [hx])
        simp only [dav, davf_map]
        rw [← List.flatMap_map (f := dav) (g := AV.cells), List.map_map]
        refine .agg hu (by simp [i1]) fun p hp => ?_
        obtain ⟨b, hb, hg⟩ := zip_map hp
        rw [← hg]
        exact i2 _ hb
      case array n e =>
        simp only [Bool.and_eq_true] at hok
        have he : e ∈ Ts := by simpa using hok.2
        have h' : (if cs.length = P.cellsOf t then ((List.range n).mapM fun i => DataW.trod enc P w 0 spare held fuel e ((cs.drop (i * P.cellsOf e)).take (P.cellsOf e))).map fun xs => ((.agg (xs.map (·.1)) : DataW H), xs.flatMap (·.2)) else none) = some (d, ps) := by
          rcases cs with _ | ⟨u, _ | ⟨u2, us⟩⟩ <;> exact h
        split at h' <;> try (cases h'; done)
        simp only [Option.map_eq_some_iff] at h'
        obtain ⟨xs, hxs, hd⟩ := h'
        cases hd
        obtain ⟨m1, m2⟩ := mapM_some hxs
        simp at m1
        simp only [dav, davf_map]
        rw [← List.flatMap_map (f := dav) (g := AV.cells)]
        refine .arr hu (by simp [m1]) fun x hx => ?_
        obtain ⟨d', hd', rfl⟩ := List.mem_map.1 hx
        obtain ⟨q, hq, rfl⟩ := List.mem_map.1 hd'
        obtain ⟨i, hi⟩ := List.getElem?_of_mem hq
        have hil : i < n := by have := (List.getElem?_eq_some_iff.1 hi).1; omega
        obtain ⟨y, hy, hf⟩ := m2 i i (by simp [hil])
        rw [hi] at hy
        cases hy
        exact ih e he _ q.1 q.2 (by rw [hf])

/-! ### what a value of a type looks like -/
section
variable {P : Program} {t : TypeId} {x : AV}
theorem TA.bool_inv (h : TA P t x) (hd : P.underlying t = some .bool) : ∃ b, x = .bool b := by
  cases h <;> simp_all
theorem TA.int_inv {k : IntKind} (h : TA P t x) (hd : P.underlying t = some (.int k)) : ∃ n, x = .int k n ∧ k.min ≤ n ∧ n ≤ k.max := by
  cases h <;> simp_all
theorem TA.str_inv (h : TA P t x) (hd : P.underlying t = some .string) : ∃ s, x = .str s ∧ s.size ≤ maxLen := by
  cases h <;> simp_all
theorem TA.sl_inv {e : TypeId} (h : TA P t x) (hd : P.underlying t = some (.slice e)) : ∃ xs : List AV, x = .sl xs ∧ xs.length ≤ maxLen ∧ ∀ y ∈ xs, TA P e y := by
  cases h <;> simp_all
theorem TA.agg_inv {fs : Array Field} (h : TA P t x) (hd : P.underlying t = some (.struct fs)) : ∃ xs : List AV, x = .agg (xs.flatMap AV.cells) ∧ xs.length = fs.toList.length ∧ ∀ p ∈ fs.toList.zip xs, TA P p.1.type p.2 := by
  cases h with
  | agg h hl hx => rw [hd] at h; cases h; exact ⟨_, rfl, hl, hx⟩
  | _ h => rw [hd] at h; cases h
theorem TA.arr_inv {n : Nat} {e : TypeId} (h : TA P t x) (hd : P.underlying t = some (.array n e)) : ∃ xs : List AV, x = .agg (xs.flatMap AV.cells) ∧ xs.length = n ∧ ∀ y ∈ xs, TA P e y := by
  cases h with
  | arr h hl hx => rw [hd] at h; cases h; exact ⟨_, rfl, hl, hx⟩
  | _ h => rw [hd] at h; cases h
end
theorem list_of {α : Type} {e : α → AV} {w : α → Prop} : ∀ {xs : List AV}, (∀ x ∈ xs, ∃ y, x = e y ∧ w y) → ∃ ys : List α, xs = ys.map e ∧ ∀ y ∈ ys, w y
  | [], _ => ⟨[], rfl, by simp⟩
  | x :: xs, h => by
    obtain ⟨y, hy, hw⟩ := h x (by simp)
    obtain ⟨ys, hys, hws⟩ := list_of (xs := xs) fun z hz => h z (by simp [hz])
    refine ⟨y :: ys, by simp [hy, hys], fun z hz => ?_⟩
    simp only [List.mem_cons] at hz
    rcases hz with rfl | hz
    · exact hw
    · exact hws z hz
theorem len_cons {α : Type} {xs : List α} {n : Nat} (h : xs.length = n + 1) : ∃ a as, xs = a :: as ∧ as.length = n := by
  cases xs with
  | nil => simp at h
  | cons a as => exact ⟨a, as, rfl, by simpa using h⟩
theorem len_nil {α : Type} {xs : List α} (h : xs.length = 0) : xs = [] := List.length_eq_zero_iff.1 h
end Go.Vm
