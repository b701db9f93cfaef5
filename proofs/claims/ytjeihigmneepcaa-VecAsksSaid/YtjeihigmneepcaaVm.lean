/- A region whose order is drawn: every order that the edges allow comes to the same. -/
import Derived.Test.YtjeihigmneepcaaVl
import Derived.Orders
set_option linter.unusedVariables false
set_option linter.unusedSectionVars false
set_option linter.unusedSimpArgs false
namespace Go.Vm
variable [Glob]

/-- What is known of an operation of the region: its value; who must have gone ahead; between which turns of the store it may stand; does it turn the store? -/
structure Slot where
  v : AV
  anc : List Nat
  lo : Nat
  hi : Nat
  eff : Bool

def slotV (sl : List Slot) (i : Nat) : AV := match sl[i]? with
  | some s => s.v
  | none => .any
def ancOf (sl : List Slot) (i : Nat) : List Nat := match sl[i]? with
  | some s => s.anc
  | none => []
def dstIs (ops : Array Oper) (i t : Nat) : Bool := match (ops[i]?).bind (·.dst) with
  | some d => Nat.beq d t
  | none => false
def curTo (ops : Array Oper) (sl : List Slot) (e0 : Env) (D : Nat → Bool) (t : Nat) : Nat → AV
  | 0 => aget e0 t
  | i + 1 => bif D i && dstIs ops i t then slotV sl i else curTo ops sl e0 D t i
def envAt (ops : Array Oper) (sl : List Slot) (e0 : Env) (i : Nat) : Env := match ops[i]? with
  | some o => (o.looksAt ops).map fun t => (t, curTo ops sl e0 (fun _ => true) t i)
  | none => []
def finTo (ops : Array Oper) (sl : List Slot) (e0 : Env) : Nat → Env
  | 0 => e0
  | i + 1 => eput (finTo ops sl e0 i) ((ops[i]?).bind (·.dst)) (slotV sl i)

theorem aget_finTo {ops : Array Oper} {sl : List Slot} {e0 : Env} {t : Nat} : ∀ i, aget (finTo ops sl e0 i) t = curTo ops sl e0 (fun _ => true) t i
  | 0 => rfl
  | i + 1 => by
    simp only [finTo, curTo, Bool.true_and, dstIs]
    cases hd : (ops[i]?).bind (·.dst) with
    | none => simp [eput, aget_finTo i]
    | some d => simp [eput, aget, aget_finTo i]
theorem aget_map {f : Nat → AV} {t : Nat} : ∀ {l : List Nat}, aget (l.map fun t => (t, f t)) t = if t ∈ l then f t else .any
  | [] => by simp [aget]
  | x :: l => by
    simp only [List.map_cons, aget]
    by_cases e : x = t
    · subst e; have : Nat.beq x x = true := Nat.beq_refl x; simp [this]
    · have hb : Nat.beq x t = false := by cases hb : Nat.beq x t with | false => rfl | true => exact absurd (Nat.eq_of_beq_eq_true hb) e
      rw [hb, cond_false, aget_map (l := l)]
      have : t ≠ x := fun g => e g.symm
      simp [this]

def noSel (op : Op) : Bool := match op with
  | .select _ _ => false
  | _ => true

/-- What is asked of the edges. -/
structure DrawOk (N : Nat) (ops : Array Oper) (sl : List Slot) (es : List Nat) : Prop where
  len : sl.length = ops.size
  dst : ∀ (i : Nat) (o : Oper), ops[i]? = some o → dstOk N o.dst = true
  anc : ∀ (i : Nat) (o : Oper), ops[i]? = some o → ∀ a ∈ ancOf sl i, ∃ e ∈ o.after.toList, Region.binds .any e = true ∧ (e.on = a ∨ a ∈ ancOf sl e.on)
  back : ∀ (i : Nat) (o : Oper), ops[i]? = some o → ∀ e ∈ o.after.toList, Region.binds .any e = true → e.on < i
  rdw : ∀ (i j : Nat) (o p : Oper), i < j → ops[i]? = some o → ops[j]? = some p → (∃ t, t ∈ o.looksAt ops ∧ dstIs ops j t = true ∨ t ∈ p.looksAt ops ∧ dstIs ops i t = true ∨ dstIs ops i t = true ∧ dstIs ops j t = true) → i ∈ ancOf sl j
  esr : ∀ (r i : Nat), es[r]? = some i → ∃ s, sl[i]? = some s ∧ s.eff = true ∧ s.lo = r
  eff : ∀ (i : Nat) (s : Slot), sl[i]? = some s → s.eff = true → es[s.lo]? = some i ∧ s.hi = s.lo
  lo : ∀ (i : Nat) (s : Slot), sl[i]? = some s → s.lo ≤ es.length ∧ ∀ (r k : Nat), r < s.lo → es[r]? = some k → k ∈ s.anc
  hi : ∀ (i : Nat) (s : Slot), sl[i]? = some s → ∀ (r k : Nat), s.hi ≤ r → es[r]? = some k → i = k ∨ i ∈ ancOf sl k

def clash (ops : Array Oper) (o p : Oper) : Bool :=
  (match p.dst with
   | some d => (o.looksAt ops).elem d || (match o.dst with | some d' => Nat.beq d' d | none => false)
   | none => false) ||
  (match o.dst with
   | some d => (p.looksAt ops).elem d
   | none => false)
def allIx {α : Type} (p : Nat → α → Bool) : Nat → List α → Bool
  | _, [] => true
  | i, x :: xs => p i x && allIx p (i + 1) xs
theorem allIx_get {α : Type} {p : Nat → α → Bool} : ∀ {l : List α} {n : Nat}, allIx p n l = true → ∀ {i : Nat} {x : α}, l[i]? = some x → p (n + i) x = true
  | [], n, h, i, x, g => by simp at g
  | y :: l, n, h, 0, x, g => by simp [allIx] at h g; subst g; simpa using h.1
  | y :: l, n, h, i + 1, x, g => by
    simp [allIx] at h g
    have := allIx_get h.2 g
    rwa [show n + 1 + i = n + (i + 1) by omega] at this

def drawOk (N : Nat) (ops : Array Oper) (sl : List Slot) (es : List Nat) : Bool :=
  Nat.beq sl.length ops.toList.length &&
  allIx (fun i o => dstOk N o.dst &&
    (ancOf sl i).all (fun a => o.after.toList.any fun e => Region.binds .any e && (Nat.beq e.on a || (ancOf sl e.on).elem a)) &&
    o.after.toList.all (fun e => !Region.binds .any e || Nat.blt e.on i) &&
    allIx (fun j p => !(Nat.blt i j) || !clash ops o p || (ancOf sl j).elem i) 0 ops.toList) 0 ops.toList &&
  allIx (fun r i => match sl[i]? with
    | some s => s.eff && Nat.beq s.lo r
    | none => false) 0 es &&
  allIx (fun i s => (!s.eff || ((match es[s.lo]? with | some k => Nat.beq k i | none => false) && Nat.beq s.hi s.lo)) &&
    Nat.ble s.lo es.length &&
    allIx (fun r k => !Nat.blt r s.lo || s.anc.elem k) 0 es &&
    allIx (fun r k => !Nat.ble s.hi r || Nat.beq i k || (ancOf sl k).elem i) 0 es) 0 sl

theorem drawOk_spec {N : Nat} {ops : Array Oper} {sl : List Slot} {es : List Nat} (h : drawOk N ops sl es = true) : DrawOk N ops sl es := by
  simp only [drawOk, Bool.and_eq_true] at h
  obtain ⟨⟨⟨h1, h2⟩, h3⟩, h4⟩ := h
  have hops : ∀ {i : Nat} {o : Oper}, ops[i]? = some o → ops.toList[i]? = some o := fun h => by simpa using h
  have g2 := fun {i : Nat} {o : Oper} (ho : ops[i]? = some o) => by
    have := allIx_get h2 (hops ho)
    simp only [Bool.and_eq_true, Nat.zero_add] at this
    exact this
  have g4 := fun {i : Nat} {s : Slot} (hs : sl[i]? = some s) => by
    have := allIx_get h4 hs
    simp only [Bool.and_eq_true, Nat.zero_add] at this
    exact this
  refine ⟨by simpa using Nat.eq_of_beq_eq_true h1, fun i o ho => (g2 ho).1.1.1, fun i o ho a ha => ?_, fun i o ho e he hb => ?_, fun i j o p hij ho hp hc => ?_, fun r i hr => ?_, fun i s hs he => ?_, fun i s hs => ?_, fun i s hs r k hr hk => ?_⟩
  · have := (g2 ho).1.1.2
    rw [List.all_eq_true] at this
    have := this a ha
    rw [List.any_eq_true] at this
    obtain ⟨e, he, h⟩ := this
    simp only [Bool.and_eq_true, Bool.or_eq_true] at h
    refine ⟨e, he, h.1, ?_⟩
    rcases h.2 with g | g
    · exact .inl (Nat.eq_of_beq_eq_true g)
    · exact .inr (List.elem_iff.1 g)
  · have := (g2 ho).1.2
    rw [List.all_eq_true] at this
    have := this e he
    have := (by simpa [hb, Nat.blt] using this : e.on + 1 ≤ i); omega
  · have := (g2 ho).2
    have := allIx_get this (hops hp)
    simp only [Nat.zero_add, Bool.or_eq_true, Bool.not_eq_true'] at this
    have hb : Nat.blt i j = true := by simp [Nat.blt]; omega
    rcases this with (g | g) | g
    · rw [hb] at g; cases g
    · exfalso
      obtain ⟨t, ht⟩ := hc
      simp only [clash, Bool.or_eq_false_iff] at g
      simp only [dstIs, ho, hp, Option.bind_some] at ht
      obtain ⟨ga, gb⟩ := g
      rcases ht with ⟨q1, q2⟩ | ⟨q1, q2⟩ | ⟨q1, q2⟩
      · cases hd : p.dst with
        | none => simp [hd] at q2
        | some d =>
          simp only [hd] at q2 ga
          have := Nat.eq_of_beq_eq_true q2
          subst this
          simp [q1] at ga
      · cases hd : o.dst with
        | none => simp [hd] at q2
        | some d =>
          simp only [hd] at q2 gb
          have := Nat.eq_of_beq_eq_true q2
          subst this
          simp [q1] at gb
      · cases hd : p.dst with
        | none => simp [hd] at q2
        | some d =>
          cases hd' : o.dst with
          | none => simp [hd'] at q1
          | some d' =>
            simp only [hd, hd'] at q1 q2 ga
            have e1 := Nat.eq_of_beq_eq_true q1
            have e2 := Nat.eq_of_beq_eq_true q2
            subst e1; subst e2
            simp at ga
    · exact List.elem_iff.1 g
  · have := allIx_get h3 hr
    simp only [Nat.zero_add] at this
    cases hs : sl[i]? with
    | none => simp [hs] at this
    | some s =>
      simp only [hs, Bool.and_eq_true] at this
      exact ⟨s, rfl, this.1, Nat.eq_of_beq_eq_true this.2⟩
  · have := (g4 hs).1.1.1
    simp only [he, Bool.not_true, Bool.false_or, Bool.and_eq_true] at this
    obtain ⟨a, b⟩ := this
    refine ⟨?_, Nat.eq_of_beq_eq_true b⟩
    cases hk : es[s.lo]? with
    | none => simp [hk] at a
    | some k =>
      simp only [hk] at a
      rw [Nat.eq_of_beq_eq_true a]
  · refine ⟨by simpa using (g4 hs).1.1.2, fun r k hr hk => ?_⟩
    have := allIx_get (g4 hs).1.2 hk
    have hb : Nat.blt r s.lo = true := by simp [Nat.blt]; omega
    simp only [Nat.zero_add, hb, Bool.not_true, Bool.false_or] at this
    exact List.elem_iff.1 this
  · have := allIx_get (g4 hs).2 hk
    have hb : Nat.ble s.hi r = true := by simpa using hr
    simp only [Nat.zero_add, hb, Bool.not_true, Bool.false_or, Bool.or_eq_true] at this
    rcases this with g | g
    · exact .inl (Nat.eq_of_beq_eq_true g)
    · exact .inr (List.elem_iff.1 g)

section
variable {P : Program} {N : Nat} {ops : Array Oper} {sl : List Slot} {es : List Nat} {e0 : Env} {Ls : Nat → List AObj} {Q : Pst}

def SlotJ (P : Program) (N : Nat) (ops : Array Oper) (sl : List Slot) (e0 : Env) (Ls : Nat → List AObj) (i : Nat) (o : Oper) (s : Slot) : Prop :=
  ((∀ j q, o.guard = some (j, q) → guardOf ops (envAt ops sl e0 i) j = .bool q) ∧ ∀ p, s.lo ≤ p → p ≤ s.hi → OpJ P N (envAt ops sl e0 i) (Ls p) o s.v (Ls (bif s.eff then p + 1 else p)))
  ∨ (s.v = .tup [] ∧ s.eff = false ∧ ∃ j q, o.guard = some (j, q) ∧ (guardOf ops (envAt ops sl e0 i) j = .bool (!q) ∨ guardOf ops (envAt ops sl e0 i) j = .tup []))
def SlotsJ (P : Program) (N : Nat) (ops : Array Oper) (sl : List Slot) (e0 : Env) (Ls : Nat → List AObj) : Nat → List Oper → List Slot → Prop
  | i, o :: l, s :: r => SlotJ P N ops sl e0 Ls i o s ∧ SlotsJ P N ops sl e0 Ls (i + 1) l r
  | _, _, _ => True
theorem SlotsJ.get : ∀ {l : List Oper} {r : List Slot} {n : Nat}, SlotsJ P N ops sl e0 Ls n l r → ∀ {i : Nat} {o : Oper} {s : Slot}, l[i]? = some o → r[i]? = some s → SlotJ P N ops sl e0 Ls (n + i) o s
  | [], _, _, _, i, o, s, h, _ => by simp at h
  | _ :: _, [], _, _, i, o, s, _, h => by simp at h
  | o' :: l, s' :: r, n, h, 0, o, s, ho, hs => by simp at ho hs; subst ho; subst hs; exact h.1
  | o' :: l, s' :: r, n, h, i + 1, o, s, ho, hs => by
    simp at ho hs
    have := SlotsJ.get h.2 ho hs
    rwa [show n + 1 + i = n + (i + 1) by omega] at this

theorem curTo_congr {D D' : Nat → Bool} {t : Nat} : ∀ n, (∀ k, k < n → dstIs ops k t = true → D k = D' k) → curTo ops sl e0 D t n = curTo ops sl e0 D' t n
  | 0, _ => rfl
  | n + 1, h => by
    simp only [curTo]
    rw [curTo_congr n fun k hk => h k (by omega)]
    cases hd : dstIs ops n t with
    | false => simp
    | true => rw [h n (by omega) hd]
theorem curTo_up {D : Nat → Bool} {t i : Nat} : ∀ n, i ≤ n → (∀ k, i ≤ k → k < n → dstIs ops k t = true → D k = false) → curTo ops sl e0 D t n = curTo ops sl e0 D t i
  | 0, hi, _ => by rw [Nat.le_zero.1 hi]
  | n + 1, hi, h => by
    rcases Nat.lt_or_ge n i with g | g
    · rw [show i = n + 1 by omega]
    · simp only [curTo]
      have : (D n && dstIs ops n t) = false := by
        cases hd : dstIs ops n t with
        | false => simp
        | true => simp [h n g (by omega) hd]
      rw [this, cond_false]
      exact curTo_up n g fun k h1 h2 h3 => h k h1 (by omega) h3

/-- How many are not done yet. -/
def undone (D : Nat → Bool) : Nat → Nat
  | 0 => 0
  | n + 1 => undone D n + (bif D n then 0 else 1)
theorem undone_zero {D : Nat → Bool} : ∀ {n : Nat}, undone D n = 0 → ∀ k, k < n → D k = true
  | 0, _, k, hk => by omega
  | n + 1, h, k, hk => by
    simp only [undone] at h
    have h1 : D n = true := by cases hd : D n <;> simp_all
    rcases Nat.lt_or_ge k n with g | g
    · exact undone_zero (by omega) k g
    · rw [show k = n by omega]; exact h1
theorem undone_le (D : Nat → Bool) : ∀ n, undone D n ≤ n
  | 0 => Nat.le_refl _
  | n + 1 => by have := undone_le D n; simp only [undone]; cases D n <;> simp <;> omega
theorem undone_set {D D' : Nat → Bool} {i : Nat} (hi : D i = false) (hi' : D' i = true) (h : ∀ k, k ≠ i → D' k = D k) : ∀ n, undone D n = undone D' n + (if i < n then 1 else 0)
  | 0 => by simp [undone]
  | n + 1 => by
    simp only [undone, undone_set hi hi' h n]
    by_cases e : i = n
    · subst e; simp [hi, hi']
    · rw [h n (fun g => e g.symm)]
      by_cases g : i < n
      · rw [if_pos g, if_pos (by omega)]; omega
      · rw [if_neg g, if_neg (by omega)]; omega
theorem least {p : Nat → Bool} : ∀ n, (∃ k, k < n ∧ p k = false) → ∃ k, k < n ∧ p k = false ∧ ∀ j, j < k → p j = true
  | 0, ⟨k, h, _⟩ => by omega
  | n + 1, ⟨k, h, g⟩ => by
    by_cases e : ∃ k, k < n ∧ p k = false
    · obtain ⟨k, a, b, c⟩ := least n e
      exact ⟨k, by omega, b, c⟩
    · have : k = n := by
        rcases Nat.lt_or_ge k n with a | a
        · exact absurd ⟨k, a, g⟩ e
        · omega
      subst this
      refine ⟨k, by omega, g, fun j hj => ?_⟩
      cases hp : p j with
      | true => rfl
      | false => exact absurd ⟨j, hj, hp⟩ e

/-- What holds while the region runs. -/
structure Mid (N : Nat) (ops : Array Oper) (sl : List Slot) (es : List Nat) (e0 : Env) (Ls : Nat → List AObj) (S : St) (D : Nat → Bool) (p : Nat) (a : Act) : Prop where
  σ : S.σ = Ls p
  inv : Inv S
  size : a.tmps.size = N
  get : ∀ t, RV S (a.tmps.getD t undef) (curTo ops sl e0 D t ops.size)
  closed : ∀ i, D i = true → ∀ x ∈ ancOf sl i, D x = true
  le : p ≤ es.length
  eff : ∀ r i, es[r]? = some i → (D i = true ↔ r < p)

theorem Mid.env {S : St} {D : Nat → Bool} {p : Nat} {a : Act} (h : Mid N ops sl es e0 Ls S D p a) (ok : DrawOk N ops sl es) {i : Nat} {o : Oper} (ho : ops[i]? = some o) (hi : D i = false)
    (ha : ∀ x ∈ ancOf sl i, D x = true) : EnvR N S a (envAt ops sl e0 i) := by
  refine ⟨h.size, fun t => ?_⟩
  simp only [envAt, ho]
  rw [aget_map]
  split
  · rename_i ht
    have hlt : i < ops.size := (Array.getElem?_eq_some_iff.1 ho).1
    have e1 : curTo ops sl e0 D t ops.size = curTo ops sl e0 D t i := curTo_up ops.size (by omega) fun k h1 h2 h3 => by
      rcases Nat.lt_or_ge i k with g | g
      · obtain ⟨q, hq⟩ : ∃ q, ops[k]? = some q := ⟨_, Array.getElem?_eq_getElem h2⟩
        have := ok.rdw i k o q g ho hq ⟨t, .inl ⟨ht, h3⟩⟩
        cases hd : D k with
        | false => rfl
        | true => rw [h.closed k hd i this] at hi; cases hi
      · rw [show k = i by omega]; exact hi
    have e2 : curTo ops sl e0 D t i = curTo ops sl e0 (fun _ => true) t i := curTo_congr i fun k h1 h3 => by
      obtain ⟨q, hq⟩ : ∃ q, ops[k]? = some q := ⟨_, Array.getElem?_eq_getElem (by omega)⟩
      exact ha k (ok.rdw k i q o h1 hq ho ⟨t, .inr (.inl ⟨ht, h3⟩)⟩)
    rw [← e2, ← e1]
    exact h.get t
  · exact .any _

theorem Mid.next {S S' : St} {D D' : Nat → Bool} {p : Nat} {a : Act} (h : Mid N ops sl es e0 Ls S D p a) (ok : DrawOk N ops sl es) {i : Nat} {o : Oper} {s : Slot} (ho : ops[i]? = some o) (hs : sl[i]? = some s) (hi : D i = false)
    (ha : ∀ x ∈ ancOf sl i, D x = true) (hi' : D' i = true) (hk : ∀ k, k ≠ i → D' k = D k) {u : Value} (hl : Le S S') (hI : Inv S') (hv : RV S' u s.v) (hσ : S'.σ = Ls (bif s.eff then p + 1 else p)) (hp : s.eff = true → s.lo = p) :
    Mid N ops sl es e0 Ls S' D' (bif s.eff then p + 1 else p) (a.put o.dst u) where
  σ := hσ
  inv := hI
  size := by cases o.dst <;> simp [Act.put, h.size]
  get t := by
    have hlt : i < ops.size := (Array.getElem?_eq_some_iff.1 ho).1
    by_cases e : dstIs ops i t = true
    · have hd : o.dst = some t := by
        simp only [dstIs, ho, Option.bind_some] at e
        cases hd : o.dst with
        | none => simp [hd] at e
        | some d => simp only [hd] at e; rw [Nat.eq_of_beq_eq_true e]
      have hN := ok.dst i o ho
      have e1 : curTo ops sl e0 D' t ops.size = s.v := by
        rw [curTo_up (i := i + 1) ops.size (by omega) fun k h1 h2 h3 => by
          obtain ⟨q, hq⟩ : ∃ q, ops[k]? = some q := ⟨_, Array.getElem?_eq_getElem h2⟩
          have := ok.rdw i k o q (by omega) ho hq ⟨t, .inr (.inr ⟨e, h3⟩)⟩
          rw [hk k (by omega)]
          cases hd : D k with
          | false => rfl
          | true => rw [h.closed k hd i this] at hi; cases hi]
        simp [curTo, hi', e, slotV, hs]
      rw [e1, hd]
      have : t < N := by rw [hd] at hN; simp [dstOk, Nat.blt] at hN; omega
      simpa [Act.put, Array.getD_eq_getD_getElem?, h.size, this] using hv
    · have e1 : curTo ops sl e0 D' t ops.size = curTo ops sl e0 D t ops.size := curTo_congr _ fun k h1 h3 => hk k fun g => e (g ▸ h3)
      rw [e1]
      have hg : (a.put o.dst u).tmps.getD t undef = a.tmps.getD t undef := by
        cases hd : o.dst with
        | none => rfl
        | some d =>
          have hne : d ≠ t := fun g => e (by simp [dstIs, ho, hd, g])
          simp [Act.put, Array.getD_eq_getD_getElem?, Array.getElem?_setIfInBounds_ne hne]
      rw [hg]
      exact (h.get t).mono hl
  closed k hD x hx := by
    by_cases e : k = i
    · subst e
      by_cases g : x = k
      · subst g; exact hi'
      · rw [hk x g]; exact ha x hx
    · rw [hk k e] at hD
      have := h.closed k hD x hx
      by_cases g : x = i
      · subst g; exact hi'
      · rw [hk x g]; exact this
  le := by
    cases he : s.eff with
    | false => exact h.le
    | true =>
      have h1 := (ok.eff i s hs he).1
      have h2 := hp he
      rw [h2] at h1
      have := (List.getElem?_eq_some_iff.1 h1).1
      simp only [cond_true]
      omega
  eff r k hr := by
    obtain ⟨s', hs', he', hl'⟩ := ok.esr r k hr
    by_cases e : k = i
    · subst e
      rw [hs] at hs'; cases hs'
      rw [he']
      have := hp he'
      simp only [hi', cond_true]
      constructor
      · intro _; omega
      · intro _; trivial
    · rw [hk k e, h.eff r k hr]
      cases he : s.eff with
      | false => simp
      | true =>
        have h1 := (ok.eff i s hs he).1
        rw [hp he] at h1
        simp only [cond_true]
        constructor
        · omega
        · intro g
          rcases Nat.lt_or_ge r p with q | q
          · exact q
          · have : r = p := by omega
            subst this
            rw [hr] at h1; cases h1; exact absurd rfl e

theorem Mid.window {S : St} {D : Nat → Bool} {p : Nat} {a : Act} (h : Mid N ops sl es e0 Ls S D p a) (ok : DrawOk N ops sl es) {i : Nat} {s : Slot} (hs : sl[i]? = some s) (hi : D i = false)
    (ha : ∀ x ∈ ancOf sl i, D x = true) : s.lo ≤ p ∧ p ≤ s.hi := by
  constructor
  · rcases Nat.lt_or_ge p s.lo with g | g
    · exfalso
      have hlo := ok.lo i s hs
      obtain ⟨k, hk⟩ : ∃ k, es[p]? = some k := ⟨_, List.getElem?_eq_getElem (by omega)⟩
      have := hlo.2 p k g hk
      have := ha k (by simpa [ancOf, hs] using this)
      have := (h.eff p k hk).1 this
      omega
    · exact g
  · rcases Nat.lt_or_ge s.hi p with g | g
    · exfalso
      have hle := h.le
      obtain ⟨k, hk⟩ : ∃ k, es[s.hi]? = some k := ⟨_, List.getElem?_eq_getElem (by omega)⟩
      have hD := (h.eff s.hi k hk).2 g
      rcases ok.hi i s hs s.hi k (Nat.le_refl _) hk with e | e
      · subst e; rw [hD] at hi; cases hi
      · rw [h.closed k hD i e] at hi; cases hi
    · exact g

theorem any_run (ok : DrawOk N ops sl es) (hJ : SlotsJ P N ops sl e0 Ls 0 ops.toList sl) {S0 : St} (hQ : Q .normal (finTo ops sl e0 ops.size) (Ls es.length)) :
    ∀ (fuel : Nat) (listed : Array Bool) (S : St) (p : Nat) (a : Act), listed.size = ops.size → undone (fun i => listed.getD i false) ops.size ≤ fuel → Le S0 S → a.defers = [] →
      Mid N ops sl es e0 Ls S (fun i => listed.getD i false) p a → wpAny P .any ops (lift N S0 Q) fuel listed a S.w := by
  have fin : ∀ (listed : Array Bool) (S : St) (p : Nat) (a : Act), (∀ k, k < ops.size → listed.getD k false = true) → Le S0 S → a.defers = [] →
      Mid N ops sl es e0 Ls S (fun i => listed.getD i false) p a → lift N S0 Q .normal a S.w := by
    intro listed S p a hall hl hd h
    have hp : p = es.length := by
      rcases Nat.lt_or_ge p es.length with g | g
      · obtain ⟨k, hk⟩ : ∃ k, es[p]? = some k := ⟨_, List.getElem?_eq_getElem g⟩
        obtain ⟨s, hs, _⟩ := ok.esr p k hk
        have hlt := (List.getElem?_eq_some_iff.1 hs).1
        have := (h.eff p k hk).1 (hall k (by rw [ok.len] at hlt; exact hlt))
        omega
      · exact Nat.le_antisymm h.le g
    subst hp
    refine ⟨.normal, finTo ops sl e0 ops.size, S, rfl, by rw [h.σ]; exact hQ, rfl, h.inv, hl, ⟨h.size, fun t => ?_⟩, hd⟩
    rw [aget_finTo, ← curTo_congr (D := fun i => listed.getD i false) ops.size fun k hk _ => hall k hk]
    exact h.get t
  have rdy : ∀ (listed : Array Bool), listed.size = ops.size → Region.ready .any ops listed = [] → ∀ k, k < ops.size → listed.getD k false = true := by
    intro listed hsz hr k hk
    cases hd : listed.getD k false with
    | true => rfl
    | false =>
      exfalso
      obtain ⟨k, hk, hd, hm⟩ := least (p := fun i => listed.getD i false) ops.size ⟨k, hk, hd⟩
      obtain ⟨q, hq⟩ : ∃ q, ops[k]? = some q := ⟨_, Array.getElem?_eq_getElem hk⟩
      have : k ∈ Region.ready .any ops listed := by
        unfold Region.ready
        rw [List.mem_filter]
        refine ⟨List.mem_range.2 hk, ?_⟩
        have hk2 : k < listed.size := by omega
        have h1 : listed.getD k true = false := by
          simp only [Array.getD_eq_getD_getElem?, Array.getElem?_eq_getElem hk2, Option.getD_some] at hd ⊢
          exact hd
        rw [h1, hq]
        simp only [Bool.not_false, Option.map_some, Option.getD_some, Bool.true_and]
        rw [Array.all_eq_true']
        intro e he
        cases hb : Region.binds .any e with
        | false => simp
        | true =>
          have := hm e.on (ok.back k q hq e (by simpa using he) hb)
          simpa using this
      rw [hr] at this
      cases this
  intro fuel
  induction fuel with
  | zero =>
    intro listed S p a hsz hu hl hd h
    have hall := undone_zero (D := fun i => listed.getD i false) (n := ops.size) (by omega)
    refine ⟨?_, fin listed S p a hall hl hd h⟩
    unfold Region.ready
    rw [List.filter_eq_nil_iff]
    intro k hk
    have hk := List.mem_range.1 hk
    have hk2 : k < listed.size := by omega
    have := hall k hk
    simp only [Array.getD_eq_getD_getElem?, Array.getElem?_eq_getElem hk2, Option.getD_some] at this ⊢
    simp [this]
  | succ fuel ih =>
    intro listed S p a hsz hu hl hd h
    refine ⟨fun hr => fin listed S p a (rdy listed hsz hr) hl hd h, fun i hi => ?_⟩
    unfold Region.ready at hi
    rw [List.mem_filter] at hi
    obtain ⟨hir, hi⟩ := hi
    have hlt := List.mem_range.1 hir
    have hlt2 : i < listed.size := by omega
    obtain ⟨o, ho⟩ : ∃ q, ops[i]? = some q := ⟨_, Array.getElem?_eq_getElem hlt⟩
    obtain ⟨s, hs⟩ : ∃ q, sl[i]? = some q := ⟨_, List.getElem?_eq_getElem (by rw [ok.len]; exact hlt)⟩
    rw [Bool.and_eq_true] at hi
    have hi1 : listed.getD i false = false := by
      have := hi.1
      simp only [Array.getD_eq_getD_getElem?, Array.getElem?_eq_getElem hlt2, Option.getD_some] at this ⊢
      simpa using this
    have hi2 := hi.2
    rw [ho] at hi2
    simp only [Option.map_some, Option.getD_some] at hi2
    rw [Array.all_eq_true'] at hi2
    have ha : ∀ x ∈ ancOf sl i, listed.getD x false = true := by
      intro x hx
      obtain ⟨e, he, hb, g⟩ := ok.anc i o ho x hx
      have := hi2 e (by simpa using he)
      simp only [hb, Bool.not_true, Bool.false_or] at this
      rcases g with g | g
      · rw [← g]; exact this
      · exact h.closed e.on this x g
    have hE := h.env ok ho hi1 ha
    have hw := h.window ok hs hi1 ha
    have hset : (listed.setIfInBounds i true).size = ops.size := by simp [hsz]
    have hi' : (listed.setIfInBounds i true).getD i false = true := by simp [Array.getD_eq_getD_getElem?, hlt2]
    have hk : ∀ k, k ≠ i → (listed.setIfInBounds i true).getD k false = listed.getD k false := fun k hk => by
      simp [Array.getD_eq_getD_getElem?, Array.getElem?_setIfInBounds_ne (Ne.symm hk)]
    have hund : undone (fun k => (listed.setIfInBounds i true).getD k false) ops.size ≤ fuel := by
      have := undone_set (D := fun k => listed.getD k false) (D' := fun k => (listed.setIfInBounds i true).getD k false) hi1 hi' hk ops.size
      rw [if_pos hlt] at this
      omega
    have hlo : s.eff = true → s.lo = p := fun he => by have := (ok.eff i s hs he).2; omega
    unfold wpOp
    simp only [ho]
    have hJi := SlotsJ.get hJ (i := i) (o := o) (s := s) (by simpa using ho) hs
    rw [Nat.zero_add] at hJi
    rcases hJi with ⟨hg, hop⟩ | ⟨hv, he, j, q, hg, hgo⟩
    · have hwant : Region.wanted o (yielded ops a.tmps) = true := by
        unfold Region.wanted
        cases hgd : o.guard with
        | none => rfl
        | some jq =>
          obtain ⟨j, q⟩ := jq
          simp [yielded_of hE (hg j q hgd)]
      rw [if_pos hwant]
      left
      refine hop p hw.1 hw.2 S a h.σ h.inv hE _ _ fun u S' h1 h2 h3 h4 => ?_
      exact ih _ S' _ _ hset hund (hl.trans h3) (by rw [put_defers]; exact hd) (h.next ok ho hs hi1 ha hi' hk h3 h2 h4 h1 hlo)
    · have hwant : Region.wanted o (yielded ops a.tmps) = false := by
        rcases hgo with hgo | hgo
        · simp [Region.wanted, hg, yielded_of hE hgo]
        · simp [Region.wanted, hg, yielded_undef hE hgo]
      rw [if_neg (by simp [hwant])]
      have := h.next ok ho hs hi1 ha hi' hk (u := undef) (Le.refl S) h.inv (by rw [hv]; exact .tup .nil) (by rw [he]; exact h.σ) hlo
      exact ih _ S _ _ hset hund hl (by rw [put_defers]; exact hd) this

theorem AW_drawn {m : Nat} {id : Nat} (hm : P.follows .mixedOrders = true) (ok : drawOk N ops sl es = true) (hJ : SlotsJ P N ops sl e0 Ls 0 ops.toList sl)
    (hQ : Q .normal (finTo ops sl e0 ops.size) (Ls es.length)) : AW P N m (.region id ops true) e0 (Ls 0) Q := by
  intro S0 S a hm' hl hσ hI hE hd
  have ok := drawOk_spec ok
  have hg : ∀ k, (Array.replicate ops.size false).getD k false = false := fun k => by
    simp only [Array.getD_eq_getD_getElem?]
    by_cases h : k < ops.size <;> simp [h]
  have hcur : ∀ t, curTo ops sl e0 (fun i => (Array.replicate ops.size false).getD i false) t ops.size = aget e0 t := fun t => by
    rw [curTo_up (i := 0) ops.size (by omega) fun k _ _ _ => hg k]; rfl
  refine wp_region_any hm ?_
  have := any_run (P := P) (S0 := S0) (Q := Q) ok hJ hQ ops.size (Array.replicate ops.size false) S.drew 0 a (by simp)
    (undone_le _ _) (hl.trans (drew_le S)) hd
    { σ := hσ
      inv := drew_inv hI
      size := hE.size
      get := fun t => by rw [hcur]; exact (hE.get t).mono (drew_le S)
      closed := fun i h => by rw [hg] at h; cases h
      le := Nat.zero_le _
      eff := fun r i _ => by rw [hg]; simp }
  exact this
end
end Go.Vm
