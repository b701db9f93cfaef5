/- A value-semantics layer over the machine: abstract values, an abstract store, the relation to the machine's world, and how it lives on. -/
import Derived.Laws.AppendOwn
import Derived.Tactics
set_option linter.unusedVariables false
set_option linter.unusedSectionVars false
set_option linter.unusedSimpArgs false
namespace Go.Vm

theorem bif_some {α : Type} {c : Bool} {x : Option α} {v : α} (h : (bif c then x else none) = some v) : c = true ∧ x = some v := by cases c <;> simp_all
theorem bif_none {α : Type} {c : Bool} {x : Option α} {v : α} (h : (bif c then none else x) = some v) : c = false ∧ x = some v := by cases c <;> simp_all

/-- Abstract values. A slice that nobody writes any more is a list. -/
inductive AV where
  | any
  | bool (b : Bool)
  | int (k : IntKind) (n : Int)
  | str (s : ByteArray)
  | agg (cs : List AV)
  | tup (vs : List AV)
  | nil
  | sl (xs : List AV)
  | own (r ver : Nat)
  | rp (cs : List AV)
  | op (r ver i off : Nat)
  | gr (r n : Nat)
  | gp (r n i off : Nat)
  | ptr (r off : Nat)
  | nilptr
  | map (r : Nat)
  | nilmap
  | fn (f : FuncId) (first cap : List AV)
  deriving Inhabited

def AV.cells : AV → List AV
  | .agg cs => cs
  | v => [v]
/-- May it stand in one cell? -/
def AV.one : AV → Bool
  | .agg _ | .tup _ | .any => false
  | _ => true

/-- What the store holds: a variable's cells; a row that is made, with its version, element type, cells an element; a map. -/
inductive AObj where
  | cells (cs : List AV)
  | arr (frz : Bool) (ver : Nat) (e : TypeId) (k : Nat) (xs : List AV)
  | map (es : List (AV × AV))
  | row (mu : Bool) (e : TypeId) (k : Nat) (xs : List AV)
  /-- it goes by another name now -/
  | dead
  deriving Inhabited

def AObj.mut : AObj → Bool
  | .arr f _ _ _ _ => !f
  | .row _ _ _ xs => !xs.isEmpty
  | .dead => false
  | _ => true
/-- Has it a block? A row without elements has none. -/
def AObj.blk : AObj → Bool
  | .row _ _ _ xs => !xs.isEmpty
  | .dead => false
  | _ => true
theorem AObj.blk_of_mut {o : AObj} (h : o.mut = true) : o.blk = true := by cases o <;> simp_all [AObj.mut, AObj.blk]
theorem AObj.mut_cases (o : AObj) : o.mut = true ∨ (∃ ver e k xs, o = .arr true ver e k xs) ∨ o.blk = false := by
  cases o with
  | arr f ver e k xs => cases f <;> simp [AObj.mut]
  | row mu e k xs => cases xs <;> simp [AObj.mut, AObj.blk]
  | _ => simp [AObj.mut, AObj.blk]

structure St where
  w : World
  σ : List AObj
  ρ : Nat → Nat
  κ : Nat → Nat
  out : Nat → Prop
  /-- cells of others' blocks that nobody writes any more -/
  oim : Nat → Nat → Prop

/-- What may be written: a block of the store, or one of those that others hold. -/
def St.M (S : St) (b : Nat) : Prop := (∃ r o, S.σ[r]? = some o ∧ o.mut = true ∧ S.ρ r = b) ∨ S.out b
def St.Imm (S : St) (b : Nat) : Prop := b < S.w.heap.size ∧ ¬ S.M b
/-- A cell of a row that only grows. -/
def St.Fil (S : St) (b o : Nat) : Prop := (∃ r e k xs, S.σ[r]? = some (.row false e k xs) ∧ S.ρ r = b ∧ o < xs.length * k) ∨ (S.out b ∧ S.oim b o)
/-- Nobody writes this cell any more. -/
def St.Rdo (S : St) (p : Addr) : Prop := S.Imm p.block ∨ (p.spot = none ∧ S.Fil p.block p.off)

mutual
inductive RV (S : St) : Value → AV → Prop
  | any (v : Value) : RV S v .any
  | bool (b : Bool) : RV S (.bool b) (.bool b)
  | int (k : IntKind) (n : Int) : RV S (.int k n) (.int k n)
  | str (s : ByteArray) : RV S (.string s) (.str s)
  | agg {us : List Value} {cs : List AV} (h : RVs S us cs) (h1 : ∀ c ∈ cs, c.one = true) : RV S (.agg us.toArray) (.agg cs)
  | tup {us : List Value} {cs : List AV} (h : RVs S us cs) : RV S (.tuple us.toArray) (.tup cs)
  | nil : RV S (.slice none 0 0) .nil
  | sl {a : Option Addr} {n c : Nat} {xs : List AV} {us : List Value} {k : Nat} (hn : n = xs.length) (hcm : n ≤ c ∧ c ≤ maxLen) (h : RVs S us (xs.flatMap AV.cells)) (hk : ∀ x ∈ xs, x.cells.length = k)
      (h1 : ∀ y ∈ xs.flatMap AV.cells, y.one = true) (hs : xs ≠ [] → ∃ ad, a = some ad)
      (hc : ∀ j u, us[j]? = some u → ∃ ad, a = some ad ∧ S.Rdo (ad.add j) ∧ S.w.cell? (ad.add j) = some u) : RV S (.slice a n c) (.sl xs)
  | own {a : Option Addr} {n c : Nat} {r ver : Nat} {fr : Bool} {ver0 : Nat} {e : TypeId} {k : Nat} {xs : List AV} (h : S.σ[r]? = some (.arr fr ver0 e k xs)) (hv : ver ≤ ver0)
      (he : ver = ver0 → a = some ⟨S.ρ r, 0, none⟩ ∧ n = xs.length ∧ c = S.κ r) : RV S (.slice a n c) (.own r ver)
  | rp {p : Addr} {us : List Value} {cs : List AV} (h : RVs S us cs) (h1 : ∀ y ∈ cs, y.one = true)
      (hc : ∀ j u, us[j]? = some u → S.Rdo (p.add j) ∧ S.w.cell? (p.add j) = some u) : RV S (.pointer (some p)) (.rp cs)
  | op {p : Addr} {r ver i off : Nat} {fr : Bool} {ver0 : Nat} {e : TypeId} {k : Nat} {xs : List AV} (h : S.σ[r]? = some (.arr fr ver0 e k xs)) (hv : ver ≤ ver0)
      (he : ver = ver0 → p = ⟨S.ρ r, i * k + off, none⟩) : RV S (.pointer (some p)) (.op r ver i off)
  | gr {a : Option Addr} {n c : Nat} {r m : Nat} {o : AObj} (h : S.σ[r]? = some o) (hn : n = m)
      (he : ∀ mu e k xs, o = .row mu e k xs → m ≤ xs.length ∧ (m = xs.length → (m = 0 ∧ c = 0) ∨ (m ≠ 0 ∧ a = some ⟨S.ρ r, 0, none⟩ ∧ c = S.κ r))) : RV S (.slice a n c) (.gr r m)
  | gp {p : Addr} {r m i off : Nat} {o : AObj} (h : S.σ[r]? = some o) (h0 : m ≠ 0)
      (he : ∀ mu e k xs, o = .row mu e k xs → m ≤ xs.length ∧ (m = xs.length → p = ⟨S.ρ r, i * k + off, none⟩)) : RV S (.pointer (some p)) (.gp r m i off)
  | ptr {r off : Nat} {cs : List AV} (h : S.σ[r]? = some (.cells cs)) : RV S (.pointer (some ⟨S.ρ r, off, none⟩)) (.ptr r off)
  | nilptr : RV S (.pointer none) .nilptr
  | map {r : Nat} {es : List (AV × AV)} (h : S.σ[r]? = some (.map es)) : RV S (.map (some (S.ρ r))) (.map r)
  | nilmap : RV S (.map none) .nilmap
  | fn {f : FuncId} {us vs : List Value} {cs ds : List AV} (h : RVs S us cs) (h' : RVs S vs ds) : RV S (.func (.func f) us.toArray vs.toArray) (.fn f cs ds)
inductive RVs (S : St) : List Value → List AV → Prop
  | nil : RVs S [] []
  | cons {u : Value} {x : AV} {us : List Value} {xs : List AV} (h : RV S u x) (hs : RVs S us xs) : RVs S (u :: us) (x :: xs)
end

/-! ### lists of related values -/
section
variable {S : St}
theorem RVs.length : ∀ {us : List Value} {xs : List AV}, RVs S us xs → us.length = xs.length
  | _, _, .nil => rfl
  | _, _, .cons _ hs => by simp [RVs.length hs]
theorem RVs.get : ∀ {us : List Value} {xs : List AV}, RVs S us xs → ∀ {j : Nat} {x : AV}, xs[j]? = some x → ∃ u, us[j]? = some u ∧ RV S u x
  | _, _, .nil, j, x, h => by simp at h
  | _, _, .cons hu hs, 0, x, h => by simp at h; subst h; exact ⟨_, rfl, hu⟩
  | _, _, .cons hu hs, j + 1, x, h => by simp at h; simpa using RVs.get hs h
theorem RVs.get' : ∀ {us : List Value} {xs : List AV}, RVs S us xs → ∀ {j : Nat} {u : Value}, us[j]? = some u → ∃ x, xs[j]? = some x ∧ RV S u x
  | _, _, .nil, j, x, h => by simp at h
  | _, _, .cons hu hs, 0, x, h => by simp at h; subst h; exact ⟨_, rfl, hu⟩
  | _, _, .cons hu hs, j + 1, x, h => by simp at h; simpa using RVs.get' hs h
theorem RVs.append : ∀ {us vs : List Value} {xs ys : List AV}, RVs S us xs → RVs S vs ys → RVs S (us ++ vs) (xs ++ ys)
  | _, _, _, _, .nil, h => h
  | _, _, _, _, .cons hu hs, h => .cons hu (RVs.append hs h)
theorem RVs.take : ∀ {us : List Value} {xs : List AV}, RVs S us xs → ∀ n, RVs S (us.take n) (xs.take n)
  | _, _, .nil, n => by simp; exact .nil
  | _, _, .cons hu hs, 0 => by simp; exact .nil
  | _, _, .cons hu hs, n + 1 => by simpa using .cons hu (RVs.take hs n)
theorem RVs.drop : ∀ {us : List Value} {xs : List AV}, RVs S us xs → ∀ n, RVs S (us.drop n) (xs.drop n)
  | _, _, .nil, n => by simp; exact .nil
  | _, _, .cons hu hs, 0 => by simpa using .cons hu hs
  | _, _, .cons hu hs, n + 1 => by simpa using RVs.drop hs n
theorem RVs.set : ∀ {us : List Value} {xs : List AV}, RVs S us xs → ∀ (n : Nat) {u : Value} {x : AV}, RV S u x → RVs S (us.set n u) (xs.set n x)
  | _, _, .nil, n, u, x, h => by simp; exact .nil
  | _, _, .cons hu hs, 0, u, x, h => by simpa using .cons h hs
  | _, _, .cons hu hs, n + 1, u, x, h => by simpa using .cons hu (RVs.set hs n h)
theorem RVs.of_get : ∀ {us : List Value} {xs : List AV} (hl : us.length = xs.length) (h : ∀ (j : Nat) (u : Value) (x : AV), us[j]? = some u → xs[j]? = some x → RV S u x), RVs S us xs
  | [], [], _, _ => .nil
  | u :: us, x :: xs, hl, h => .cons (h 0 u x rfl rfl) (RVs.of_get (by simpa using hl) fun j u' x' h1 h2 => h (j + 1) u' x' (by simpa using h1) (by simpa using h2))
theorem RVs.single {u : Value} {x : AV} (h : RV S u x) : RVs S [u] [x] := .cons h .nil
theorem RV.oneCell {u : Value} {x : AV} (h : RV S u x) (h1 : x.one = true) : u.oneCell' = true ∧ u.cells = #[u] := by
  cases h <;> simp_all [AV.one, Value.oneCell', Value.cells]
/-- A value's cells are its abstract value's cells. -/
theorem RV.cells {u : Value} {x : AV} (h : RV S u x) (h1 : ∀ c ∈ x.cells, c.one = true) : RVs S u.cells.toList x.cells := by
  cases h with
  | agg h _ => simpa [Value.cells, AV.cells] using h
  | any => simp [AV.cells, AV.one] at h1
  | tup => simp [AV.cells, AV.one] at h1
  | _ => simp only [AV.cells, Value.cells]; exact .single (by constructor <;> assumption)
theorem RVs.oneCell {us : List Value} {xs : List AV} (h : RVs S us xs) (h1 : ∀ x ∈ xs, x.one = true) : ∀ u ∈ us, u.oneCell' = true := by
  intro u hu
  obtain ⟨j, hj⟩ := List.getElem?_of_mem hu
  obtain ⟨x, hx, hr⟩ := h.get' hj
  exact (hr.oneCell (h1 x (List.mem_of_getElem? hx))).1
end

/-! ### the order of states -/
def ObjLe (S S' : St) (r : Nat) : AObj → AObj → Prop
  | .cells cs, .cells cs' => S'.ρ r = S.ρ r ∧ cs'.length = cs.length
  | .map _, .map _ => S'.ρ r = S.ρ r
  | .arr fr ver e k xs, .arr fr' ver' e' k' xs' => (ver ≤ ver' ∧ k' = k) ∧ (ver' = ver → S'.ρ r = S.ρ r ∧ S'.κ r = S.κ r ∧ xs'.length = xs.length)
  | .row mu e k xs, .row mu' e' k' xs' => (xs.length ≤ xs'.length ∧ k' = k) ∧ (xs'.length = xs.length → S'.ρ r = S.ρ r ∧ S'.κ r = S.κ r) ∧ (mu = false → mu' = false)
  | .row _ _ _ _, .dead => True
  | .dead, .dead => True
  | _, _ => False

structure Le (S S' : St) : Prop where
  os : S'.w.os = S.w.os
  tape : S'.w.tape = S.w.tape
  output : S'.w.output = S.w.output
  size : S.w.heap.size ≤ S'.w.heap.size
  outs : S'.out = S.out
  oims : S'.oim = S.oim
  outh : ∀ b, S.out b → S'.w.heap[b]? = S.w.heap[b]?
  imm : ∀ b, S.Imm b → S'.Imm b ∧ S'.w.heap[b]? = S.w.heap[b]?
  fil : ∀ b o, S.Fil b o → (S'.Imm b ∨ S'.Fil b o) ∧ S'.w.cell? ⟨b, o, none⟩ = S.w.cell? ⟨b, o, none⟩
  obj : ∀ (r : Nat) (o : AObj), S.σ[r]? = some o → ∃ o', S'.σ[r]? = some o' ∧ ObjLe S S' r o o'

theorem ObjLe.refl (S : St) (r : Nat) (o : AObj) : ObjLe S S r o o := by cases o <;> simp [ObjLe]
theorem Le.refl (S : St) : Le S S := ⟨rfl, rfl, rfl, Nat.le_refl _, rfl, rfl, fun _ _ => rfl, fun _ h => ⟨h, rfl⟩, fun _ _ h => ⟨.inr h, rfl⟩, fun r o h => ⟨o, h, ObjLe.refl S r o⟩⟩
theorem ObjLe.trans {S1 S2 S3 : St} {r : Nat} {a b c : AObj} (h : ObjLe S1 S2 r a b) (k : ObjLe S2 S3 r b c) : ObjLe S1 S3 r a c := by
  cases a <;> cases b <;> simp only [ObjLe] at h <;> cases c <;> simp only [ObjLe] at k <;> simp only [ObjLe]
  · exact ⟨k.1.trans h.1, k.2.trans h.2⟩
  · refine ⟨⟨Nat.le_trans h.1.1 k.1.1, k.1.2.trans h.1.2⟩, fun e => ?_⟩
    have h1 := h.1.1
    have k1 := k.1.1
    obtain ⟨p1, p2, p3⟩ := h.2 (by omega)
    obtain ⟨q1, q2, q3⟩ := k.2 (by omega)
    exact ⟨q1.trans p1, q2.trans p2, q3.trans p3⟩
  · exact k.trans h
  · refine ⟨⟨Nat.le_trans h.1.1 k.1.1, k.1.2.trans h.1.2⟩, fun e => ?_, fun e => k.2.2 (h.2.2 e)⟩
    have h1 := h.1.1
    have k1 := k.1.1
    obtain ⟨p1, p2⟩ := h.2.1 (by omega)
    obtain ⟨q1, q2⟩ := k.2.1 (by omega)
    exact ⟨q1.trans p1, q2.trans p2⟩
theorem Le.trans {S1 S2 S3 : St} (h : Le S1 S2) (k : Le S2 S3) : Le S1 S3 where
  os := k.os.trans h.os
  tape := k.tape.trans h.tape
  output := k.output.trans h.output
  size := Nat.le_trans h.size k.size
  outs := k.outs.trans h.outs
  oims := k.oims.trans h.oims
  outh b hb := (k.outh b (by rw [h.outs]; exact hb)).trans (h.outh b hb)
  imm b hb := ⟨(k.imm b (h.imm b hb).1).1, (k.imm b (h.imm b hb).1).2.trans (h.imm b hb).2⟩
  fil b o hb := by
    obtain ⟨h1, h2⟩ := h.fil b o hb
    rcases h1 with h1 | h1
    · exact ⟨.inl (k.imm b h1).1, (World.cell?_of_block (k.imm b h1).2).trans h2⟩
    · exact ⟨(k.fil b o h1).1, (k.fil b o h1).2.trans h2⟩
  obj r o ho := by
    obtain ⟨o2, h2, l2⟩ := h.obj r o ho
    obtain ⟨o3, h3, l3⟩ := k.obj r o2 h2
    exact ⟨o3, h3, l2.trans l3⟩

theorem Le.rdo {S S' : St} (h : Le S S') {p : Addr} (hp : S.Rdo p) : S'.Rdo p ∧ S'.w.cell? p = S.w.cell? p := by
  rcases hp with hp | ⟨hs, hp⟩
  · exact ⟨.inl (h.imm _ hp).1, World.cell?_of_block (h.imm _ hp).2⟩
  · obtain ⟨h1, h2⟩ := h.fil _ _ hp
    refine ⟨h1.elim .inl fun g => .inr ⟨hs, g⟩, ?_⟩
    obtain ⟨b, o, s⟩ := p
    simp only at hs
    subst hs
    exact h2
theorem Le.cell {S S' : St} (h : Le S S') {p : Addr} (hp : S.Rdo p) : S'.w.cell? p = S.w.cell? p := (h.rdo hp).2

mutual
theorem RV.mono {S S' : St} (l : Le S S') : ∀ {v : Value} {x : AV}, RV S v x → RV S' v x
  | _, _, .any v => .any v
  | _, _, .bool b => .bool b
  | _, _, .int k n => .int k n
  | _, _, .str s => .str s
  | _, _, .agg h h1 => .agg (RVs.mono l h) h1
  | _, _, .tup h => .tup (RVs.mono l h)
  | _, _, .nil => .nil
  | _, _, .sl hn hcm h hk h1 hs hc => .sl hn hcm (RVs.mono l h) hk h1 hs fun j u hu => by
      obtain ⟨ad, e, hi, hcell⟩ := hc j u hu
      exact ⟨ad, e, (l.rdo hi).1, by rw [l.cell hi]; exact hcell⟩
  | _, _, .own h hv he => by
      obtain ⟨o', h', hl⟩ := l.obj _ _ h
      cases o' <;> simp only [ObjLe] at hl
      refine .own h' (Nat.le_trans hv hl.1.1) fun e => ?_
      have h1 := hl.1.1
      obtain ⟨p1, p2, p3⟩ := hl.2 (by omega)
      rw [p1, p2, p3]
      exact he (by omega)
  | _, _, .rp h h1 hc => .rp (RVs.mono l h) h1 fun j u hu => by
      obtain ⟨hi, hcell⟩ := hc j u hu
      exact ⟨(l.rdo hi).1, by rw [l.cell hi]; exact hcell⟩
  | _, _, .op h hv he => by
      obtain ⟨o', h', hl⟩ := l.obj _ _ h
      cases o' <;> simp only [ObjLe] at hl
      refine .op h' (Nat.le_trans hv hl.1.1) fun e => ?_
      have h1 := hl.1.1
      obtain ⟨p1, p2, p3⟩ := hl.2 (by omega)
      rw [p1, hl.1.2]
      exact he (by omega)
  | _, _, .gr (o := o) h hn he => by
      obtain ⟨o', h', hl⟩ := l.obj _ _ h
      refine .gr h' hn fun mu e k xs eo => ?_
      subst eo
      cases o <;> simp only [ObjLe] at hl
      obtain ⟨hv, he⟩ := he _ _ _ _ rfl
      refine ⟨Nat.le_trans hv hl.1.1, fun e => ?_⟩
      have h1 := hl.1.1
      obtain ⟨p1, p2⟩ := hl.2.1 (by omega)
      rw [p1, p2]
      exact he (by omega)
  | _, _, .gp (o := o) h h0 he => by
      obtain ⟨o', h', hl⟩ := l.obj _ _ h
      refine .gp h' h0 fun mu e k xs eo => ?_
      subst eo
      cases o <;> simp only [ObjLe] at hl
      obtain ⟨hv, he⟩ := he _ _ _ _ rfl
      refine ⟨Nat.le_trans hv hl.1.1, fun e => ?_⟩
      have h1 := hl.1.1
      obtain ⟨p1, p2⟩ := hl.2.1 (by omega)
      rw [p1, hl.1.2]
      exact he (by omega)
  | _, _, .ptr (r := r) (off := off) h => by
      obtain ⟨o', h', hl⟩ := l.obj _ _ h
      cases o' <;> simp only [ObjLe] at hl
      rw [← hl.1]
      exact .ptr h'
  | _, _, .nilptr => .nilptr
  | _, _, .map h => by
      obtain ⟨o', h', hl⟩ := l.obj _ _ h
      cases o' <;> simp only [ObjLe] at hl
      rw [← hl]
      exact .map h'
  | _, _, .nilmap => .nilmap
  | _, _, .fn h h' => .fn (RVs.mono l h) (RVs.mono l h')
theorem RVs.mono {S S' : St} (l : Le S S') : ∀ {us : List Value} {xs : List AV}, RVs S us xs → RVs S' us xs
  | _, _, .nil => .nil
  | _, _, .cons h hs => .cons (RV.mono l h) (RVs.mono l hs)
end

/-! ### what the world holds of the store -/
/-- An entry of a map. -/
def EntR (S : St) (e : MapEntry) (p : AV × AV) : Prop := RV S e.key p.1 ∧ RV S e.val p.2

def ObjR (S : St) (r : Nat) : AObj → Prop
  | .cells cs => ∃ C t, S.w.heap[S.ρ r]? = some (.cells C t (0, 0)) ∧ RVs S C.toList cs ∧ ∀ c ∈ cs, c.one = true
  | .arr fr _ e k xs => ∃ C, S.w.heap[S.ρ r]? = some (.cells C e (0, 0)) ∧ xs.length ≤ S.κ r ∧ S.κ r ≤ maxLen ∧ C.size = S.κ r * k ∧ RVs S (C.toList.take (xs.length * k)) (xs.flatMap AV.cells) ∧
      (∀ x ∈ xs, x.cells.length = k) ∧ (∀ y ∈ xs.flatMap AV.cells, y.one = true) ∧ (fr = true → ¬ S.M (S.ρ r)) ∧ 0 < k
  | .dead => True
  | .row mu e k xs => 0 < k ∧ (∀ x ∈ xs, x.cells.length = k) ∧ (∀ y ∈ xs.flatMap AV.cells, y.one = true) ∧
      (xs ≠ [] → ∃ C, S.w.heap[S.ρ r]? = some (.cells C e (0, 0)) ∧ xs.length ≤ S.κ r ∧ S.κ r ≤ maxLen ∧ C.size = S.κ r * k ∧ RVs S (C.toList.take (xs.length * k)) (xs.flatMap AV.cells))
  | .map es => ∃ E clock, S.w.heap[S.ρ r]? = some (.map E clock) ∧ E.size = es.length ∧ ∀ (j : Nat) (e : MapEntry) (p : AV × AV), E[j]? = some e → es[j]? = some p → EntR S e p

/-- What is known of the global variables that nobody writes: of the blocks below 'low'. -/
class Glob where
  low : Nat
  ok : World → Prop
  keep : ∀ w w' : World, (∀ b, b < low → w'.heap[b]? = w.heap[b]?) → ok w → ok w'
variable [Glob]
def GlOk (S : St) : Prop := Glob.ok S.w ∧ ∀ b, b < Glob.low → S.Imm b
theorem GlOk.le {S S' : St} (l : Le S S') (h : GlOk S) : GlOk S' := ⟨Glob.keep _ _ (fun b hb => (l.imm b (h.2 b hb)).2) h.1, fun b hb => (l.imm b (h.2 b hb)).1⟩

structure Inv (S : St) : Prop where
  gl : GlOk S
  obj : ∀ (r : Nat) (o : AObj), S.σ[r]? = some o → ObjR S r o
  inj : ∀ (r r' : Nat) (o o' : AObj), S.σ[r]? = some o → S.σ[r']? = some o' → o.mut = true → o'.mut = true → S.ρ r = S.ρ r' → r = r'
  outl : ∀ b, S.out b → b < S.w.heap.size
  outr : ∀ (r : Nat) (o : AObj), S.σ[r]? = some o → o.mut = true → ¬ S.out (S.ρ r)

theorem EntR.mono {S S' : St} (l : Le S S') {e : MapEntry} {p : AV × AV} (h : EntR S e p) : EntR S' e p := ⟨h.1.mono l, h.2.mono l⟩

theorem ObjR.keep {S S' : St} (l : Le S S') {r : Nat} {o : AObj} (h : ObjR S r o) (hρ : S'.ρ r = S.ρ r) (hκ : S'.κ r = S.κ r) (hh : o.blk = true → S'.w.heap[S.ρ r]? = S.w.heap[S.ρ r]?)
    (hM : ∀ b, S'.M b → S.M b ∨ S.w.heap.size ≤ b) : ObjR S' r o := by
  cases o with
  | cells cs =>
    obtain ⟨C, t, h1, h2, h3⟩ := h
    exact ⟨C, t, by rw [hρ, hh rfl]; exact h1, h2.mono l, h3⟩
  | arr fr ver e k xs =>
    obtain ⟨C, h1, h2, h3, h4, h5, h6, h7, h8, h9⟩ := h
    refine ⟨C, by rw [hρ, hh rfl]; exact h1, by rw [hκ]; exact h2, by rw [hκ]; exact h3, by rw [hκ]; exact h4, h5.mono l, h6, h7, fun e hm => ?_, h9⟩
    rw [hρ] at hm
    have hlt : S.ρ r < S.w.heap.size := by
      rcases Nat.lt_or_ge (S.ρ r) S.w.heap.size with g | g
      · exact g
      · rw [Array.getElem?_eq_none g] at h1; cases h1
    rcases hM _ hm with g | g
    · exact h8 e g
    · omega
  | map es =>
    obtain ⟨E, clock, h1, h2, h3⟩ := h
    exact ⟨E, clock, by rw [hρ, hh rfl]; exact h1, h2, fun j e p he hp => (h3 j e p he hp).mono l⟩
  | row mu e k xs =>
    obtain ⟨h1, h2, h3, h4⟩ := h
    refine ⟨h1, h2, h3, fun hne => ?_⟩
    obtain ⟨C, g1, g2, g3, g4, g5⟩ := h4 hne
    exact ⟨C, by rw [hρ, hh (by cases xs <;> simp_all [AObj.blk])]; exact g1, by rw [hκ]; exact g2, by rw [hκ]; exact g3, by rw [hκ]; exact g4, g5.mono l⟩
  | dead => trivial

theorem ObjR.lt {S : St} {r : Nat} {o : AObj} (h : ObjR S r o) (hb : o.blk = true) : S.ρ r < S.w.heap.size := by
  have key : ∀ x : Obj, S.w.heap[S.ρ r]? = some x → S.ρ r < S.w.heap.size := fun x hx => by
    rcases Nat.lt_or_ge (S.ρ r) S.w.heap.size with g | g
    · exact g
    · rw [Array.getElem?_eq_none g] at hx; cases hx
  cases o with
  | cells cs => obtain ⟨C, t, h1, _⟩ := h; exact key _ h1
  | arr fr ver e k xs => obtain ⟨C, h1, _⟩ := h; exact key _ h1
  | map es => obtain ⟨E, clock, h1, _⟩ := h; exact key _ h1
  | row mu e k xs =>
    obtain ⟨_, _, _, h4⟩ := h
    obtain ⟨C, h1, _⟩ := h4 (by cases xs <;> simp_all [AObj.blk])
    exact key _ h1
  | dead => simp [AObj.blk] at hb

/-! ### a draw -/
def St.drew (S : St) : St := { S with w := S.w.drew }
theorem drew_le (S : St) : Le S S.drew := ⟨rfl, rfl, rfl, Nat.le_refl _, rfl, rfl, fun _ _ => rfl, fun b h => ⟨h, rfl⟩, fun b o h => ⟨.inr h, rfl⟩, fun r o h => ⟨o, h, by cases o <;> simp [ObjLe, St.drew]⟩⟩
theorem drew_inv {S : St} (h : Inv S) : Inv S.drew :=
  ⟨h.gl.le (drew_le S), fun r o ho => (h.obj r o ho).keep (drew_le S) rfl rfl (fun _ => rfl) fun b hb => .inl hb, fun r r' o o' a b c d e => h.inj r r' o o' a b c d e, h.outl, h.outr⟩

/-! ### a new block -/
def St.push (S : St) (o : Obj) (x : AObj) (cap : Nat) : St :=
  { w := S.w.alloc o, σ := S.σ ++ [x], ρ := fun r => if r = S.σ.length then S.w.heap.size else S.ρ r, κ := fun r => if r = S.σ.length then cap else S.κ r, out := S.out, oim := S.oim }

theorem push_σ_old {S : St} {o : Obj} {x : AObj} {cap r : Nat} {y : AObj} (h : S.σ[r]? = some y) : (S.push o x cap).σ[r]? = some y := by
  have := (List.getElem?_eq_some_iff.1 h).1
  simp [St.push, List.getElem?_append_left this, h]
theorem push_σ_cases {S : St} {o : Obj} {x : AObj} {cap r : Nat} {y : AObj} (h : (S.push o x cap).σ[r]? = some y) : (S.σ[r]? = some y ∧ r < S.σ.length) ∨ (r = S.σ.length ∧ y = x) := by
  rcases Nat.lt_or_ge r S.σ.length with g | g
  · left; simpa [St.push, List.getElem?_append_left g, g] using h
  · right
    have hl := (List.getElem?_eq_some_iff.1 h).1
    simp [St.push] at hl
    have : r = S.σ.length := by omega
    subst this
    simp [St.push] at h
    exact ⟨rfl, h.symm⟩
theorem push_ρ_old {S : St} {o : Obj} {x : AObj} {cap r : Nat} {y : AObj} (h : S.σ[r]? = some y) : (S.push o x cap).ρ r = S.ρ r ∧ (S.push o x cap).κ r = S.κ r := by
  have := (List.getElem?_eq_some_iff.1 h).1
  simp [St.push, Nat.ne_of_lt this]
theorem push_M {S : St} {o : Obj} {x : AObj} {cap b : Nat} (h : (S.push o x cap).M b) : S.M b ∨ S.w.heap.size ≤ b := by
  rcases h with ⟨r, y, hy, hm, hb⟩ | h
  · rcases push_σ_cases hy with ⟨g, _⟩ | ⟨g, g'⟩
    · left; exact .inl ⟨r, y, g, hm, by rw [← hb, (push_ρ_old g).1]⟩
    · right; subst g; simp [St.push] at hb; omega
  · exact .inl (.inr h)
theorem heap_alloc_lt (w : World) (o : Obj) {b : Nat} (h : b < w.heap.size) : (w.alloc o).heap[b]? = w.heap[b]? := by
  show (w.heap.push o)[b]? = _
  rw [Array.getElem?_push, if_neg (by omega)]
theorem Fil_lt {S : St} (hI : Inv S) {b o : Nat} (h : S.Fil b o) : b < S.w.heap.size := by
  rcases h with ⟨r, e, k, xs, h, rfl, h2⟩ | ⟨h, _⟩
  · exact (hI.obj r _ h).lt (by cases xs <;> simp_all [AObj.blk])
  · exact hI.outl b h
theorem cell_of_heap {w w' : World} {b o : Nat} (h : w'.heap[b]? = w.heap[b]?) : w'.cell? ⟨b, o, none⟩ = w.cell? ⟨b, o, none⟩ := World.cell?_of_block h
theorem push_Fil {S : St} {o : Obj} {x : AObj} {cap b i : Nat} (h : S.Fil b i) : (S.push o x cap).Fil b i := by
  rcases h with ⟨r, e, k, xs, h, h1, h2⟩ | h
  · exact .inl ⟨r, e, k, xs, push_σ_old h, by rw [(push_ρ_old h).1]; exact h1, h2⟩
  · exact .inr h
theorem push_le {S : St} (hI : Inv S) (o : Obj) (x : AObj) (cap : Nat) : Le S (S.push o x cap) where
  os := rfl
  tape := rfl
  output := rfl
  size := by simp [St.push]
  outs := rfl
  oims := rfl
  fil b i h := ⟨.inr (push_Fil h), cell_of_heap (heap_alloc_lt _ _ (Fil_lt hI h))⟩
  outh b hb := heap_alloc_lt _ _ (hI.outl b hb)
  imm b hb := ⟨⟨by have := hb.1; simp [St.push]; omega, fun h => (push_M h).elim hb.2 fun g => by have := hb.1; omega⟩, heap_alloc_lt _ _ hb.1⟩
  obj r y hy := ⟨y, push_σ_old hy, by have := push_ρ_old (o := o) (x := x) (cap := cap) hy; cases y <;> simp [ObjLe, this]⟩
theorem push_inv {S : St} (hI : Inv S) {o : Obj} {x : AObj} {cap : Nat} (h : ObjR (S.push o x cap) S.σ.length x) : Inv (S.push o x cap) where
  gl := hI.gl.le (push_le hI o x cap)
  obj r y hy := by
    rcases push_σ_cases hy with ⟨g, _⟩ | ⟨g, g'⟩
    · have hr := hI.obj r y g
      exact hr.keep (push_le hI ..) (push_ρ_old g).1 (push_ρ_old g).2 (fun hb => heap_alloc_lt _ _ (hr.lt hb)) fun b => push_M
    · subst g; subst g'; exact h
  inj r r' a a' ha ha' hm hm' he := by
    rcases push_σ_cases ha with ⟨g, _⟩ | ⟨g, _⟩ <;> rcases push_σ_cases ha' with ⟨g', _⟩ | ⟨g', _⟩
    · rw [(push_ρ_old g).1, (push_ρ_old g').1] at he; exact hI.inj r r' a a' g g' hm hm' he
    · have := (hI.obj r a g).lt (AObj.blk_of_mut hm)
      rw [(push_ρ_old g).1, g'] at he; simp [St.push] at he; omega
    · have := (hI.obj r' a' g').lt (AObj.blk_of_mut hm')
      rw [(push_ρ_old g').1, g] at he; simp [St.push] at he; omega
    · rw [g, g']
  outl b hb := by have := hI.outl b hb; simp [St.push]; omega
  outr r y hy hm ho := by
    rcases push_σ_cases hy with ⟨g, _⟩ | ⟨g, _⟩
    · rw [(push_ρ_old g).1] at ho; exact hI.outr r y g hm ho
    · have := hI.outl _ ho
      rw [g] at this; simp [St.push] at this

/-! ### an object is turned -/
def St.upd (S : St) (w' : World) (r : Nat) (x : AObj) (b cap : Nat) : St :=
  { w := w', σ := S.σ.set r x, ρ := fun q => if q = r then b else S.ρ q, κ := fun q => if q = r then cap else S.κ q, out := S.out, oim := S.oim }

/-- What a turn of object r asks: the world is as it was but for r's block (if r may be written) and for new blocks. -/
structure Turn (S : St) (w' : World) (r : Nat) (x : AObj) (b cap : Nat) : Prop where
  os : w'.os = S.w.os
  tape : w'.tape = S.w.tape
  output : w'.output = S.w.output
  size : S.w.heap.size ≤ w'.heap.size
  heap : ∀ c, c < S.w.heap.size → c ≠ S.ρ r → w'.heap[c]? = S.w.heap[c]?
  here : ∃ o, S.σ[r]? = some o ∧ (o.mut = true ∨ (∃ mu e k, o = .row mu e k []) ∧ S.w.heap.size ≤ b ∧ ∀ c, c < S.w.heap.size → w'.heap[c]? = S.w.heap[c]?) ∧ ObjLe S (S.upd w' r x b cap) r o x
  place : b = S.ρ r ∨ S.w.heap.size ≤ b
  fill : ∀ (e : TypeId) (k : Nat) (xs : List AV) (o : Nat), S.σ[r]? = some (.row false e k xs) → o < xs.length * k → w'.cell? ⟨S.ρ r, o, none⟩ = S.w.cell? ⟨S.ρ r, o, none⟩

theorem Turn.heap' {S : St} {w' : World} {r : Nat} {x : AObj} {b cap : Nat} (t : Turn S w' r x b cap) {c : Nat} (hc : c < S.w.heap.size) (h : ∀ o, S.σ[r]? = some o → o.mut = true → c ≠ S.ρ r) : w'.heap[c]? = S.w.heap[c]? := by
  obtain ⟨o, ho, hom | ⟨_, _, hv⟩, _⟩ := t.here
  · exact t.heap c hc (h o ho hom)
  · exact hv c hc

theorem upd_other {S : St} {w' : World} {r q : Nat} {x : AObj} {b cap : Nat} (h : q ≠ r) : (S.upd w' r x b cap).σ[q]? = S.σ[q]? ∧ (S.upd w' r x b cap).ρ q = S.ρ q ∧ (S.upd w' r x b cap).κ q = S.κ q := by
  simp [St.upd, h, List.getElem?_set, Ne.symm h]
theorem upd_same {S : St} {w' : World} {r : Nat} {x o : AObj} {b cap : Nat} (h : S.σ[r]? = some o) : (S.upd w' r x b cap).σ[r]? = some x ∧ (S.upd w' r x b cap).ρ r = b ∧ (S.upd w' r x b cap).κ r = cap := by
  have := (List.getElem?_eq_some_iff.1 h).1
  simp [St.upd, List.getElem?_set, this]
theorem upd_M {S : St} {w' : World} {r : Nat} {x : AObj} {b cap : Nat} (t : Turn S w' r x b cap) {c : Nat} (h : (S.upd w' r x b cap).M c) : S.M c ∨ S.w.heap.size ≤ c := by
  rcases h with ⟨q, y, hy, hm, hb⟩ | h
  · by_cases hq : q = r
    · subst hq
      obtain ⟨o, ho, hom, _⟩ := t.here
      rw [(upd_same ho).2.1] at hb
      rcases hom with hom | ⟨_, hv, _⟩
      · rcases t.place with g | g
        · left; exact .inl ⟨q, o, ho, hom, by rw [← g, hb]⟩
        · right; omega
      · right; omega
    · left
      obtain ⟨g1, g2, _⟩ := upd_other (S := S) (w' := w') (x := x) (b := b) (cap := cap) hq
      exact .inl ⟨q, y, by rw [← g1]; exact hy, hm, by rw [← g2]; exact hb⟩
  · exact .inl (.inr h)
theorem upd_le {S : St} (hI : Inv S) {w' : World} {r : Nat} {x : AObj} {b cap : Nat} (t : Turn S w' r x b cap) : Le S (S.upd w' r x b cap) where
  os := t.os
  tape := t.tape
  output := t.output
  size := t.size
  outs := rfl
  oims := rfl
  outh c hc := t.heap' (hI.outl c hc) fun o ho hom e => hI.outr r o ho hom (by rw [← e]; exact hc)
  imm c hc := by
    refine ⟨⟨Nat.lt_of_lt_of_le hc.1 t.size, fun h => (upd_M t h).elim hc.2 fun g => by have := hc.1; omega⟩, t.heap' hc.1 fun o ho hom e => hc.2 (.inl ⟨r, o, ho, hom, e.symm⟩)⟩
  fil c i hc := by
    have hlt := Fil_lt hI hc
    rcases hc with ⟨q, e, k, xs, h, rfl, h2⟩ | ⟨h, h2⟩
    · have hmut : (AObj.row false e k xs).mut = true := by cases xs <;> simp_all [AObj.mut]
      by_cases hq : q = r
      · subst hq
        obtain ⟨o, ho, hom, hl⟩ := t.here
        rw [h] at ho; cases ho
        refine ⟨?_, t.fill e k xs i h h2⟩
        obtain ⟨u1, u2, _⟩ := upd_same (S := S) (w' := w') (x := x) (b := b) (cap := cap) h
        have gone : (x.mut = true → S.w.heap.size ≤ b) → (S.upd w' q x b cap).Imm (S.ρ q) := fun g => by
          refine ⟨Nat.lt_of_lt_of_le hlt t.size, fun hm => ?_⟩
          rcases hm with ⟨p, y, hy, hm, hb⟩ | hb
          · by_cases hp : p = q
            · subst hp
              rw [u1] at hy; cases hy
              rw [u2] at hb
              have := g hm
              omega
            · obtain ⟨g1, g2, _⟩ := upd_other (S := S) (w' := w') (x := x) (b := b) (cap := cap) hp
              rw [g1] at hy; rw [g2] at hb
              exact hp (hI.inj p q y _ hy h hm hmut hb)
          · exact hI.outr q _ h hmut hb
        rcases t.place with g | g
        · cases x <;> simp only [ObjLe] at hl
          · rename_i mu' e' k' xs'
            right
            obtain ⟨⟨l1, l2⟩, _, l4⟩ := hl
            have hmu := l4 trivial
            subst hmu
            refine .inl ⟨q, _, _, _, u1, by rw [u2, g], ?_⟩
            rw [l2]; exact Nat.lt_of_lt_of_le h2 (Nat.mul_le_mul_right _ l1)
          · exact .inl (gone fun e => by simp [AObj.mut] at e)
        · exact .inl (gone fun _ => g)
      · obtain ⟨g1, g2, g3⟩ := upd_other (S := S) (w' := w') (x := x) (b := b) (cap := cap) hq
        refine ⟨.inr (.inl ⟨q, e, k, xs, by rw [g1]; exact h, g2, h2⟩), cell_of_heap (t.heap' hlt fun o ho hom e' => hq (hI.inj q r _ o h ho hmut hom e'))⟩
    · exact ⟨.inr (.inr ⟨h, h2⟩), cell_of_heap (t.heap' hlt fun o ho hom e => hI.outr r o ho hom (by rw [← e]; exact h))⟩
  obj q y hy := by
    by_cases hq : q = r
    · subst hq
      obtain ⟨o, ho, hom, hl⟩ := t.here
      rw [ho] at hy; cases hy
      exact ⟨x, (upd_same ho).1, hl⟩
    · obtain ⟨g1, g2, g3⟩ := upd_other (S := S) (w' := w') (x := x) (b := b) (cap := cap) hq
      exact ⟨y, by rw [g1]; exact hy, by cases y <;> simp [ObjLe, g2, g3]⟩
theorem upd_inv {S : St} (hI : Inv S) {w' : World} {r : Nat} {x : AObj} {b cap : Nat} (t : Turn S w' r x b cap) (h : ObjR (S.upd w' r x b cap) r x) : Inv (S.upd w' r x b cap) where
  gl := hI.gl.le (upd_le hI t)
  obj q y hy := by
    by_cases hq : q = r
    · subst hq
      obtain ⟨o, ho, hom, hl⟩ := t.here
      rw [(upd_same ho).1] at hy; cases hy
      exact h
    · obtain ⟨g1, g2, g3⟩ := upd_other (S := S) (w' := w') (x := x) (b := b) (cap := cap) hq
      rw [g1] at hy
      have hr := hI.obj q y hy
      refine hr.keep (upd_le hI t) g2 g3 (fun hb => t.heap' (hr.lt hb) fun o ho hom e => ?_) fun c => upd_M t
      rcases y.mut_cases with hmy | ⟨ver, e', k, xs, rfl⟩ | hbk
      · exact hq (hI.inj q r y o hy ho hmy hom e)
      · obtain ⟨_, _, _, _, _, _, _, _, h8, _⟩ := hr
        exact h8 rfl (.inl ⟨r, o, ho, hom, e.symm⟩)
      · rw [hbk] at hb; cases hb
  inj p q a a' ha ha' hm hm' he := by
    obtain ⟨o, ho, hom, hl⟩ := t.here
    have key : ∀ q' y, q' ≠ r → S.σ[q']? = some y → y.mut = true → b = S.ρ q' → False := fun q' y hne hy hmy hbq => by
      have hlt := (hI.obj q' y hy).lt (AObj.blk_of_mut hmy)
      rcases hom with hom | ⟨_, hv, _⟩
      · rcases t.place with g | g
        · exact hne (hI.inj q' r y o hy ho hmy hom (by rw [← hbq, g]))
        · omega
      · omega
    by_cases hp : p = r <;> by_cases hq : q = r
    · rw [hp, hq]
    · subst hp
      obtain ⟨g1, g2, g3⟩ := upd_other (S := S) (w' := w') (x := x) (b := b) (cap := cap) hq
      rw [g1] at ha'
      rw [(upd_same ho).2.1, g2] at he
      exact (key q a' hq ha' hm' he).elim
    · subst hq
      obtain ⟨g1, g2, g3⟩ := upd_other (S := S) (w' := w') (x := x) (b := b) (cap := cap) hp
      rw [g1] at ha
      rw [(upd_same ho).2.1, g2] at he
      exact (key p a hp ha hm he.symm).elim
    · obtain ⟨g1, g2, _⟩ := upd_other (S := S) (w' := w') (x := x) (b := b) (cap := cap) hp
      obtain ⟨k1, k2, _⟩ := upd_other (S := S) (w' := w') (x := x) (b := b) (cap := cap) hq
      rw [g1] at ha; rw [k1] at ha'; rw [g2, k2] at he
      exact hI.inj p q a a' ha ha' hm hm' he
  outl c hc := Nat.lt_of_lt_of_le (hI.outl c hc) t.size
  outr q y hy hm ho := by
    by_cases hq : q = r
    · subst hq
      obtain ⟨o, ho', hom, hl⟩ := t.here
      rw [(upd_same ho').2.1] at ho
      have hlt := hI.outl b ho
      rcases hom with hom | ⟨_, hv, _⟩
      · rcases t.place with g | g
        · rw [g] at ho; exact hI.outr q o ho' hom ho
        · omega
      · omega
    · obtain ⟨g1, g2, g3⟩ := upd_other (S := S) (w' := w') (x := x) (b := b) (cap := cap) hq
      rw [g1] at hy
      rw [g2] at ho
      exact hI.outr q y hy hm ho

end Go.Vm
