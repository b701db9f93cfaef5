/- Reading and writing memory through the layer; the operations' abstract meaning and why it is right. -/
import Derived.Test.YtjeihigmneepcaaVa
import Derived.Laws.Tables
import Derived.Laws.Cells
import Derived.Laws.Entries
import Derived.Laws.Strings
set_option linter.unusedVariables false
set_option linter.unusedSectionVars false
set_option linter.unusedSimpArgs false
namespace Go.Vm
variable [Glob]

theorem add_lit (g o j : Nat) : (⟨g, o, none⟩ : Addr).add j = ⟨g, o + j, none⟩ := by unfold Addr.add; split <;> simp_all
theorem add_add (p : Addr) (i j : Nat) (h : p.spot = none) : (p.add i).add j = p.add (i + j) := by
  cases p; simp at h; subst h; simp [add_lit, Nat.add_assoc]
theorem add_zero (p : Addr) : p.add 0 = p := by simp [Addr.add]
theorem add_block (p : Addr) (i : Nat) : (p.add i).block = p.block := by unfold Addr.add; split <;> rfl
theorem spot_of_cell {w : World} {p : Addr} {u : Value} (h : w.cell? p = some u) : p.spot = none := by
  unfold World.cell? at h
  split at h
  · cases hs : p.spot with
    | none => rfl
    | some _ => simp [hs] at h
  · cases h

/-! ### reading -/
/-- From address p on these cells can be read. -/
def Rd (S : St) (p : Addr) (cs : List AV) : Prop := ∃ us, RVs S us cs ∧ (∀ c ∈ cs, c.one = true) ∧ ∀ (j : Nat) (u : Value), us[j]? = some u → S.w.cell? (p.add j) = some u

theorem Rd.drop {S : St} {p : Addr} {cs : List AV} (h : Rd S p cs) (n : Nat) (hn : n < cs.length) : Rd S (p.add n) (cs.drop n) := by
  obtain ⟨us, h1, h2, h3⟩ := h
  refine ⟨us.drop n, h1.drop n, fun c hc => h2 c (List.mem_of_mem_drop hc), fun j u hj => ?_⟩
  have hl := h1.length
  have h0 : p.spot = none := by
    obtain ⟨u0, hu0⟩ : ∃ u0, us[0]? = some u0 := ⟨us[0]'(by omega), by simp⟩
    have := spot_of_cell (h3 0 u0 hu0)
    simpa [add_zero] using this
  rw [add_add p n j h0]
  exact h3 (n + j) u (by simpa using hj)

def elemCells (L : List AObj) (r ver i : Nat) : Option (List AV) :=
  match L[r]? with
  | some (.arr _ ver0 _ _ xs) => bif ver == ver0 then (xs[i]?).map AV.cells else none
  | _ => none

def readAt (L : List AObj) : AV → Option (List AV)
  | .ptr r off => match L[r]? with
    | some (.cells cs) => some (cs.drop off)
    | _ => none
  | .rp cs => some cs
  | .op r ver i off => (elemCells L r ver i).map (·.drop off)
  | _ => none

theorem flat_at {k : Nat} : ∀ {xs : List AV} (hk : ∀ x ∈ xs, x.cells.length = k) {i : Nat} {x : AV}, xs[i]? = some x → ((xs.flatMap AV.cells).drop (i * k)).take k = x.cells
  | [], _, i, x, h => by simp at h
  | y :: ys, hk, 0, x, h => by
    simp at h; subst h
    have := hk y (by simp)
    simp [List.take_append, this]
  | y :: ys, hk, i + 1, x, h => by
    have hy := hk y (by simp)
    simp at h
    have ih := flat_at (xs := ys) (fun z hz => hk z (by simp [hz])) h
    simp only [List.flatMap_cons]
    rw [show (i + 1) * k = y.cells.length + i * k by rw [hy, Nat.add_mul]; omega, List.drop_append, List.drop_eq_nil_of_le (by omega)]
    simpa using ih
theorem flat_length {k : Nat} : ∀ {xs : List AV} (hk : ∀ x ∈ xs, x.cells.length = k), (xs.flatMap AV.cells).length = xs.length * k
  | [], _ => by simp
  | y :: ys, hk => by
    have hy := hk y (by simp)
    have ih := flat_length (xs := ys) (fun z hz => hk z (by simp [hz]))
    simp [ih, hy, Nat.add_mul, Nat.add_comm]

theorem ObjR.rd {S : St} {r : Nat} {cs : List AV} (h : ObjR S r (.cells cs)) (off : Nat) : Rd S ⟨S.ρ r, off, none⟩ (cs.drop off) := by
  obtain ⟨C, t, h1, h2, h3⟩ := h
  refine ⟨C.toList.drop off, h2.drop off, fun c hc => h3 c (List.mem_of_mem_drop hc), fun j u hj => ?_⟩
  rw [add_lit, cell_of_row S.w (S.ρ r) _ C t (0, 0) h1]
  simpa using hj
theorem ObjR.rdElem {S : St} {r : Nat} {fr : Bool} {ver : Nat} {e : TypeId} {k : Nat} {xs : List AV} (h : ObjR S r (.arr fr ver e k xs)) {i : Nat} {x : AV} (hx : xs[i]? = some x) (off : Nat) :
    Rd S ⟨S.ρ r, i * k + off, none⟩ (x.cells.drop off) := by
  obtain ⟨C, h1, h2, h3, h4, h5, h6, h7, h8, h9⟩ := h
  have hf := flat_at h6 hx
  have hxl := h6 x (List.mem_of_getElem? hx)
  have hr : RVs S (((C.toList.take (xs.length * k)).drop (i * k)).take k) x.cells := by rw [← hf]; exact (h5.drop _).take _
  refine ⟨_, hr.drop off, fun c hc => ?_, fun j u hj => ?_⟩
  · exact h7 c (List.mem_flatMap.2 ⟨x, List.mem_of_getElem? hx, List.mem_of_mem_drop hc⟩)
  · rw [add_lit, cell_of_row S.w (S.ρ r) _ C e (0, 0) h1]
    rw [List.getElem?_drop, List.getElem?_take] at hj
    split at hj
    · rw [List.getElem?_drop, List.getElem?_take] at hj
      split at hj
      · simpa [Nat.add_assoc] using hj
      · cases hj
    · cases hj

theorem readAt_sound {S : St} (hI : Inv S) {u : Value} {x : AV} (h : RV S u x) {cs : List AV} (hr : readAt S.σ x = some cs) : ∃ p, u = .pointer (some p) ∧ Rd S p cs := by
  cases h with
  | ptr h =>
    simp only [readAt, h, Option.some.injEq] at hr
    subst hr
    exact ⟨_, rfl, (hI.obj _ _ h).rd _⟩
  | rp h h1 hc =>
    simp only [readAt, Option.some.injEq] at hr
    subst hr
    exact ⟨_, rfl, _, h, h1, fun j u hj => (hc j u hj).2⟩
  | op h hv he =>
    simp only [readAt, elemCells, h, Option.map_eq_some_iff] at hr
    obtain ⟨c, hc, hd⟩ := hr
    rename_i p r ver i off fr ver0 e k xs
    cases hve : (ver == ver0) with
    | false => simp [hve] at hc
    | true =>
      simp only [hve, cond_true, Option.map_eq_some_iff] at hc
      obtain ⟨y, hy, hyc⟩ := hc
      subst hyc; subst hd
      exact ⟨_, rfl, by rw [he (by simpa using hve)]; exact (hI.obj _ _ h).rdElem hy _⟩
  | _ => simp [readAt] at hr

def aggD : TypeDesc → Bool
  | .struct _ | .array _ _ => true
  | _ => false
theorem run_isAgg {P : Program} {t : TypeId} {d : TypeDesc} (h : P.underlying t = some d) (w : World) : (isAgg t).run P w = .ok (aggD d) w := by
  cases d <;> simp [isAgg, run_underlying h, aggD]

/-- What is known of a type. -/
structure TI where
  desc : TypeDesc
  size : Nat
  bytes : Nat
  zero : Value
def tabOf (P : Program) (t : TypeId) : Option TI :=
  match P.underlying t, P.info? t with
  | some d, some i => match i.zero with
    | some z => some ⟨d, i.size, i.bytes, z⟩
    | none => none
  | _, _ => none
def TabOk (P : Program) (tab : TypeId → Option TI) : Prop := ∀ t i, tab t = some i → P.underlying t = some i.desc ∧ ∃ ti, P.info? t = some ti ∧ ti.size = i.size ∧ ti.bytes = i.bytes ∧ ti.zero = some i.zero
theorem tabOf_ok (P : Program) : TabOk P (tabOf P) := by
  intro t i h
  unfold tabOf at h
  split at h
  · rename_i d ti h1 h2
    split at h
    · rename_i z hz
      cases h
      exact ⟨h1, ti, h2, rfl, rfl, hz⟩
    · cases h
  · cases h

def loadAs (i : TI) (cs : List AV) : Option AV :=
  bif aggD i.desc then (bif Nat.ble i.size cs.length then some (.agg (cs.take i.size)) else none) else cs.head?

theorem run_load_as {P : Program} {tab : TypeId → Option TI} (hT : TabOk P tab) {t : TypeId} {i : TI} (ht : tab t = some i) {S : St} {p : Addr} {cs : List AV} (h : Rd S p cs) {x : AV} (hx : loadAs i cs = some x) :
    ∃ u, (Instr.loadAt t (.pointer (some p))).run P S.w = .ok u S.w ∧ RV S u x := by
  obtain ⟨hd, ti, hi, hs, _⟩ := hT t i ht
  obtain ⟨us, h1, h2, h3⟩ := h
  unfold loadAs at hx
  cases ha : aggD i.desc with
  | true =>
    simp only [ha, cond_true] at hx
    cases hb : Nat.ble i.size cs.length with
    | false => simp [hb] at hx
    | true =>
      simp only [hb, cond_true, Option.some.injEq] at hx
      subst hx
      have hle := Nat.le_of_ble_eq_true hb
      have hl := h1.length
      have hrun := run_loadCells_list (P := P) S.w p (us.take i.size) (fun j v hj => h3 j v (by rw [List.getElem?_take] at hj; split at hj <;> simp_all))
      have hlen : (us.take i.size).length = ti.size := by simp; omega
      rw [hlen] at hrun
      exact ⟨.agg (us.take i.size).toArray, by simp [Instr.loadAt, Instr.sureAddr, loadVar, run_isAgg hd, ha, sizeOf, typeInfo, hi, hrun], .agg (h1.take _) fun c hc => h2 c (List.mem_of_mem_take hc)⟩
  | false =>
    simp only [ha, cond_false] at hx
    cases h1 with
    | nil => simp at hx
    | cons hu hs' =>
      simp at hx; subst hx
      have hc := h3 0 _ rfl
      rw [add_zero] at hc
      exact ⟨_, by simp [Instr.loadAt, Instr.sureAddr, loadVar, run_isAgg hd, ha, hc], hu⟩

/-! ### an operation's outcome -/
def OpOk (S : St) (r : Result Next) (v : AV) (L' : List AObj) : Prop :=
  ∃ n u S', r = .ok n S'.w ∧ (n = .value u ∨ n = .skip ∧ u = undef) ∧ S'.σ = L' ∧ Inv S' ∧ Le S S' ∧ RV S' u v
theorem OpOk.pure {S : St} (hI : Inv S) {r : Result Next} {u : Value} {v : AV} (h : r = .ok (.value u) S.w) (hv : RV S u v) : OpOk S r v S.σ := ⟨_, u, S, h, .inl rfl, rfl, hI, Le.refl S, hv⟩

/-- A literal. -/
def AV.lit : Value → AV
  | .bool b => .bool b
  | .int k n => .int k n
  | .string s => .str s
  | .slice none 0 0 => .nil
  | .pointer none => .nilptr
  | .map none => .nilmap
  | _ => .any
theorem lit_rv (S : St) (v : Value) : RV S v (AV.lit v) := by
  unfold AV.lit
  split <;> constructor

theorem box_ok {S : St} (hI : Inv S) {u : Value} {x : AV} (h : RV S u x) (h1 : ∀ c ∈ x.cells, c.one = true) (t : TypeId) :
    let S' := S.push (.cells u.cells t) (.cells x.cells) 0
    Inv S' ∧ Le S S' ∧ RV S' (.pointer (some ⟨S.w.heap.size, 0, none⟩)) (.ptr S.σ.length 0) ∧ S'.σ = S.σ ++ [.cells x.cells] := by
  intro S'
  have hle : Le S S' := push_le hI ..
  refine ⟨push_inv hI ⟨u.cells, t, ?_, (h.cells h1).mono hle, h1⟩, hle, ?_, rfl⟩
  · have := heap_alloc_new S.w (.cells u.cells t)
    simpa [S', St.push] using this
  · have := RV.ptr (S := S') (r := S.σ.length) (off := 0) (cs := x.cells) (by simp [S', St.push])
    simpa [S', St.push] using this

theorem lit_cells {S : St} (z : Value) (h : ∀ c ∈ z.cells.toList.map AV.lit, c.one = true) : RVs S z.cells.toList (z.cells.toList.map AV.lit) :=
  RVs.of_get (by simp) fun j u x hu hx => by
    rw [List.getElem?_map, hu] at hx
    simp at hx; subst hx
    exact lit_rv S u

/-! ### writing -/
def putAt (cs : List AV) (off : Nat) (ys : List AV) : List AV := cs.take off ++ (ys ++ cs.drop (off + ys.length))
def mkElem (x : AV) (cs : List AV) : AV :=
  match x with
  | .agg _ => .agg cs
  | _ => cs.headD .any
def storeAt (L : List AObj) (x : AV) (ys : List AV) : Option (List AObj) :=
  match x with
  | .ptr r off => match L[r]? with
    | some (.cells cs) => bif Nat.ble (off + ys.length) cs.length then some (L.set r (.cells (putAt cs off ys))) else none
    | _ => none
  | .op r ver i off => match L[r]? with
    | some (.arr false ver0 e k xs) => bif ver == ver0 then (match xs[i]? with
      | some y => bif Nat.ble (off + ys.length) y.cells.length then some (L.set r (.arr false ver0 e k (xs.set i (mkElem y (putAt y.cells off ys))))) else none
      | none => none) else none
    | _ => none
  | _ => none

theorem take_put {α : Type} (l vs : List α) (n off : Nat) (h : off + vs.length ≤ n) (hn : n ≤ l.length) :
    (l.take off ++ vs ++ l.drop (off + vs.length)).take n = (l.take n).take off ++ vs ++ (l.take n).drop (off + vs.length) := by
  apply List.ext_getElem?
  intro j
  grind
theorem putAt_length {cs ys : List AV} {off : Nat} (h : off + ys.length ≤ cs.length) : (putAt cs off ys).length = cs.length := by
  simp [putAt]; omega
theorem RVs.putAt {S : St} {us vs : List Value} {cs ys : List AV} (h : RVs S us cs) (k : RVs S vs ys) (off : Nat) : RVs S (us.take off ++ vs ++ us.drop (off + vs.length)) (putAt cs off ys) := by
  rw [List.append_assoc]
  exact (h.take off).append (k.append (by rw [k.length]; exact h.drop _))
theorem mem_putAt {cs ys : List AV} {off : Nat} {c : AV} (h : c ∈ putAt cs off ys) : c ∈ cs ∨ c ∈ ys := by
  simp only [putAt, List.mem_append] at h
  rcases h with h | h | h
  · exact .inl (List.mem_of_mem_take h)
  · exact .inr h
  · exact .inl (List.mem_of_mem_drop h)
theorem mkElem_cells {x : AV} {cs : List AV} (h : cs.length = x.cells.length) (h1 : ∀ c ∈ cs, c.one = true) : (mkElem x cs).cells = cs := by
  have key : cs.length = 1 → (cs.headD .any).cells = cs := fun h => by
    match cs, h with
    | [c], _ =>
      have := h1 c (by simp)
      cases c <;> simp_all [AV.cells, AV.one]
  cases x <;> first
    | rfl
    | (exact key (by simpa [AV.cells] using h))
theorem flat_set {k : Nat} : ∀ {xs : List AV} (hk : ∀ x ∈ xs, x.cells.length = k) {i : Nat} {x : AV} (hx : xs[i]? = some x) {ys : List AV} {off : Nat} (ho : off + ys.length ≤ k) (h1 : ∀ c ∈ putAt x.cells off ys, c.one = true),
    (xs.set i (mkElem x (putAt x.cells off ys))).flatMap AV.cells = putAt (xs.flatMap AV.cells) (i * k + off) ys
  | [], _, i, x, h, _, _, _, _ => by simp at h
  | y :: zs, hk, 0, x, h, ys, off, ho, h1 => by
    simp at h; subst h
    have hy := hk y (by simp)
    have hl := putAt_length (cs := y.cells) (ys := ys) (off := off) (by omega)
    simp only [List.set_cons_zero, List.flatMap_cons, mkElem_cells hl h1, Nat.zero_mul, Nat.zero_add]
    simp only [putAt, List.append_assoc]
    rw [List.take_append_of_le_length (by omega), List.drop_append_of_le_length (by omega)]
  | y :: zs, hk, i + 1, x, h, ys, off, ho, h1 => by
    have hy := hk y (by simp)
    simp at h
    have ih := flat_set (xs := zs) (fun z hz => hk z (by simp [hz])) h ho h1
    simp only [List.set_cons_succ, List.flatMap_cons, ih]
    have e : (i + 1) * k + off = y.cells.length + (i * k + off) := by rw [hy, Nat.add_mul]; omega
    have e2 : y.cells.length + (i * k + off) + ys.length = y.cells.length + (i * k + off + ys.length) := by omega
    simp only [putAt, e, List.append_assoc]
    rw [e2, List.take_length_add_append, List.drop_length_add_append]
    simp

theorem run_store_as {P : Program} {tab : TypeId → Option TI} (hT : TabOk P tab) {t : TypeId} {i : TI} (ht : tab t = some i) {S : St} (hI : Inv S) {u v : Value} {x y : AV} (hx : RV S u x) (hy : RV S v y)
    (h1 : ∀ c ∈ y.cells, c.one = true) (hs : y.cells.length = i.size) {L' : List AObj} (hL : storeAt S.σ x y.cells = some L') :
    ∃ S', (Instr.storeAt t u v).run P S.w = .ok () S'.w ∧ S'.σ = L' ∧ Inv S' ∧ Le S S' := by
  obtain ⟨hd, ti, hi, hsz, _⟩ := hT t i ht
  have hv := hy.cells h1
  have hvl : v.cells.toList.length = y.cells.length := hv.length
  have hone := hv.oneCell h1
  cases hx with
  | ptr h =>
    rename_i r off cs
    simp only [storeAt, h] at hL
    cases hb : Nat.ble (off + y.cells.length) cs.length with
    | false => simp [hb] at hL
    | true =>
      simp only [hb, cond_true, Option.some.injEq] at hL
      subst hL
      have hle := Nat.le_of_ble_eq_true hb
      obtain ⟨C, t', hC, hCs, hC1⟩ := hI.obj _ _ h
      have hCl : C.size = cs.length := by simpa using hCs.length
      have hrun := run_storeCells_at P (S.ρ r) off t' v.cells.toList 0 C S.w hC (by omega) hone
      simp only [Nat.add_zero] at hrun
      let C' := (C.toList.take off ++ v.cells.toList ++ C.toList.drop (off + v.cells.toList.length)).toArray
      have hT' : Turn S (S.w.setRow (S.ρ r) C') r (.cells (putAt cs off y.cells)) (S.ρ r) (S.κ r) := {
        os := rfl
        tape := rfl
        output := rfl
        size := by simp [World.setRow]
        heap := fun c _ hc => setRow_other _ _ _ _ hc
        here := ⟨_, h, .inl rfl, by simp [ObjLe, St.upd, putAt_length hle]⟩
        place := .inl rfl
        fill := fun _ _ _ _ h' _ => by rw [h] at h'; cases h' }
      refine ⟨S.upd _ r _ _ _, ?_, rfl, upd_inv hI hT' ?_, upd_le hI hT'⟩
      · simp only [Instr.storeAt, Instr.sureAddr, Sem.run_bind, Sem.run_pure, Result.andThen_ok, storeVar, sizeOf, typeInfo, run_program, hi]
        have : v.cells.size = ti.size := by simp at hvl; omega
        simp [this, hrun, St.upd, C']
      · refine ⟨C', t', ?_, ?_, fun c hc => ?_⟩
        · simpa [St.upd] using setRow_heap S.w (S.ρ r) C C' t' (0, 0) hC
        · exact ((hCs.putAt hv off).mono (upd_le hI hT'))
        · rcases mem_putAt hc with g | g
          · exact hC1 c g
          · exact h1 c g
  | op h hv0 he =>
    rename_i p r ver i' off fr ver0 e k xs
    cases fr with
    | true => simp [storeAt, h] at hL
    | false =>
      simp only [storeAt, h] at hL
      cases hve : (ver == ver0) with
      | false => simp [hve] at hL
      | true =>
        simp only [hve, cond_true] at hL
        have hve' : ver = ver0 := by simpa using hve
        cases hx' : xs[i']? with
        | none => simp [hx'] at hL
        | some z =>
          simp only [hx'] at hL
          cases hb : Nat.ble (off + y.cells.length) z.cells.length with
          | false => simp [hb] at hL
          | true =>
            simp only [hb, cond_true, Option.some.injEq] at hL
            subst hL
            have hle := Nat.le_of_ble_eq_true hb
            obtain ⟨C, hC, hn, hm, hsz', hCs, hk, hC1, hfr, hk0⟩ := hI.obj _ _ h
            have hzk := hk z (List.mem_of_getElem? hx')
            have hp := he hve'
            have hil : i' < xs.length := (List.getElem?_eq_some_iff.1 hx').1
            have hik : i' * k + k ≤ xs.length * k := by
              have := Nat.mul_le_mul_right k (show i' + 1 ≤ xs.length by omega)
              rwa [Nat.add_mul, Nat.one_mul] at this
            have hxk : xs.length * k ≤ C.size := by rw [hsz']; exact Nat.mul_le_mul_right k hn
            have hrun := run_storeCells_at P (S.ρ r) (i' * k + off) e v.cells.toList 0 C S.w hC (by omega) hone
            simp only [Nat.add_zero] at hrun
            have hput1 : ∀ c ∈ putAt z.cells off y.cells, c.one = true := fun c hc => by
              rcases mem_putAt hc with g | g
              · exact hC1 c (List.mem_flatMap.2 ⟨z, List.mem_of_getElem? hx', g⟩)
              · exact h1 c g
            have hflat := flat_set hk hx' (ys := y.cells) (off := off) (by omega) hput1
            let C' := (C.toList.take (i' * k + off) ++ v.cells.toList ++ C.toList.drop (i' * k + off + v.cells.toList.length)).toArray
            have hT' : Turn S (S.w.setRow (S.ρ r) C') r (.arr false ver0 e k (xs.set i' (mkElem z (putAt z.cells off y.cells)))) (S.ρ r) (S.κ r) := {
              os := rfl
              tape := rfl
              output := rfl
              size := by simp [World.setRow]
              heap := fun c _ hc => setRow_other _ _ _ _ hc
              here := ⟨_, h, .inl rfl, by simp [ObjLe, St.upd]⟩
              place := .inl rfl
              fill := fun _ _ _ _ h' _ => by rw [h] at h'; cases h' }
            refine ⟨S.upd _ r _ _ _, ?_, rfl, upd_inv hI hT' ?_, upd_le hI hT'⟩
            · simp only [Instr.storeAt, Instr.sureAddr, Sem.run_bind, Sem.run_pure, Result.andThen_ok, storeVar, sizeOf, typeInfo, run_program, hi]
              have : v.cells.size = ti.size := by simp at hvl; omega
              simp [this, hp, hrun, St.upd, C']
            · refine ⟨C', by simpa [St.upd] using setRow_heap S.w (S.ρ r) C C' e (0, 0) hC, by simpa [St.upd] using hn, by simpa [St.upd] using hm, ?_, ?_, ?_, ?_, by simp, hk0⟩
              · simp [St.upd, C', hsz'] at *
                omega
              · rw [hflat, List.length_set]
                have hmono := upd_le hI hT'
                have hq := (hCs.putAt hv (i' * k + off)).mono hmono
                have : C'.toList.take (xs.length * k) = (C.toList.take (xs.length * k)).take (i' * k + off) ++ v.cells.toList ++ (C.toList.take (xs.length * k)).drop (i' * k + off + v.cells.toList.length) := by
                  exact take_put _ _ _ _ (by omega) (by simpa using hxk)
                rw [this]
                exact hq
              · intro w hw
                rcases List.mem_or_eq_of_mem_set hw with g | g
                · exact hk w g
                · subst g; rw [mkElem_cells (putAt_length hle) hput1, putAt_length hle, hzk]
              · intro c hc
                rw [hflat] at hc
                rcases mem_putAt hc with g | g
                · exact hC1 c g
                · exact h1 c g
  | _ => simp [storeAt] at hL

end Go.Vm
