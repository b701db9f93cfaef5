/- The plain operations as one function, and why it is right. -/
import Derived.Test.YtjeihigmneepcaaVd
set_option linter.unusedVariables false
set_option linter.unusedSectionVars false
set_option linter.unusedSimpArgs false
namespace Go.Vm
variable [Glob]

def apick (q : Bool) (x y : AV) : AV :=
  match x, y with
  | .bool p, .bool r => .bool (bif q then p else r)
  | x, y => bif q then x else y
theorem apick_eq (q : Bool) (x y : AV) : apick q x y = bif q then x else y := by
  unfold apick
  split <;> cases q <;> rfl
def aneg (op : UnOp) (x : AV) : Option AV :=
  match op, x with
  | .neg, .int k n => some (.int k (k.wrap (0 - n)))
  | .xor, .int k n => some (.int k (bits .xor k (if k.signed then -1 else k.max) n))
  | .not, .bool b => some (.bool (!b))
  | _, _ => none
def afield (tab : TypeId → Option TI) (t : TypeId) (f : Nat) : Option (Nat × TI) :=
  match (tab t).map TI.desc with
  | some (.struct fields) => match fields[f]? with
    | some fd => match tab fd.type with
      | some i => some (fd.offset, i)
      | none => none
    | none => none
  | _ => none
def alen (L : List AObj) : AV → Option Nat
  | .nil => some 0
  | .sl xs => some xs.length
  | .own r ver => match L[r]? with
    | some (.arr _ ver0 _ _ xs) => bif ver == ver0 then some xs.length else none
    | _ => none
  | .gr _ m => some m
  | _ => none
theorem alen_sound {S : St} {u : Value} {x : AV} (hx : RV S u x) {n : Nat} (hn : alen S.σ x = some n) : ∃ a' n' c', u = Value.slice a' n' c' ∧ n = n' := by
  cases hx with
  | nil => simp [alen] at hn; exact ⟨_, _, _, rfl, hn.symm⟩
  | sl hn' => simp [alen] at hn; exact ⟨_, _, _, rfl, by omega⟩
  | own hg hv he =>
    simp only [alen, hg] at hn
    obtain ⟨hb, hn⟩ := bif_some hn
    cases hn
    exact ⟨_, _, _, rfl, (he (by simpa using hb)).2.1.symm⟩
  | gr hg hnm he => simp [alen] at hn; exact ⟨_, _, _, rfl, by omega⟩
  | _ => simp [alen] at hn
def abuiltin (tab : TypeId → Option TI) (L : List AObj) (b : Builtin) (ts : List TypeId) (xs : List AV) : Option AV :=
  match b, ts, xs with
  | .len, [t], [x] => match (tab t).map TI.desc, x with
    | some .string, .str s => some (.int .i64 s.size)
    | some (.slice _), x => (alen L x).map fun (n : Nat) => AV.int .i64 (n : Int)
    | _, _ => none
  | .min, _, [.int k p, .int k' q] => bif decide (k = k') then some (.int k (if q < p then q else p)) else none
  | .max, _, [.int k p, .int k' q] => bif decide (k = k') then some (.int k (if q > p then q else p)) else none
  | _, _, _ => none

def aop (tab : TypeId → Option TI) (env : Env) (L : List AObj) : Op → Option (AV × List AObj)
  | .move x => some (aval env x, L)
  | .assign x => some (aval env x, L)
  | .pick c a b => match aval env c with
    | .bool q => some (apick q (aval env a) (aval env b), L)
    | _ => none
  | .alloc t => match tab t with
    | some i => bif (i.zero.cells.toList.map AV.lit).all AV.one then some (.ptr L.length 0, L ++ [.cells (i.zero.cells.toList.map AV.lit)]) else none
    | none => none
  | .box _ x => bif (aval env x).cells.all AV.one then some (.ptr L.length 0, L ++ [.cells (aval env x).cells]) else none
  | .build t parts => (abuild tab t (parts.toList.map fun p => (p.1, aval env p.2))).map fun v => (v, L)
  | .buildSlice t len parts => abuildSlice tab L t len (parts.toList.map fun p => (p.1, aval env p.2))
  | .load t a => match tab t, readAt L (aval env a) with
    | some i, some cs => (loadAs i cs).map fun v => (v, L)
    | _, _ => none
  | .store t a x => match tab t with
    | some i => bif Nat.beq (aval env x).cells.length i.size && (aval env x).cells.all AV.one then (storeAt L (aval env a) (aval env x).cells).map fun L' => (.any, L') else none
    | none => none
  | .nilCheck x => match aval env x with
    | .ptr r o => some (.ptr r o, L)
    | .rp cs => some (.rp cs, L)
    | .op r v i o => some (.op r v i o, L)
    | .gp r n i o => some (.gp r n i o, L)
    | _ => none
  | .binOp op t x y _ => (abin ((tab t).map TI.desc) L op (aval env x) (aval env y)).map fun v => (v, L)
  | .unOp op _ x => (aneg op (aval env x)).map fun v => (v, L)
  | .convert s d x => match (tab s).map TI.desc, (tab d).map TI.desc, aval env x with
    | some _, some (.int k), .int _ n => some (.int k (k.wrap n), L)
    | some _, some .string, .str s => some (.str s, L)
    | _, _, _ => none
  | .makeFunc (.func f) first cap => some (.fn f (first.toList.map (aval env)) (cap.toList.map (aval env)), L)
  | .fieldAddr t x f => match afield tab t f with
    | some (o, i) => bif Nat.ble 1 i.size then (match aval env x with
      | .ptr r off => some (.ptr r (off + o), L)
      | .rp cs => bif Nat.blt o cs.length then some (.rp (cs.drop o), L) else none
      | .op r v j off => some (.op r v j (off + o), L)
      | .gp r n j off => some (.gp r n j (off + o), L)
      | _ => none) else none
    | none => none
  | .field t x f => match afield tab t f, aval env x with
    | some (o, i), .agg cs => bif aggD i.desc then (bif Nat.ble (o + i.size) cs.length then some (.agg ((cs.drop o).take i.size), L) else none) else (cs[o]?).map fun v => (v, L)
    | _, _ => none
  | .indexAddr t x ix => match (tab t).map TI.desc, aval env x, aval env ix with
    | some (.array len e), .ptr r off, .int _ i => match tab e with
      | some ie => bif decide (0 ≤ i) && decide (i < len) then some (.ptr r (off + i.toNat * ie.size), L) else none
      | none => none
    | _, _, _ => none
  | .extract x i => match aval env x with
    | .tup vs => (vs[i]?).map fun v => (v, L)
    | _ => none
  | .call c => match c.callee with
    | .builtin b => (abuiltin tab L b c.argTypes.toList (c.args.toList.map (aval env))).map fun v => (v, L)
    | _ => none
  | _ => none

/-- What an operation does, for whoever goes on. -/
def OpJ (P : Program) (N : Nat) (env : Env) (L : List AObj) (o : Oper) (v : AV) (L' : List AObj) : Prop :=
  ∀ (S : St) (a : Act), S.σ = L → Inv S → EnvR N S a env → ∀ (K : Act → World → Prop) (Q : Exit → Act → World → Prop),
    (∀ u S', S'.σ = L' → Inv S' → Le S S' → RV S' u v → K (a.put o.dst u) S'.w) → o.wp P a S.w K Q

section
variable {P : Program} {tab : TypeId → Option TI} {N : Nat} {env : Env} {L L' : List AObj} {o : Oper} {v : AV}
/-- An operation that only tells a value. -/
theorem OpJ.tell (h : ∀ (S : St) (a : Act), S.σ = L → Inv S → EnvR N S a env → ∃ u, (execOp a.eval o).run P S.w = .ok (.value u) S.w ∧ RV S u v) : OpJ P N env L o v L := by
  intro S a hσ hI hE K Q hK
  obtain ⟨u, hr, hv⟩ := h S a hσ hI hE
  unfold Oper.wp
  rw [hr]
  exact hK u S hσ hI (Le.refl S) hv
theorem OpJ.turn (h : ∀ (S : St) (a : Act), S.σ = L → Inv S → EnvR N S a env → ∃ u S', (execOp a.eval o).run P S.w = .ok (.value u) S'.w ∧ S'.σ = L' ∧ Inv S' ∧ Le S S' ∧ RV S' u v) : OpJ P N env L o v L' := by
  intro S a hσ hI hE K Q hK
  obtain ⟨u, S', hr, h1, h2, h3, h4⟩ := h S a hσ hI hE
  unfold Oper.wp
  rw [hr]
  exact hK u S' h1 h2 h3 h4

theorem rvs_map {S : St} {a : Act} (hE : EnvR N S a env) : ∀ (l : List Operand), RVs S (l.map a.eval) (l.map (aval env))
  | [] => .nil
  | x :: l => .cons (hE.eval x) (rvs_map hE l)
theorem rvs_parts {S : St} {a : Act} (hE : EnvR N S a env) : ∀ (l : List (Nat × Operand)), RVs S ((l.map fun p => (p.1, a.eval p.2)).map (·.2)) ((l.map fun p => (p.1, aval env p.2)).map (·.2))
  | [] => .nil
  | x :: l => .cons (hE.eval x.2) (rvs_parts hE l)

theorem run_fieldAt {P : Program} (hT : TabOk P tab) {t : TypeId} {f : Nat} {o : Nat} {i : TI} (h : afield tab t f = some (o, i)) (hs : 1 ≤ i.size) (p : Addr) (w : World) :
    (Instr.fieldAt t (.pointer (some p)) f).run P w = .ok (.pointer (some (p.add o))) w := by
  unfold afield at h
  split at h
  · rename_i fields hd
    split at h
    · rename_i fd hf
      split at h
      · rename_i i' hi
        cases h
        cases ht : tab t with
        | none => simp [ht] at hd
        | some it =>
          simp [ht] at hd
          obtain ⟨h1, _⟩ := hT t it ht
          obtain ⟨_, ti, g1, g2, _⟩ := hT _ _ hi
          rw [hd] at h1
          have : ¬ ti.size = 0 := by omega
          simp [Instr.fieldAt, run_underlying h1, hf, Instr.sureAddr, fieldPlace, sizeOf, typeInfo, g1, this]
      · cases h
    · cases h
  · cases h

theorem RV.addOff {S : St} {p : Addr} {cs : List AV} (h : RV S (.pointer (some p)) (.rp cs)) {o : Nat} (ho : o < cs.length) : RV S (.pointer (some (p.add o))) (.rp (cs.drop o)) := by
  cases h with
  | rp h h1 hc =>
    rename_i us
    have hl := h.length
    have hsp : p.spot = none := by
      obtain ⟨u0, hu0⟩ : ∃ u0, us[0]? = some u0 := ⟨us[0]'(by omega), by simp⟩
      have := spot_of_cell (hc 0 u0 hu0).2
      simpa [add_zero] using this
    refine .rp (h.drop o) (fun y hy => h1 y (List.mem_of_mem_drop hy)) fun j u hj => ?_
    rw [add_add p o j hsp]
    exact hc (o + j) u (by simpa using hj)

theorem run_eqGuard {S : St} {d : Option TypeDesc} {op : BinOp} {t : TypeId} {x y : Operand} {u1 u2 : Value} {x1 y1 v' : AV} (hx : RV S u1 x1) (hy : RV S u2 y1) (h : abin d S.σ op x1 y1 = some v') {w : World} :
    (eqGuard op t x y u1 u2).run P w = .ok () w := by
  unfold eqGuard
  have : ¬ (∃ a, u1 = .agg a) ∧ ¬ (u1 = .nilIface) := by
    constructor
    · rintro ⟨a, rfl⟩
      cases hx <;> (unfold abin at h; split at h <;> simp_all)
    · rintro rfl
      cases hx
      unfold abin at h; split at h <;> simp_all
  split <;> first
    | rfl
    | (split <;> simp_all)

theorem aop_sound (hT : TabOk P tab) (h : aop tab env L o.op = some (v, L')) : OpJ P N env L o v L' := by
  cases hop : o.op <;> rw [hop] at h <;> simp only [aop] at h <;> try (cases h; done)
  case move x => cases h; exact .tell fun S a hσ hI hE => ⟨_, by simp [execOp, hop], hE.eval x⟩
  case assign x => cases h; exact .tell fun S a hσ hI hE => ⟨_, by simp [execOp, hop], hE.eval x⟩
  case pick c x y =>
    split at h
    · rename_i q hq
      cases h
      refine .tell fun S a hσ hI hE => ?_
      have hc := hE.eval c
      rw [hq] at hc
      generalize hu : a.eval c = u at hc
      cases hc
      refine ⟨_, by simp [execOp, hop, hu, asBool] <;> rfl, ?_⟩
      have hx := hE.eval x
      have hy := hE.eval y
      rw [apick_eq]
      cases q <;> simpa
    · cases h
  case alloc t =>
    split at h
    · rename_i i hi
      obtain ⟨hb, h⟩ := bif_some h
      cases h
      refine .turn fun S a hσ hI hE => ?_
      obtain ⟨_, ti, h1, _, _, h4⟩ := hT t i hi
      have hz1 : ∀ c ∈ i.zero.cells.toList.map AV.lit, c.one = true := fun c hc => by
        simp only [List.all_eq_true] at hb
        exact hb c hc
      have hr := lit_cells (S := S) i.zero hz1
      have hle : Le S (S.push (.cells i.zero.cells t) (.cells (i.zero.cells.toList.map AV.lit)) 0) := push_le hI ..
      refine ⟨.pointer (some ⟨S.w.heap.size, 0, none⟩), S.push (.cells i.zero.cells t) (.cells (i.zero.cells.toList.map AV.lit)) 0, ?_, ?_, push_inv hI ⟨i.zero.cells, t, ?_, hr.mono hle, hz1⟩, hle, ?_⟩
      · simp [execOp, hop, Instr.alloc, zeroValue, typeInfo, h1, h4, newVar, newRow, St.push]
      · simp [St.push, hσ]
      · have := heap_alloc_new S.w (.cells i.zero.cells t)
        simpa [St.push] using this
      · have := RV.ptr (S := S.push (.cells i.zero.cells t) (.cells (i.zero.cells.toList.map AV.lit)) 0) (r := S.σ.length) (off := 0) (cs := i.zero.cells.toList.map AV.lit) (by simp [St.push])
        simpa [St.push, hσ] using this
    · cases h
  case box t x =>
    obtain ⟨hb, h⟩ := bif_some h
    cases h
    refine .turn fun S a hσ hI hE => ?_
    have h1 : ∀ c ∈ (aval env x).cells, c.one = true := by simpa using hb
    obtain ⟨g1, g2, g3, g4⟩ := box_ok hI (hE.eval x) h1 t
    exact ⟨.pointer (some ⟨S.w.heap.size, 0, none⟩), _, by simp [execOp, hop, Instr.box, newVar, newRow, St.push], by rw [g4, hσ], g1, g2, by rw [← hσ]; exact g3⟩
  case build t parts =>
    simp only [Option.map_eq_some_iff] at h
    obtain ⟨v', hv', h⟩ := h
    cases h
    refine .tell fun S a hσ hI hE => ?_
    obtain ⟨u, hu, hr⟩ := abuild_sound (P := P) (S := S) hT (cparts := parts.toList.map fun p => (p.1, a.eval p.2)) (by simp) (rvs_parts hE parts.toList) hv'
    have := run_build (P := P) S.w t (parts.map fun p => (p.1, a.eval p.2)) u (by simpa using hu)
    exact ⟨_, by simp only [execOp, hop, Sem.run_bind, this, Result.andThen_ok]; rfl, hr⟩
  case buildSlice t len parts =>
    refine .turn fun S a hσ hI hE => ?_
    subst hσ
    obtain ⟨u, S', g1, g2, g3, g4, g5⟩ := abuildSlice_sound (P := P) hT hI (cparts := parts.map fun p => (p.1, a.eval p.2)) (by simp) (by simpa using rvs_parts hE parts.toList) h
    exact ⟨u, S', by simp only [execOp, hop, Sem.run_bind, g1, Result.andThen_ok]; rfl, g2, g3, g4, g5⟩
  case load t x =>
    split at h
    · rename_i i cs hi hcs
      simp only [Option.map_eq_some_iff] at h
      obtain ⟨v', hv', h⟩ := h
      cases h
      refine .tell fun S a hσ hI hE => ?_
      subst hσ
      obtain ⟨p, hp, hrd⟩ := readAt_sound hI (hE.eval x) hcs
      obtain ⟨u, hu, hr⟩ := run_load_as hT hi hrd hv'
      exact ⟨u, by simp only [execOp, hop, hp, Sem.run_bind, hu, Result.andThen_ok]; rfl, hr⟩
    · cases h
  case store t x y =>
    split at h
    · rename_i i hi
      obtain ⟨hb, h⟩ := bif_some h
      simp only [Option.map_eq_some_iff] at h
      obtain ⟨L1, hL, h⟩ := h
      cases h
      simp only [Bool.and_eq_true] at hb
      intro S a hσ hI hE K Q hK
      subst hσ
      obtain ⟨S', g1, g2, g3, g4⟩ := run_store_as hT hi hI (hE.eval x) (hE.eval y) (by simpa using hb.2) (Nat.eq_of_beq_eq_true hb.1) hL
      have hr : (execOp a.eval o).run P S.w = .ok .skip S'.w := by simp only [execOp, hop, Sem.run_bind, g1, Result.andThen_ok]; rfl
      unfold Oper.wp
      rw [hr]
      exact hK undef S' g2 g3 g4 (.any _)
    · cases h
  case nilCheck x =>
    split at h <;> try (cases h; done)
    all_goals
      rename_i hx
      cases h
      refine .tell fun S a hσ hI hE => ?_
      have hv := hE.eval x
      rw [hx] at hv
      generalize hu : a.eval x = u at hv
      cases hv
      exact ⟨_, by simp [execOp, hop, hu] <;> rfl, by first | (exact .ptr (by assumption)) | (exact .rp (by assumption) (by assumption) (by assumption)) | (exact .op (by assumption) (by assumption) (by assumption)) | (exact .gp (by assumption) (by assumption) (by assumption))⟩
  case binOp op t x y yt =>
    simp only [Option.map_eq_some_iff] at h
    obtain ⟨v', hv', h⟩ := h
    cases h
    refine .tell fun S a hσ hI hE => ?_
    subst hσ
    obtain ⟨u, hu, hr⟩ := run_abin (P := P) (w := S.w) hI (t := t) (fun d' hd => by
      simp only [Option.map_eq_some_iff] at hd
      obtain ⟨i, hi, rfl⟩ := hd
      exact (hT t i hi).1) (hE.eval x) (hE.eval y) hv'
    have hg : (eqGuard op t x y (a.eval x) (a.eval y)).run P S.w = .ok () S.w := by
      have hx := hE.eval x
      have hy := hE.eval y
      exact run_eqGuard hx hy hv'
    exact ⟨u, by simp only [execOp, hop, Sem.run_bind, hg, hu, Result.andThen_ok]; rfl, hr⟩
  case unOp op t x =>
    simp only [Option.map_eq_some_iff] at h
    obtain ⟨v', hv', h⟩ := h
    cases h
    refine .tell fun S a hσ hI hE => ?_
    have hx := hE.eval x
    generalize hu : a.eval x = u at hx
    generalize aval env x = x1 at hx hv'
    unfold aneg at hv'
    split at hv' <;> cases hv' <;> cases hx
    · exact ⟨_, by simp only [execOp, hop, hu, Op.unary, Op.intArith, Sem.run_bind, Sem.run_pure, Result.andThen_ok], .int _ _⟩
    · exact ⟨_, by simp only [execOp, hop, hu, Op.unary, Op.intBits, bits, Sem.run_bind, Sem.run_pure, Result.andThen_ok], .int _ _⟩
    · exact ⟨_, by simp only [execOp, hop, hu, Op.unary, Sem.run_bind, Sem.run_pure, Result.andThen_ok], .bool _⟩
  case convert s d x =>
    split at h <;> try (cases h; done)
    · rename_i ds k k' n hs hd hx
      cases h
      refine .tell fun S a hσ hI hE => ?_
      have hv := hE.eval x
      rw [hx] at hv
      generalize hu : a.eval x = u at hv
      cases hv
      simp only [Option.map_eq_some_iff] at hs hd
      obtain ⟨is, his, hs⟩ := hs
      obtain ⟨id, hid, hd⟩ := hd
      have g1 := (hT s is his).1
      have g2 := (hT d id hid).1
      rw [hd] at g2
      exact ⟨_, by simp [execOp, hop, hu, convert, run_underlying g1, run_underlying g2, Conv.intToInt], .int _ _⟩
    · rename_i ds b hs hd hx
      cases h
      refine .tell fun S a hσ hI hE => ?_
      have hv := hE.eval x
      rw [hx] at hv
      generalize hu : a.eval x = u at hv
      cases hv
      simp only [Option.map_eq_some_iff] at hs hd
      obtain ⟨is, his, hs⟩ := hs
      obtain ⟨id, hid, hd⟩ := hd
      have g1 := (hT s is his).1
      have g2 := (hT d id hid).1
      rw [hd] at g2
      exact ⟨_, by simp [execOp, hop, hu, convert, run_underlying g1, run_underlying g2], .str _⟩
  case makeFunc fn first cap =>
    cases fn <;> simp only [aop] at h <;> try (cases h; done)
    cases h
    refine .tell fun S a hσ hI hE => ?_
    refine ⟨_, by simp only [execOp, hop, Instr.makeFunc, Sem.run_bind, Sem.run_pure, Result.andThen_ok]; rfl, ?_⟩
    rename_i f
    have := RV.fn (f := f) (rvs_map hE first.toList) (rvs_map hE cap.toList) (S := S)
    have e : ∀ l : Array Operand, (l.toList.map a.eval).toArray = l.map a.eval := fun l => by apply Array.ext'; simp
    rw [e, e] at this
    exact this
  case fieldAddr t x f =>
    split at h
    · rename_i o' i hf
      obtain ⟨hb, h⟩ := bif_some h
      have hs := Nat.le_of_ble_eq_true hb
      split at h <;> try (cases h; done)
      · rename_i r off hx
        cases h
        refine .tell fun S a hσ hI hE => ?_
        have hv := hE.eval x
        rw [hx] at hv
        generalize hu : a.eval x = u at hv
        cases hv with
        | ptr hg =>
          refine ⟨_, by simp only [execOp, hop, hu, Sem.run_bind, run_fieldAt hT hf hs, Result.andThen_ok]; rfl, ?_⟩
          rw [add_lit]
          exact .ptr hg
      · rename_i cs hx
        obtain ⟨hb2, h⟩ := bif_some h
        cases h
        refine .tell fun S a hσ hI hE => ?_
        have hv := hE.eval x
        rw [hx] at hv
        generalize hu : a.eval x = u at hv
        cases hv with
        | rp h1 h2 h3 =>
          refine ⟨_, by simp only [execOp, hop, hu, Sem.run_bind, run_fieldAt hT hf hs, Result.andThen_ok]; rfl, ?_⟩
          exact (RV.rp h1 h2 h3).addOff (by simp [Nat.blt] at hb2; omega)
      · rename_i r ver j off hx
        cases h
        refine .tell fun S a hσ hI hE => ?_
        have hv := hE.eval x
        rw [hx] at hv
        generalize hu : a.eval x = u at hv
        cases hv with
        | op hg h2 h3 =>
          refine ⟨_, by simp only [execOp, hop, hu, Sem.run_bind, run_fieldAt hT hf hs, Result.andThen_ok]; rfl, ?_⟩
          refine .op hg h2 fun e => ?_
          rw [h3 e, add_lit, Nat.add_assoc]
      · rename_i r n j off hx
        cases h
        refine .tell fun S a hσ hI hE => ?_
        have hv := hE.eval x
        rw [hx] at hv
        generalize hu : a.eval x = u at hv
        cases hv with
        | gp hg h2 h3 =>
          refine ⟨_, by simp only [execOp, hop, hu, Sem.run_bind, run_fieldAt hT hf hs, Result.andThen_ok]; rfl, ?_⟩
          refine .gp hg h2 fun mu e k xs eo => ?_
          obtain ⟨h4, h5⟩ := h3 mu e k xs eo
          refine ⟨h4, fun e => ?_⟩
          rw [h5 e, add_lit, Nat.add_assoc]
    · cases h
  case field t x f =>
    split at h <;> try (cases h; done)
    rename_i o' i cs hf hx
    unfold afield at hf
    split at hf <;> try (cases hf; done)
    rename_i fields hd
    split at hf <;> try (cases hf; done)
    rename_i fd hfd
    split at hf <;> try (cases hf; done)
    rename_i i' hi
    cases hf
    cases ht : tab t with
    | none => simp [ht] at hd
    | some it =>
      simp [ht] at hd
      obtain ⟨h1, _⟩ := hT t it ht
      obtain ⟨h2, ti, g1, g2, _⟩ := hT _ _ hi
      rw [hd] at h1
      have key : ∀ (S : St) (a : Act), S.σ = L → Inv S → EnvR N S a env → ∃ us, a.eval x = .agg us.toArray ∧ RVs S us cs ∧ (∀ c ∈ cs, c.one = true) := fun S a hσ hI hE => by
        have hv := hE.eval x
        rw [hx] at hv
        generalize hu : a.eval x = u at hv
        cases hv with
        | agg hr h1 => exact ⟨_, rfl, hr, h1⟩
      cases ha : aggD i.desc with
      | true =>
        simp only [ha, cond_true] at h
        obtain ⟨hb, h⟩ := bif_some h
        cases h
        refine .tell fun S a hσ hI hE => ?_
        obtain ⟨us, hu, hr, hone⟩ := key S a hσ hI hE
        refine ⟨.agg ((us.drop fd.offset).take i.size).toArray, ?_, .agg ((hr.drop _).take _) fun c hc => hone c (List.mem_of_mem_drop (List.mem_of_mem_take hc))⟩
        simp [execOp, hop, hu, Instr.field, run_underlying h1, hfd, asAgg, part, run_isAgg h2, ha, sizeOf, typeInfo, g1, g2, List.extract_eq_take_drop]
      | false =>
        simp only [ha, cond_false, Option.map_eq_some_iff] at h
        obtain ⟨v', hv', h⟩ := h
        cases h
        refine .tell fun S a hσ hI hE => ?_
        obtain ⟨us, hu, hr, hone⟩ := key S a hσ hI hE
        obtain ⟨u', hu', hr'⟩ := hr.get hv'
        exact ⟨u', by simp [execOp, hop, hu, Instr.field, run_underlying h1, hfd, asAgg, part, run_isAgg h2, ha, hu'], hr'⟩
  case indexAddr t x ix =>
    split at h <;> try (cases h; done)
    rename_i len e r off k i hd hx hix
    split at h <;> try (cases h; done)
    rename_i ie he
    obtain ⟨hb, h⟩ := bif_some h
    cases h
    simp only [Bool.and_eq_true, decide_eq_true_eq] at hb
    cases ht : tab t with
    | none => simp [ht] at hd
    | some it =>
      simp [ht] at hd
      obtain ⟨h1, _⟩ := hT t it ht
      obtain ⟨_, ti, g1, g2, _⟩ := hT _ _ he
      rw [hd] at h1
      refine .tell fun S a hσ hI hE => ?_
      have hv := hE.eval x
      have hvi := hE.eval ix
      rw [hx] at hv
      rw [hix] at hvi
      generalize hu : a.eval x = u at hv
      generalize hui : a.eval ix = ui at hvi
      cases hvi
      cases hv with
      | ptr hg =>
        refine ⟨.pointer (some ⟨S.ρ r, off + i.toNat * ie.size, none⟩), ?_, .ptr hg⟩
        simp [execOp, hop, hu, hui, Instr.indexAt, asIntOf, run_underlying h1, Instr.sureAddr, hb, sizeOf, typeInfo, g1, g2, add_lit]
  case extract x i =>
    split at h <;> try (cases h; done)
    rename_i vs hx
    simp only [Option.map_eq_some_iff] at h
    obtain ⟨v', hv', h⟩ := h
    cases h
    refine .tell fun S a hσ hI hE => ?_
    have hv := hE.eval x
    rw [hx] at hv
    generalize hu : a.eval x = u at hv
    cases hv with
    | tup hr =>
      obtain ⟨u', hu', hr'⟩ := hr.get hv'
      exact ⟨u', by simp [execOp, hop, hu, Instr.extract, hu'], hr'⟩
  case call c =>
    split at h <;> try (cases h; done)
    rename_i b hb
    simp only [Option.map_eq_some_iff] at h
    obtain ⟨v', hv', h⟩ := h
    cases h
    refine .tell fun S a hσ hI hE => ?_
    subst hσ
    have hrs := rvs_map hE c.args.toList
    generalize hxs : c.args.toList.map (aval env) = xs at hv' hrs
    have hus : c.args.map a.eval = (c.args.toList.map a.eval).toArray := by
      apply Array.ext'
      simp
    generalize hl : c.args.toList.map a.eval = us at hrs hus
    have hts : c.argTypes = c.argTypes.toList.toArray := (Array.toArray_toList ..).symm
    generalize c.argTypes.toList = ts at hv' hts
    have hrun : (execOp a.eval o).run P S.w = (builtin b c.argTypes o.type (c.args.map fun | .const _ => true | _ => false) us.toArray).run P S.w := by
      simp only [execOp, hop, resolve, hb, hus, Sem.run_bind, Sem.run_pure, Result.andThen_ok, invoke]
      rfl
    rw [hrun, hts]
    unfold abuiltin at hv'
    split at hv' <;> try (cases hv'; done)
    · rename_i t x
      cases hrs with
      | cons hx hnil =>
        cases hnil
        split at hv' <;> try (cases hv'; done)
        · rename_i s hd
          cases hv'
          cases hx
          cases ht : tab t with
          | none => simp [ht] at hd
          | some it =>
            simp [ht] at hd
            have h1 := (hT t it ht).1
            rw [hd] at h1
            exact ⟨_, by simp only [builtin, Builtin.len_]; simp [run_underlying h1, goInt] <;> rfl, .int _ _⟩
        · rename_i e x' hd
          simp only [Option.map_eq_some_iff] at hv'
          obtain ⟨n, hn, rfl⟩ := hv'
          cases ht : tab t with
          | none => simp [ht] at hd
          | some it =>
            simp [ht] at hd
            have h1 := (hT t it ht).1
            rw [hd] at h1
            obtain ⟨a', n', c', rfl, rfl⟩ := alen_sound hx hn
            exact ⟨_, by simp only [builtin, Builtin.len_]; simp [run_underlying h1, goInt] <;> rfl, .int _ _⟩
    · obtain ⟨hk, hv'⟩ := bif_some hv'
      cases hv'
      cases hrs with
      | cons hx hr => cases hr with
        | cons hy hr => cases hr; cases hx; cases hy; exact ⟨_, by simp only [builtin, Sem.run_bind, List.toArray, run_min_int2, Result.andThen_ok]; rfl, .int _ _⟩
    · obtain ⟨hk, hv'⟩ := bif_some hv'
      cases hv'
      cases hrs with
      | cons hx hr => cases hr with
        | cons hy hr => cases hr; cases hx; cases hy; exact ⟨_, by simp only [builtin, Sem.run_bind, List.toArray, run_max_int2, Result.andThen_ok]; rfl, .int _ _⟩
end
end Go.Vm
