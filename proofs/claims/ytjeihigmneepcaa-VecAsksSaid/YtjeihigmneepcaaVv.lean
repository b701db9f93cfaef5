/- Maps; shifts and divisions by any number; texts of bytes. -/
import Derived.Test.YtjeihigmneepcaaVu
set_option linter.unusedVariables false
set_option linter.unusedSectionVars false
set_option linter.unusedSimpArgs false
namespace Go.Vm
variable [Glob]

def mE {K V : Type} (ek : K → AV) (ev : V → AV) (xs : List (K × V)) : List (AV × AV) := xs.map fun p => (ek p.1, ev p.2)
def getM {K V : Type} (q : K → K → Bool) (xs : List (K × V)) (k : K) : Option V := (xs.find? fun p => q k p.1).map (·.2)
def putM {K V : Type} (q : K → K → Bool) (xs : List (K × V)) (k : K) (v : V) : List (K × V) := match xs.findIdx? (fun p => q k p.1) with
  | some i => xs.set i (k, v)
  | none => xs ++ [(k, v)]
theorem mE_get {K V : Type} {ek : K → AV} {ev : V → AV} {xs : List (K × V)} {j : Nat} {p : K × V} (h : xs[j]? = some p) : (mE ek ev xs)[j]? = some (ek p.1, ev p.2) := by simp [mE, h]
theorem getM_idx {K V : Type} {q : K → K → Bool} {xs : List (K × V)} {k : K} {i : Nat} {p : K × V} (hp : xs[i]? = some p) (hq : q k p.1 = true) (hlt : ∀ j, j < i → ∀ p', xs[j]? = some p' → q k p'.1 = false) : getM q xs k = some p.2 := by
  induction xs generalizing i with
  | nil => simp at hp
  | cons x xs ih =>
    unfold getM
    cases i with
    | zero => simp at hp; subst hp; simp [hq]
    | succ i =>
      have h0 := hlt 0 (by omega) x rfl
      have := ih (i := i) (by simpa using hp) fun j hj p' hp' => hlt (j + 1) (by omega) p' (by simpa using hp')
      unfold getM at this
      simpa [h0] using this
theorem getM_none {K V : Type} {q : K → K → Bool} {xs : List (K × V)} {k : K} (h : ∀ p ∈ xs, q k p.1 = false) : getM q xs k = none := by
  unfold getM
  rw [List.find?_eq_none.2 fun p hp => by simp [h p hp]]
  rfl

theorem aeqD_comm (d : TypeDesc) (x y : AV) : aeqD d x y = aeqD d y x := by
  cases d <;> cases x <;> cases y <;> simp only [aeqD]
  case int.int.int =>
    rename_i kd k a k' b
    by_cases h : k = k'
    · subst h
      have : (a == b) = (b == a) := BEq.comm
      simp [this]
    · simp [h, Ne.symm h]
  all_goals exact congrArg some BEq.comm
theorem aeqF_comm {tab : TypeId → Option TI} : ∀ (fs : List Field) (xs ys : List AV), aeqF tab fs xs ys = aeqF tab fs ys xs
  | [], [], [] => rfl
  | [], [], _ :: _ => rfl
  | [], _ :: _, [] => rfl
  | [], _ :: _, _ :: _ => rfl
  | _ :: _, [], [] => rfl
  | _ :: _, [], _ :: _ => rfl
  | _ :: _, _ :: _, [] => rfl
  | f :: fs, x :: xs, y :: ys => by
    simp only [aeqF, aeqF_comm fs xs ys]
    cases (tab f.type).map TI.desc with
    | none => rfl
    | some d => simp only [aeqD_comm d x y]
theorem eqT_comm {tab : TypeId → Option TI} {t : TypeId} (x y : AV) : eqT tab t x y = eqT tab t y x := by
  unfold eqT
  split
  · cases x <;> cases y <;> first | rfl | exact aeqF_comm _ _ _
  · exact aeqD_comm _ _ _
  · rfl

@[simp] theorem low_mE {K V : Type} {ek : K → AV} {ev : V → AV} {n : Nat} (hk : ∀ x, (ek x).low n = true) (hv : ∀ x, (ev x).low n = true) (xs : List (K × V)) : ((mE ek ev xs).all fun p => p.1.low n && p.2.low n) = true := by
  simp [mE, hk, hv]
@[simp] theorem ren_mE {K V : Type} {ek : K → AV} {ev : V → AV} {g : Nat → Nat} (hk : ∀ x, (ek x).ren g = ek x) (hv : ∀ x, (ev x).ren g = ev x) (xs : List (K × V)) : (mE ek ev xs).map (fun p => (p.1.ren g, p.2.ren g)) = mE ek ev xs := by
  simp [mE, hk, hv]
section
variable {P : Program} {tab : TypeId → Option TI} {N : Nat} {env : Env} {L L' : List AObj} {o : Oper} {v : AV} {w : World}

theorem find_asking (hT : TabOk P tab) {S : St} {K V : Type} {ek : K → AV} {ev : V → AV} {q : K → K → Bool} {kt : TypeId} (hf : flatT P tab kt = true) (hq : ∀ x y, eqT tab kt (ek x) (ek y) = some (q x y)) {key : K} {u : Value} (hu : RV S u (ek key)) :
    ∀ (es : List MapEntry) (xs : List (K × V)) (i : Nat), es.length = xs.length → (∀ (j : Nat) (e : MapEntry) (p : K × V), es[j]? = some e → xs[j]? = some p → RV S e.key (ek p.1) ∧ RV S e.val (ev p.2)) →
    ((Instr.findAsking kt u es i).run P w = .ok none w ∧ ∀ p ∈ xs, q key p.1 = false) ∨
    ∃ j e p, (Instr.findAsking kt u es i).run P w = .ok (some (i + j, e.val)) w ∧ es[j]? = some e ∧ xs[j]? = some p ∧ q key p.1 = true ∧ ∀ j', j' < j → ∀ p', xs[j']? = some p' → q key p'.1 = false
  | [], [], i, _, _ => .inl ⟨by simp [Instr.findAsking], by simp⟩
  | [], _ :: _, _, h, _ => by simp at h
  | _ :: _, [], _, h, _ => by simp at h
  | e :: es, p :: xs, i, hl, h => by
    obtain ⟨h1, h2⟩ := h 0 e p rfl rfl
    obtain ⟨r1, _⟩ := equal_sound (w := w) hT hf (hq key p.1) hu h1 9998
    have r1' : (Op.equal kt u e.key).run P w = .ok (q key p.1) w := r1
    cases hb : q key p.1 with
    | true =>
      rw [hb] at r1'
      refine .inr ⟨0, e, p, by simp [Instr.findAsking, r1'], rfl, rfl, hb, fun j' hj' => by omega⟩
    | false =>
      rw [hb] at r1'
      rcases find_asking hT hf hq hu es xs (i + 1) (by simpa using hl) (fun j e' p' he hp => h (j + 1) e' p' (by simpa using he) (by simpa using hp)) with ⟨a1, a2⟩ | ⟨j, e', p', a1, a2, a3, a4, a5⟩
      · refine .inl ⟨by simp [Instr.findAsking, r1', a1], fun p' hp' => ?_⟩
        simp only [List.mem_cons] at hp'
        rcases hp' with rfl | hp'
        · exact hb
        · exact a2 p' hp'
      · refine .inr ⟨j + 1, e', p', by simp [Instr.findAsking, r1', a1]; omega, by simpa using a2, by simpa using a3, a4, fun j' hj' p'' hp'' => ?_⟩
        cases j' with
        | zero => simp at hp''; subst hp''; exact hb
        | succ j' => exact a5 j' (by omega) p'' (by simpa using hp'')
theorem sameNow_eq {S : St} {d : TypeDesc} {u1 u2 : Value} {x y : AV} {b : Bool} (h : aeqD d x y = some b) (hx : RV S u1 x) (hy : RV S u2 y) : Instr.sameNow d u1 u2 = some b := by
  unfold aeqD at h
  split at h
  · rename_i k0 k a k' b'
    cases hk : decide (k = k') <;> simp only [hk, cond_true, cond_false] at h
    · cases h
    have := of_decide_eq_true hk
    subst this
    cases h
    cases hx; cases hy
    simp [Instr.sameNow]
  · cases h; cases hx; cases hy; simp [Instr.sameNow, beq_toListBytes]
  · cases h; cases hx; cases hy; simp [Instr.sameNow]
  · cases h
theorem find_now {S : St} {K V : Type} {ek : K → AV} {ev : V → AV} {q : K → K → Bool} {d : TypeDesc} (hq : ∀ x y, aeqD d (ek x) (ek y) = some (q x y)) {key : K} {u : Value} (hu : RV S u (ek key)) :
    ∀ (es : List MapEntry) (xs : List (K × V)) (i : Nat), es.length = xs.length → (∀ (j : Nat) (e : MapEntry) (p : K × V), es[j]? = some e → xs[j]? = some p → RV S e.key (ek p.1) ∧ RV S e.val (ev p.2)) →
    (Instr.findNow d u es i = some none ∧ ∀ p ∈ xs, q key p.1 = false) ∨
    ∃ j e p, Instr.findNow d u es i = some (some (i + j, e.val)) ∧ es[j]? = some e ∧ xs[j]? = some p ∧ q key p.1 = true ∧ ∀ j', j' < j → ∀ p', xs[j']? = some p' → q key p'.1 = false
  | [], [], i, _, _ => .inl ⟨by simp [Instr.findNow], by simp⟩
  | [], _ :: _, _, h, _ => by simp at h
  | _ :: _, [], _, h, _ => by simp at h
  | e :: es, p :: xs, i, hl, h => by
    obtain ⟨h1, h2⟩ := h 0 e p rfl rfl
    have r1 := sameNow_eq (hq key p.1) hu h1
    cases hb : q key p.1 with
    | true =>
      rw [hb] at r1
      exact .inr ⟨0, e, p, by simp [Instr.findNow, r1], rfl, rfl, hb, fun j' hj' => by omega⟩
    | false =>
      rw [hb] at r1
      rcases find_now hq hu es xs (i + 1) (by simpa using hl) (fun j e' p' he hp => h (j + 1) e' p' (by simpa using he) (by simpa using hp)) with ⟨a1, a2⟩ | ⟨j, e', p', a1, a2, a3, a4, a5⟩
      · refine .inl ⟨by simp [Instr.findNow, r1, a1], fun p' hp' => ?_⟩
        simp only [List.mem_cons] at hp'
        rcases hp' with rfl | hp'
        · exact hb
        · exact a2 p' hp'
      · refine .inr ⟨j + 1, e', p', by simp [Instr.findNow, r1, a1]; omega, by simpa using a2, by simpa using a3, a4, fun j' hj' p'' hp'' => ?_⟩
        cases j' with
        | zero => simp at hp''; subst hp''; exact hb
        | succ j' => exact a5 j' (by omega) p'' (by simpa using hp'')
theorem findNow_struct {fs : Array Field} {u : Value} (e : MapEntry) (es : List MapEntry) (i : Nat) : Instr.findNow (.struct fs) u (e :: es) i = none := by
  simp [Instr.findNow, Instr.sameNow]
theorem find_key (hT : TabOk P tab) {S : St} {K V : Type} {ek : K → AV} {ev : V → AV} {q : K → K → Bool} {kt : TypeId} (hf : flatT P tab kt = true) (hq : ∀ x y, eqT tab kt (ek x) (ek y) = some (q x y)) {key : K} {u : Value} (hu : RV S u (ek key))
    (es : List MapEntry) (xs : List (K × V)) (hl : es.length = xs.length) (h : ∀ (j : Nat) (e : MapEntry) (p : K × V), es[j]? = some e → xs[j]? = some p → RV S e.key (ek p.1) ∧ RV S e.val (ev p.2)) :
    ((Instr.findKey kt u es).run P w = .ok none w ∧ ∀ p ∈ xs, q key p.1 = false) ∨
    ∃ j e p, (Instr.findKey kt u es).run P w = .ok (some (j, e.val)) w ∧ es[j]? = some e ∧ xs[j]? = some p ∧ q key p.1 = true ∧ ∀ j', j' < j → ∀ p', xs[j']? = some p' → q key p'.1 = false := by
  cases hd : (tab kt).map TI.desc with
  | none => simp [flatT, hd] at hf
  | some d =>
    have ht := tab_desc hT hd
    by_cases hs : ∃ fs, d = .struct fs
    · obtain ⟨fs, rfl⟩ := hs
      have ask := find_asking (w := w) hT hf hq hu es xs 0 hl h
      cases es with
      | nil =>
        cases xs with
        | nil => exact .inl ⟨by simp [Instr.findKey, run_underlying ht, Instr.findNow], by simp⟩
        | cons _ _ => simp at hl
      | cons e es =>
        have e0 : ∀ r, (Instr.findAsking kt u (e :: es)).run P w = r → (Instr.findKey kt u (e :: es)).run P w = r := fun r hr => by
          simp [Instr.findKey, run_underlying ht, findNow_struct, hr]
        rcases ask with ⟨a1, a2⟩ | ⟨j, e', p', a1, a2, a3, a4, a5⟩
        · exact .inl ⟨e0 _ a1, a2⟩
        · exact .inr ⟨j, e', p', by rw [e0 _ a1]; simp, a2, a3, a4, a5⟩
    · have hq' : ∀ x y, aeqD d (ek x) (ek y) = some (q x y) := fun x y => by
        have := hq x y
        unfold eqT at this
        rw [hd] at this
        split at this
        · rename_i fs e; cases e; exact absurd ⟨_, rfl⟩ hs
        · rename_i d' _ e; cases e; exact this
        · rename_i e; cases e
      rcases find_now hq' hu es xs 0 hl h with ⟨a1, a2⟩ | ⟨j, e', p', a1, a2, a3, a4, a5⟩
      · exact .inl ⟨by simp [Instr.findKey, run_underlying ht, a1], a2⟩
      · exact .inr ⟨j, e', p', by simp [Instr.findKey, run_underlying ht, a1], a2, a3, a4, a5⟩

/-! ### operations on maps -/
theorem getO {r : Nat} {es : Array MapEntry} {clock : Nat} (hb : w.heap[r]? = some (.map es clock)) : (getObj r).run P w = .ok (.map es clock) w := by simp [getObj, Sem.run, hb]
theorem setO {r : Nat} {es : Array MapEntry} {clock : Nat} (o : Obj) (hb : w.heap[r]? = some (.map es clock)) : (setObj r o).run P w = .ok () { w with heap := w.heap.setIfInBounds r o } := by simp [setObj, Sem.run, hb]
theorem OpJ_makeMap {t : TypeId} (n : Nat) (es : List (AV × AV)) (hop : o.op = .makeMap t none) (hn : L.length = n) (he : es = []) : OpJ P N env L o (.map n) (L ++ [.map es]) := by
  subst he
  refine .turn fun S a hσ hI hE => ?_
  subst hσ
  have hle : Le S (S.push (.map #[] 0) (.map []) 0) := push_le hI ..
  have hh := heap_alloc_new S.w (.map #[] 0)
  refine ⟨.map (some S.w.heap.size), S.push (.map #[] 0) (.map []) 0, ?_, rfl, push_inv hI ⟨#[], 0, by simpa [St.push] using hh, rfl, by simp⟩, hle, ?_⟩
  · simp [execOp, hop, Instr.makeMap, St.push]
  · have := RV.map (S := S.push (.map #[] 0) (.map []) 0) (r := S.σ.length) (es := []) (by simp [St.push])
    simpa [St.push, hn] using this
def lookOp (tab : TypeId → Option TI) (o : Oper) (env : Env) : Option (TypeId × TypeId × AV × AV × Bool) := match o.op with
  | .lookup t x ix ok => match (tab t).map TI.desc with
    | some (.map kt et) => some (kt, et, aval env x, aval env ix, ok)
    | _ => none
  | _ => none
theorem OpJ_lookE (hT : TabOk P tab) {K V : Type} (ek : K → AV) (ev : V → AV) (q : K → K → Bool) {kt et : TypeId} {r : Nat} {ok : Bool} (xs : List (K × V)) (key : K) (z : V) (hf : flatT P tab kt = true) (hq : ∀ x y, eqT tab kt (ek x) (ek y) = some (q x y))
    (hz : ((tab et).map fun i => AV.lit i.zero) = some (ev z)) (h : lookOp tab o env = some (kt, et, .map r, ek key, ok)) (hL : L[r]? = some (.map (mE ek ev xs))) :
    OpJ P N env L o (bif ok then .tup [ev ((getM q xs key).getD z), .bool (getM q xs key).isSome] else ev ((getM q xs key).getD z)) L := by
  unfold lookOp at h
  split at h
  · rename_i t x ix ok' hop
    split at h
    · rename_i kt' et' hd
      injection h with h; injection h with e1 h; injection h with e2 h; injection h with e3 h; injection h with e4 e5
      subst e1; subst e2; subst e5
      refine .tell fun S a hσ hI hE => ?_
      subst hσ
      have hv := hE.eval x
      have hk := hE.eval ix
      rw [e3] at hv
      rw [e4] at hk
      generalize hux : a.eval x = ux at hv
      generalize huk : a.eval ix = uk at hk
      obtain ⟨E, clock, m1, m2, m3⟩ := hI.obj r _ hL
      have ht := tab_desc hT hd
      cases hv with
      | map hg =>
        have hent : ∀ (j : Nat) (e : MapEntry) (p : K × V), E.toList[j]? = some e → xs[j]? = some p → RV S e.key (ek p.1) ∧ RV S e.val (ev p.2) := fun j e p he hp =>
          m3 j e _ (by simpa using he) (mE_get hp)
        have hlen : E.toList.length = xs.length := by simp [m2, mE]
        have hck := check_sound (w := S.w) hT hf (hq key key) hk E.isEmpty 9998
        cases hti : tab et' with
        | none => simp [hti] at hz
        | some ie =>
          simp [hti] at hz
          obtain ⟨_, tie, g1, _, _, g4⟩ := hT et' ie hti
          have hzr : RV S ie.zero (ev z) := by rw [← hz]; exact lit_rv S _
          rcases find_key (w := S.w) hT hf hq hk E.toList xs hlen hent with ⟨a1, a2⟩ | ⟨j, e, p, a1, a2, a3, a4, a5⟩
          · have hg0 := getM_none (q := q) (k := key) a2
            cases ok' with
            | true => exact ⟨.tuple #[ie.zero, .bool false], by simp [execOp, hop, hux, huk, Instr.lookup, run_underlying ht, getO m1, hck, a1, zeroValue, typeInfo, g1, g4], by simpa [hg0] using RV.tup (us := [_, _]) (.cons hzr (.single (.bool false)))⟩
            | false => exact ⟨ie.zero, by simp [execOp, hop, hux, huk, Instr.lookup, run_underlying ht, getO m1, hck, a1, zeroValue, typeInfo, g1, g4], by simpa [hg0] using hzr⟩
          · have hg0 := getM_idx a3 a4 a5
            have hr := (hent j e p a2 a3).2
            cases ok' with
            | true => exact ⟨.tuple #[e.val, .bool true], by simp [execOp, hop, hux, huk, Instr.lookup, run_underlying ht, getO m1, hck, a1], by simpa [hg0] using RV.tup (us := [_, _]) (.cons hr (.single (.bool true)))⟩
            | false => exact ⟨e.val, by simp [execOp, hop, hux, huk, Instr.lookup, run_underlying ht, getO m1, hck, a1], by simpa [hg0] using hr⟩
    · cases h
  · cases h
def mupOp (tab : TypeId → Option TI) (o : Oper) (env : Env) : Option (TypeId × AV × AV × AV) := match o.op with
  | .mapUpdate t x k v => match (tab t).map TI.desc with
    | some (.map kt et) => some (kt, aval env x, aval env k, aval env v)
    | _ => none
  | _ => none
theorem findIdx_some {K V : Type} {q : K → K → Bool} {xs : List (K × V)} {k : K} {i : Nat} {p : K × V} (hp : xs[i]? = some p) (hq : q k p.1 = true) (hlt : ∀ j, j < i → ∀ p', xs[j]? = some p' → q k p'.1 = false) : xs.findIdx? (fun p => q k p.1) = some i := by
  rw [List.findIdx?_eq_some_iff_getElem]
  have hi := (List.getElem?_eq_some_iff.1 hp).1
  have e := (List.getElem?_eq_some_iff.1 hp).2
  refine ⟨hi, by rw [e]; exact hq, fun j hj => ?_⟩
  rw [hlt j hj _ (List.getElem?_eq_getElem (by omega))]
  simp
theorem Turn_map {S : St} {r : Nat} {es es' : List (AV × AV)} {E : Array MapEntry} {clock : Nat} (h : S.σ[r]? = some (.map es)) (hm : S.w.heap[S.ρ r]? = some (.map E clock)) (o' : Obj) :
    Turn S { S.w with heap := S.w.heap.setIfInBounds (S.ρ r) o' } r (.map es') (S.ρ r) (S.κ r) where
  os := rfl
  tape := rfl
  output := rfl
  size := by simp
  heap c _ hc := by simp [Ne.symm hc]
  here := ⟨_, h, .inl rfl, by simp [ObjLe, St.upd]⟩
  place := .inl rfl
  fill := fun _ _ _ _ h' _ => by rw [h] at h'; cases h'
theorem OpJ_mupE (hT : TabOk P tab) {K V : Type} (ek : K → AV) (ev : V → AV) (q : K → K → Bool) {kt : TypeId} {r : Nat} (xs : List (K × V)) (key : K) (val : V) (L' : List AObj) (hf : flatT P tab kt = true) (hq : ∀ x y, eqT tab kt (ek x) (ek y) = some (q x y))
    (h : mupOp tab o env = some (kt, .map r, ek key, ev val)) (hL : L[r]? = some (.map (mE ek ev xs))) (hL' : L.set r (.map (mE ek ev (putM q xs key val))) = L') : OpJ P N env L o .any L' := by
  subst hL'
  unfold mupOp at h
  split at h
  · rename_i t x kx vx hop
    split at h
    · rename_i kt' et' hd
      injection h with h; injection h with e1 h; injection h with e2 h; injection h with e3 e4
      subst e1
      intro S a hσ hI hE Kk Q hK
      subst hσ
      have hv := hE.eval x
      have hk := hE.eval kx
      have hw := hE.eval vx
      rw [e2] at hv
      rw [e3] at hk
      rw [e4] at hw
      generalize hux : a.eval x = ux at hv
      generalize huk : a.eval kx = uk at hk
      generalize huw : a.eval vx = uw at hw
      obtain ⟨E, clock, m1, m2, m3⟩ := hI.obj r _ hL
      have ht := tab_desc hT hd
      cases hv with
      | map hg =>
        have hent : ∀ (j : Nat) (e : MapEntry) (p : K × V), E.toList[j]? = some e → xs[j]? = some p → RV S e.key (ek p.1) ∧ RV S e.val (ev p.2) := fun j e p he hp =>
          m3 j e _ (by simpa using he) (mE_get hp)
        have hlen : E.toList.length = xs.length := by simp [m2, mE]
        have hsz : E.size = xs.length := by simpa using hlen
        have hck := check_sound (w := S.w) hT hf (hq key key) hk false 9998
        have fin : ∀ (E' : Array MapEntry) (clock' : Nat), (execOp a.eval o).run P S.w = .ok .skip { S.w with heap := S.w.heap.setIfInBounds (S.ρ r) (.map E' clock') } → E'.size = (putM q xs key val).length →
            (∀ (j : Nat) (e : MapEntry) (p : K × V), E'[j]? = some e → (putM q xs key val)[j]? = some p → RV S e.key (ek p.1) ∧ RV S e.val (ev p.2)) → o.wp P a S.w Kk Q := fun E' clock' hrun hs he => by
          have hT' := Turn_map (es' := mE ek ev (putM q xs key val)) hL m1 (.map E' clock')
          have hle := upd_le hI hT'
          have hlt := (Array.getElem?_eq_some_iff.1 m1).1
          unfold Oper.wp
          rw [hrun]
          refine hK undef (S.upd _ r _ _ _) rfl (upd_inv hI hT' ⟨E', clock', by simp [St.upd, hlt], by simp [mE, hs], fun j e p hej hp => ?_⟩) hle (.any _)
          simp only [mE, List.getElem?_map, Option.map_eq_some_iff] at hp
          obtain ⟨p', hp', rfl⟩ := hp
          obtain ⟨g1, g2⟩ := he j e p' hej hp'
          exact ⟨g1.mono hle, g2.mono hle⟩
        rcases find_key (w := S.w) hT hf hq hk E.toList xs hlen hent with ⟨a1, a2⟩ | ⟨j, e, p, a1, a2, a3, a4, a5⟩
        · have hput : putM q xs key val = xs ++ [(key, val)] := by
            unfold putM
            rw [List.findIdx?_eq_none_iff.2 fun p hp => by simp [a2 p hp]]
          refine fin (E.push { key := uk, val := uw, born := clock }) (clock + 1) ?_ (by rw [hput]; simp [hsz]) fun j e p hej hp => ?_
          · simp [execOp, hop, hux, huk, huw, Instr.mapUpdate, run_underlying ht, getO m1, hck, a1, setO _ m1]
          · rw [hput] at hp
            rcases Nat.lt_or_ge j xs.length with g | g
            · rw [List.getElem?_append_left g] at hp
              rw [Array.getElem?_push, if_neg (by omega)] at hej
              exact hent j e p (by simpa using hej) hp
            · rw [List.getElem?_append_right g] at hp
              have hj : j = xs.length := by
                have := (List.getElem?_eq_some_iff.1 hp).1
                simp at this; omega
              subst hj
              simp at hp
              subst hp
              rw [Array.getElem?_push, if_pos hsz.symm] at hej
              injection hej with hej
              subst hej
              exact ⟨hk, hw⟩
        · have hput : putM q xs key val = xs.set j (key, val) := by
            unfold putM
            rw [findIdx_some a3 a4 a5]
          have hold := (hent j e p a2 a3).1
          obtain ⟨_, hsame⟩ := equal_sound (w := S.w) hT hf (hq key p.1) hk hold 0
          obtain ⟨_, hsame2⟩ := equal_sound (w := S.w) hT hf (hq p.1 key) hold hk 0
          have hqs : q p.1 key = true := by
            have h1 := hq key p.1
            have h2 := hq p.1 key
            rw [eqT_comm] at h2
            rw [h1] at h2
            injection h2 with h2
            rw [← h2]; exact a4
          have hst := hsame2 hqs 9999
          have hej : E[j]? = some e := by simpa using a2
          refine fin (E.modify j fun e => { e with key := uk, val := uw }) clock ?_ (by rw [hput]; simp [hsz]) fun j' e' p' hej' hp => ?_
          · simp [execOp, hop, hux, huk, huw, Instr.mapUpdate, run_underlying ht, getO m1, hck, a1, setO _ m1, hej, Instr.keyThatStays, hst]
          · rw [hput] at hp
            rw [Array.getElem?_modify] at hej'
            by_cases hjj : j = j'
            · subst hjj
              rw [if_pos rfl, hej] at hej'
              simp at hej'
              subst hej'
              rw [List.getElem?_set_self (by have := (List.getElem?_eq_some_iff.1 a3).1; exact this)] at hp
              injection hp with hp
              subst hp
              exact ⟨hk, hw⟩
            · rw [if_neg hjj] at hej'
              rw [List.getElem?_set_ne hjj] at hp
              exact hent j' e' p' (by simpa using hej') hp
    · cases h
  · cases h
end
end Go.Vm
