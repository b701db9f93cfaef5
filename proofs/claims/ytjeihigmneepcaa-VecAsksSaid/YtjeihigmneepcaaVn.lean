/- Rules in the form in which printed walks use them. -/
import Derived.Test.YtjeihigmneepcaaVm
set_option linter.unusedVariables false
set_option linter.unusedSectionVars false
set_option linter.unusedSimpArgs false
namespace Go.Vm
variable [Glob]

/-! ### partial operations of the printed functions -/
def idx {α : Type} (xs : List α) (i : Int) : Option α := if 0 ≤ i then xs[i.toNat]? else none
def bidx (s : ByteArray) (i : Int) : Option Int := if 0 ≤ i ∧ i < s.size then some (sbyte s i.toNat) else none
def cutB (s : ByteArray) (l h : Int) : Option ByteArray := if 0 ≤ l ∧ l ≤ h ∧ h ≤ s.size then some (s.extract l.toNat h.toNat) else none
def cutL {α : Type} (xs : List α) (l h : Int) : Option (List α) := if 0 ≤ l ∧ l ≤ h ∧ h ≤ xs.length then some ((xs.take h.toNat).drop l.toNat) else none
theorem idx_enc {α : Type} {e : α → AV} {xs : List α} {i : Int} {x : α} (h : idx xs i = some x) : 0 ≤ i ∧ (xs.map e)[i.toNat]? = some (e x) := by
  unfold idx at h
  split at h
  · exact ⟨by assumption, by simp [h]⟩
  · cases h

/-! ### eventually, in the fuel -/
def Ev {α : Type} (f : Nat → Option α) (r : α) : Prop := ∃ k0, ∀ k, k0 ≤ k → f k = some r
theorem Ev.pure {α : Type} {r : α} : Ev (fun _ => some r) r := ⟨0, fun _ _ => rfl⟩
theorem Ev.of {α : Type} {f : Nat → Option α} {r : α} (h : ∀ k, f k = some r) : Ev f r := ⟨0, fun k _ => h k⟩
theorem Ev.succ {α : Type} {f : Nat → Option α} {r : α} (h : Ev (fun k => f (k + 1)) r) : Ev f r := by
  obtain ⟨k0, h⟩ := h
  refine ⟨k0 + 1, fun k hk => ?_⟩
  obtain ⟨j, rfl⟩ : ∃ j, k = j + 1 := ⟨k - 1, by omega⟩
  exact h j (by omega)
theorem Ev.bind {α β : Type} {f : Nat → Option α} {g : Nat → α → Option β} {a : α} {r : β} (h : Ev f a) (k : Ev (fun n => g n a) r) : Ev (fun n => (f n).bind (g n)) r := by
  obtain ⟨k1, h1⟩ := h
  obtain ⟨k2, h2⟩ := k
  exact ⟨max k1 k2, fun n hn => by show (f n).bind (g n) = some r; rw [h1 n (by omega)]; exact h2 n (by omega)⟩
theorem Ev.congr {α : Type} {f g : Nat → Option α} {r : α} (h : Ev g r) (e : ∀ k, f k = g k) : Ev f r := by
  obtain ⟨k0, h⟩ := h
  exact ⟨k0, fun k hk => by rw [e]; exact h k hk⟩
theorem Ev.yes {α : Type} {c : Prop} [Decidable c] {f g : Nat → Option α} {r : α} (hc : c) (h : Ev f r) : Ev (fun k => if c then f k else g k) r := by
  simpa [hc] using h
theorem Ev.no {α : Type} {c : Prop} [Decidable c] {f g : Nat → Option α} {r : α} (hc : ¬c) (h : Ev g r) : Ev (fun k => if c then f k else g k) r := by
  simpa [hc] using h
theorem Ev.get {α : Type} {f : Nat → Option α} {r : α} (h : Ev f r) : ∃ k, f k = some r := by
  obtain ⟨k, h⟩ := h
  exact ⟨k, h k (Nat.le_refl _)⟩

/-! ### the frame, cut to what is still asked -/
def pick (env : Env) (ks : List Nat) : Env := ks.map fun t => (t, aget env t)
theorem Sub.pick {L : List AObj} {env : Env} {ks : List Nat} : Sub L env (pick env ks) := by
  intro t
  unfold Vm.pick
  rw [aget_map (f := fun t => aget env t)]
  split
  · exact Weak.refl
  · exact Weak.any

section
variable {P : Program} {tab : TypeId → Option TI} {N m : Nat} {env env' : Env} {L L' : List AObj} {ops : Array Oper} {i : Nat} {Q : Pst} {c x y : Code}

theorem AW_keep (ks : List Nat) (e : pick env ks = env') (h : AW P N m c env' L Q) : AW P N m c env L Q := by
  subst e; exact AW_weak Sub.pick h

theorem Pst.seq_normal {K : Env → List AObj → Prop} (h : K env L) : Pst.seq K Q .normal env L := h
theorem Pst.seq_exit {K : Env → List AObj → Prop} {id : Nat} (h : Q (.exit id) env L) : Pst.seq K Q (.exit id) env L := h
theorem Pst.seq_ret {K : Env → List AObj → Prop} (h : Q .ret env L) : Pst.seq K Q .ret env L := h
theorem Pst.block_normal {id : Nat} (h : Q .normal env L) : Pst.block id Q .normal env L := h
theorem Pst.block_ret {id : Nat} (h : Q .ret env L) : Pst.block id Q .ret env L := h
theorem Pst.block_hit {id : Nat} (h : Q .normal env L) : Pst.block id Q (.exit id) env L := by simp [Pst.block, h]
theorem Pst.block_miss {id id' : Nat} (hne : Nat.beq id' id = false) (h : Q (.exit id') env L) : Pst.block id Q (.exit id') env L := by
  have : id' ≠ id := fun e => by subst e; rw [Nat.beq_refl] at hne; cases hne
  simp [Pst.block, this, h]

theorem AW_join (I : Env → List AObj → Prop) (hx : AW P N m x env L (.seq I Q)) (hy : ∀ env' L', I env' L' → AW P N m y env' L' Q) : AW P N m (.seq x y) env L Q :=
  AW_seq (AW_mono hx fun e env' L' h => by cases e <;> first | exact hy _ _ h | exact h)

/-! ### regions, by place -/
def opN (ops : Array Oper) (i : Nat) : Oper := match ops.toList[i]? with
  | some o => o
  | none => { dst := none, op := .move (.tmp 0), type := 0, pos := "", after := #[], guard := none }
def AR (P : Program) (N m : Nat) (ops : Array Oper) (i : Nat) (env : Env) (L : List AObj) (Q : Pst) : Prop := AWOps P N m ops (ops.toList.drop i) env L Q
theorem AW_reg {id : Nat} (h : AR P N m ops 0 env L Q) : AW P N m (.region id ops false) env L Q := AW_region h
theorem AR_end (hn : Nat.ble ops.toList.length i = true) (h : Q .normal env L) : AR P N m ops i env L Q := by
  unfold AR
  rw [List.drop_eq_nil_of_le (by simpa using hn)]
  exact AWOps_nil h
def runK (tab : TypeId → Option TI) (N : Nat) (ops : Array Oper) (i n : Nat) (ks : List Nat) (env : Env) (L : List AObj) : Option (Env × List AObj) :=
  match aops tab N ops env L ((ops.toList.drop i).take n) with
  | some (e, L') => some (pick e ks, L')
  | none => none
theorem AR_many (hT : TabOk P tab) (n : Nat) (ks : List Nat) (env' : Env) (L' : List AObj) (h : runK tab N ops i n ks env L = some (env', L')) (k : AR P N m ops (i + n) env' L' Q) : AR P N m ops i env L Q := by
  unfold runK at h
  split at h
  · rename_i e L1 h1
    injection h with h; injection h with h2 h3; subst h2; subst h3
    have k' : AWOps P N m ops ((ops.toList.drop i).drop n) e L1 Q := by
      rw [List.drop_drop]
      exact AWOps_weak Sub.pick k
    have := AWOps_many hT h1 k'
    rw [List.take_append_drop] at this
    exact this
  · cases h
def okAt (N : Nat) (ops : Array Oper) (i : Nat) (env : Env) : Bool :=
  Nat.blt i ops.toList.length && dstOk N (opN ops i).dst && (match (opN ops i).guard with
    | none => true
    | some (j, q) => match guardOf ops env j with
      | .bool q' => q' == q
      | _ => false)
theorem AR_op {v : AV} (h : okAt N ops i env = true) (J : OpJ P N env L (opN ops i) v L') (k : AR P N m ops (i + 1) (eput env (opN ops i).dst v) L' Q) : AR P N m ops i env L Q := by
  simp only [okAt, Bool.and_eq_true] at h
  obtain ⟨⟨h1, h2⟩, h3⟩ := h
  have hlt : i < ops.toList.length := by
    have : i + 1 ≤ ops.toList.length := by simpa [Nat.blt] using h1
    exact this
  have e : ops.toList.drop i = opN ops i :: ops.toList.drop (i + 1) := by
    rw [List.drop_eq_getElem_cons hlt]
    congr 1
    unfold opN
    rw [List.getElem?_eq_getElem hlt]
  unfold AR at k ⊢
  rw [e]
  cases hg : (opN ops i).guard with
  | none => exact AWOps_cons hg h2 J k
  | some jq =>
    obtain ⟨j, q⟩ := jq
    simp only [hg] at h3
    split at h3
    · rename_i q' hq
      have : q' = q := by simpa using h3
      subst this
      exact AWOps_guard_yes hg hq h2 J k
    · cases h3

/-! ### single operations -/
def callOp (o : Oper) (env : Env) : Option (FuncId × List AV) := match o.op with
  | .call c => match c.callee with
    | .value f => match aval env f with
      | .fn g first cap => some (g, first ++ c.args.toList.map (aval env) ++ cap)
      | _ => none
    | _ => none
  | _ => none
theorem OpJ_callK {o : Oper} {g : FuncId} {args : List AV} {fn : Func} {res : AV} (h : callOp o env = some (g, args)) (hg : P.funcs[g]? = some fn) (hn : (fn.name == "runtime.NumGoroutine") = false) (hb : fn.body.isNone = false)
    (hf : Fn P g args L res L') : OpJ P N env L o res L' := by
  unfold callOp at h
  split at h
  · rename_i c hop
    split at h
    · rename_i f hc
      split at h
      · rename_i g' first cap hv
        cases h
        exact OpJ_call hop hc hv hg hn hb hf
      · cases h
    · cases h
  · cases h
def indexOp (tab : TypeId → Option TI) (o : Oper) (env : Env) : Option (List AV × Int × Nat) := match o.op with
  | .indexAddr t x ix => match (tab t).map TI.desc with
    | some (.slice e) => match tab e, aval env x, aval env ix with
      | some ie, .sl xs, .int _ i => some (xs, i, ie.size)
      | _, _, _ => none
    | _ => none
  | _ => none
theorem OpJ_indexK (hT : TabOk P tab) {o : Oper} {xs : List AV} {j : Int} {y : AV} {n : Nat} (h : indexOp tab o env = some (xs, j, n)) (hy : 0 ≤ j ∧ xs[j.toNat]? = some y) (hs : Nat.beq y.cells.length n = true) : OpJ P N env L o (.rp y.cells) L := by
  unfold indexOp at h
  split at h
  · rename_i t x ix hop
    split at h
    · rename_i e hd
      split at h
      · rename_i ie xs' k i' he hx hix
        cases h
        exact OpJ_indexSl hT hop hd he hx hix hy.1 hy.2 (Nat.eq_of_beq_eq_true hs)
      · cases h
    · cases h
  · cases h
def byteOp (tab : TypeId → Option TI) (o : Oper) (env : Env) : Option (ByteArray × Int) := match o.op with
  | .index t x ix => match (tab t).map TI.desc with
    | some .string => match aval env x, aval env ix with
      | .str s, .int _ i => some (s, i)
      | _, _ => none
    | _ => none
  | _ => none
theorem OpJ_byteK (hT : TabOk P tab) {o : Oper} {s : ByteArray} {j : Int} {b : Int} (h : byteOp tab o env = some (s, j)) (hb : bidx s j = some b) : OpJ P N env L o (.int .u8 b) L := by
  unfold byteOp at h
  unfold bidx at hb
  split at hb
  · rename_i hlt
    cases hb
    split at h
    · rename_i t x ix hop
      split at h
      · rename_i hd
        split at h
        · rename_i s' k i' hx hix
          cases h
          exact OpJ_indexStr hT hop hd hx hix hlt.1 hlt.2
        · cases h
      · cases h
    · cases h
  · cases hb
def cutOp (tab : TypeId → Option TI) (o : Oper) (env : Env) : Option (AV × Int × Int × Nat) := match o.op with
  | .slice t x lo hi none => match (tab t).map TI.desc, aval env x with
    | some .string, .str s => match aidx (lo.map (aval env)) 0, aidx (hi.map (aval env)) s.size with
      | some l, some h => some (.str s, l, h, 0)
      | _, _ => none
    | some (.slice e), .sl xs => match tab e, aidx (lo.map (aval env)) 0, aidx (hi.map (aval env)) xs.length with
      | some ie, some l, some h => some (.sl xs, l, h, ie.size)
      | _, _, _ => none
    | _, _ => none
  | _ => none
theorem OpJ_cutBK (hT : TabOk P tab) {o : Oper} {s r : ByteArray} {l h : Int} (hc : cutOp tab o env = some (.str s, l, h, 0)) (hr : cutB s l h = some r) : OpJ P N env L o (.str r) L := by
  unfold cutOp at hc
  unfold cutB at hr
  split at hr
  · rename_i hlt
    cases hr
    split at hc
    · rename_i t x lo hi hop
      split at hc
      · rename_i s' hd hx
        split at hc
        · rename_i l' h' hl hh
          cases hc
          exact OpJ_sliceStr hT hop hd hx hl hh hlt.1 hlt.2.1 hlt.2.2
        · cases hc
      · split at hc <;> cases hc
      · cases hc
    · cases hc
  · cases hr
theorem OpJ_cutLK (hT : TabOk P tab) {o : Oper} {xs : List AV} {l h : Int} {n : Nat} (hc : cutOp tab o env = some (.sl xs, l, h, n)) (hlt : 0 ≤ l ∧ l ≤ h ∧ h ≤ xs.length) (hs : ∀ x ∈ xs, x.cells.length = n) :
    OpJ P N env L o (.sl ((xs.take h.toNat).drop l.toNat)) L := by
  unfold cutOp at hc
  split at hc
  · rename_i t x lo hi hop
    split at hc
    · split at hc <;> cases hc
    · rename_i e xs' hd hx
      split at hc
      · rename_i ie l' h' he hl hh
        cases hc
        exact OpJ_sliceSl hT hop hd he hx hl hh hlt.1 hlt.2.1 hlt.2.2 hs
      · cases hc
    · cases hc
  · cases hc

/-! ### calls in a bigger store -/
theorem lows_of_all {n : Nat} {xs : List AV} (h : ∀ x ∈ xs, x.low n = true) : AV.lows n xs = true := lows_iff.2 h
theorem Fn_pure {f : FuncId} {args : List AV} {res : AV} (h : Fn P f args [] res []) (ha : AV.lows 0 args = true) (hr : res.low 0 = true) : Fn P f args L res L := by
  have := Fn_frame (L := L) (ν := []) h rfl List.nodup_nil (by simp) ha rfl (Nat.le_refl _)
  rw [List.map_congr_left (g := id) (fun x hx => by rw [ren_low0 (lows_iff.1 ha x hx)]; rfl), List.map_id, ren_low0 hr] at this
  simpa [putBack] using this
theorem Fn_at {f : FuncId} {args args' : List AV} {res res' : AV} {L0 L0' L'' : List AObj} (ν : List Nat) (h : Fn P f args L0 res L0') (hν : ν.length = L0.length) (hnd : ν.Nodup)
    (hL : ∀ (i r : Nat) (o : AObj), ν[i]? = some r → L0[i]? = some o → L[r]? = some (o.ren (gname L.length ν))) (hla : AV.lows L0.length args = true) (hlo : (L0.all fun o => o.low L0.length) = true) (hlen : L0.length ≤ L0'.length)
    (ea : args.map (AV.ren (gname L.length ν)) = args') (er : res.ren (gname L.length ν) = res')
    (eL : putBack L ν ((L0'.take ν.length).map (AObj.ren (gname L.length ν))) ++ (L0'.drop ν.length).map (AObj.ren (gname L.length ν)) = L'') : Fn P f args' L res' L'' := by
  subst ea; subst er; subst eL
  exact Fn_frame h hν hnd hL hla hlo hlen

/-! ### drawn regions, by place -/
def slN (sl : List Slot) (i : Nat) : Slot := match sl[i]? with
  | some s => s
  | none => ⟨.any, [], 0, 0, false⟩
def SA (P : Program) (N : Nat) (ops : Array Oper) (sl : List Slot) (e0 : Env) (Ls : Nat → List AObj) (i : Nat) : Prop :=
  ∀ j, i ≤ j → j < ops.toList.length → SlotJ P N ops sl e0 Ls j (opN ops j) (slN sl j)
def want (ops : Array Oper) (sl : List Slot) (e0 : Env) (i : Nat) : Option Bool := match (opN ops i).guard with
  | none => some true
  | some (j, q) => match guardOf ops (envAt ops sl e0 i) j with
    | .bool q' => some (q' == q)
    | .tup [] => some false
    | _ => none
def slotRun (tab : TypeId → Option TI) (ops : Array Oper) (sl : List Slot) (e0 : Env) (Ls : Nat → List AObj) (i : Nat) : List (Option (AV × List AObj)) :=
  match want ops sl e0 i with
  | some true => (List.range' (slN sl i).lo ((slN sl i).hi + 1 - (slN sl i).lo)).map fun p => aop tab (envAt ops sl e0 i) (Ls p) (opN ops i).op
  | some false => [some ((slN sl i).v, [])]
  | none => [none]
def slotWant (ops : Array Oper) (sl : List Slot) (e0 : Env) (Ls : Nat → List AObj) (i : Nat) : List (Option (AV × List AObj)) :=
  match want ops sl e0 i with
  | some true => (List.range' (slN sl i).lo ((slN sl i).hi + 1 - (slN sl i).lo)).map fun p => some ((slN sl i).v, Ls (bif (slN sl i).eff then p + 1 else p))
  | some false => bif (slN sl i).eff then [] else [some (.tup [], [])]
  | none => []
theorem map_eq_at {α β : Type} {f g : α → β} : ∀ {l : List α}, l.map f = l.map g → ∀ x ∈ l, f x = g x
  | [], _, x, hx => by simp at hx
  | y :: l, h, x, hx => by
    simp at h hx
    rcases hx with rfl | hx
    · exact h.1
    · exact h.2 x hx
theorem slot_plain (hT : TabOk P tab) {sl : List Slot} {e0 : Env} {Ls : Nat → List AObj} (h : slotRun tab ops sl e0 Ls i = slotWant ops sl e0 Ls i) : SlotJ P N ops sl e0 Ls i (opN ops i) (slN sl i) := by
  unfold slotRun slotWant at h
  split at h
  · rename_i hw
    left
    constructor
    · intro j q hg
      unfold want at hw
      rw [hg] at hw
      simp only at hw
      split at hw
      · rename_i q' hq
        rw [hq]
        have : q' = q := by simpa using hw
        rw [this]
      · cases hw
      · cases hw
    · intro p h1 h2
      have := map_eq_at h p (by simp [List.mem_range']; exact ⟨p - (slN sl i).lo, by omega, by omega⟩)
      exact aop_sound hT this
  · rename_i hw
    right
    unfold want at hw
    split at hw
    · cases hw
    · rename_i j q hg
      split at hw
      · rename_i q' hq
        cases he : (slN sl i).eff with
        | true => rw [he] at h; cases h
        | false =>
          rw [he] at h
          simp only [cond_false, List.cons.injEq, Option.some.injEq, Prod.mk.injEq, and_true] at h
          refine ⟨h, rfl, j, q, hg, .inl ?_⟩
          rw [hq]
          cases q <;> cases q' <;> simp_all
      · rename_i hq
        cases he : (slN sl i).eff with
        | true => rw [he] at h; cases h
        | false =>
          rw [he] at h
          simp only [cond_false, List.cons.injEq, Option.some.injEq, Prod.mk.injEq, and_true] at h
          exact ⟨h, rfl, j, q, hg, .inr hq⟩
      · cases hw
  · cases h
theorem SA_end {sl : List Slot} {e0 : Env} {Ls : Nat → List AObj} (h : Nat.ble ops.toList.length i = true) : SA P N ops sl e0 Ls i := fun j h1 h2 => by
  have : ops.toList.length ≤ i := by simpa using h
  omega
theorem SA_plain (hT : TabOk P tab) {sl : List Slot} {e0 : Env} {Ls : Nat → List AObj} (n : Nat) (h : (List.range' i n).map (slotRun tab ops sl e0 Ls) = (List.range' i n).map (slotWant ops sl e0 Ls))
    (k : SA P N ops sl e0 Ls (i + n)) : SA P N ops sl e0 Ls i := fun j h1 h2 => by
  rcases Nat.lt_or_ge j (i + n) with g | g
  · exact slot_plain hT (map_eq_at h j (by simp [List.mem_range']; exact ⟨j - i, by omega, by omega⟩))
  · exact k j g h2
theorem SA_op {sl : List Slot} {e0 : Env} {Ls : Nat → List AObj} (hw : want ops sl e0 i = some true) (J : ∀ p, (slN sl i).lo ≤ p → p ≤ (slN sl i).hi → OpJ P N (envAt ops sl e0 i) (Ls p) (opN ops i) (slN sl i).v (Ls (bif (slN sl i).eff then p + 1 else p)))
    (k : SA P N ops sl e0 Ls (i + 1)) : SA P N ops sl e0 Ls i := fun j h1 h2 => by
  rcases Nat.lt_or_ge i j with g | g
  · exact k j g h2
  · have : j = i := by omega
    subst this
    refine .inl ⟨fun j' q hg => ?_, J⟩
    unfold want at hw
    rw [hg] at hw
    simp only at hw
    split at hw
    · rename_i q' hq
      rw [hq]
      have : q' = q := by simpa using hw
      rw [this]
    · cases hw
    · cases hw
theorem SlotsJ_of {sl : List Slot} {e0 : Env} {Ls : Nat → List AObj} : ∀ (l : List Oper) (r : List Slot) (n : Nat), (∀ (j : Nat) (o : Oper) (s : Slot), l[j]? = some o → r[j]? = some s → SlotJ P N ops sl e0 Ls (n + j) o s) → SlotsJ P N ops sl e0 Ls n l r
  | [], _, _, _ => by simp [SlotsJ]
  | _ :: _, [], _, _ => by simp [SlotsJ]
  | o :: l, s :: r, n, h => ⟨h 0 o s rfl rfl, SlotsJ_of l r (n + 1) fun j o' s' ho hs => by
      have := h (j + 1) o' s' (by simpa using ho) (by simpa using hs)
      rwa [show n + (j + 1) = n + 1 + j by omega] at this⟩
theorem AW_dr {id : Nat} (hm : P.follows .mixedOrders = true) (sl : List Slot) (es : List Nat) (Ls : Nat → List AObj) (ks : List Nat) (env' : Env) (ok : drawOk N ops sl es = true) (h0 : Ls 0 = L) (hL : Ls es.length = L') (he : pick (finTo ops sl env ops.toList.length) ks = env')
    (hJ : SA P N ops sl env Ls 0) (k : Q .normal env' L') : AW P N m (.region id ops true) env L Q := by
  subst h0; subst hL; subst he
  have key := AW_drawn (m := m) (id := id) (Q := fun x e l => x = .normal ∧ e = finTo ops sl env ops.size ∧ l = Ls es.length) hm ok (SlotsJ_of _ _ 0 fun j o s ho hs => by
    have hlt := (List.getElem?_eq_some_iff.1 ho).1
    have := hJ j (Nat.zero_le _) hlt
    unfold opN slN at this
    rw [ho, hs] at this
    rw [Nat.zero_add]
    exact this) ⟨rfl, rfl, rfl⟩
  intro S0 S a hm hl hσ hI hE hd
  refine wp_mono (key S0 S a hm hl hσ hI hE hd) fun e a' w' hq => ?_
  obtain ⟨x, env2, S', rfl, ⟨rfl, rfl, h3⟩, rfl, h4, h5, h6, h7⟩ := hq
  refine ⟨.normal, _, S', rfl, by rw [h3]; exact k, rfl, h4, h5, h6.weak fun t hr => Sub.pick (L := S'.σ) t S' _ rfl h4 (by simpa using hr), h7⟩
end
end Go.Vm
