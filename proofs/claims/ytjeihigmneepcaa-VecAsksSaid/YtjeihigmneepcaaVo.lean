/- What is left at the end of a piece of code; and further rules for printed walks. -/
import Derived.Test.YtjeihigmneepcaaVn
set_option linter.unusedVariables false
set_option linter.unusedSectionVars false
set_option linter.unusedSimpArgs false
namespace Go.Vm
variable [Glob]

/-- The end of a piece of code: this way out, this frame, this store. -/
def AE (P : Program) (N m : Nat) (x : Ex) (env : Env) (L : List AObj) (Q : Pst) : Prop :=
  ∀ (S0 S : St) (a : Act), S0.σ.length ≤ m → Le S0 S → S.σ = L → Inv S → EnvR N S a env → a.defers = [] →
    ∃ env' S', Q x env' S'.σ ∧ S'.w = S.w ∧ Inv S' ∧ Le S0 S' ∧ EnvR N S' a env' ∧ a.defers = []

section
variable {P : Program} {tab : TypeId → Option TI} {N m : Nat} {env env' : Env} {L L' : List AObj} {ops : Array Oper} {i : Nat} {Q : Pst} {c y : Code} {x : Ex} {id : Nat}
theorem AE.lift (h : AE P N m x env L Q) {S0 S : St} {a : Act} (hm : S0.σ.length ≤ m) (hl : Le S0 S) (hσ : S.σ = L) (hI : Inv S) (hE : EnvR N S a env) (hd : a.defers = []) : lift N S0 Q x.out a S.w := by
  obtain ⟨env', S', h1, h2, h3, h4, h5, h6⟩ := h S0 S a hm hl hσ hI hE hd
  exact ⟨x, env', S', rfl, h1, h2, h3, h4, h5, h6⟩
theorem AE_done (h : Q x env L) : AE P N m x env L Q := fun S0 S a hm hl hσ hI hE hd => ⟨env, S, by rw [hσ]; exact h, rfl, hI, hl, hE, hd⟩
theorem AE_imp {Q' : Pst} {x' : Ex} (h : AE P N m x env L Q) (k : ∀ e l, Q x e l → Q' x' e l) : AE P N m x' env L Q' := fun S0 S a hm hl hσ hI hE hd => by
  obtain ⟨env', S', h1, h2⟩ := h S0 S a hm hl hσ hI hE hd
  exact ⟨env', S', k _ _ h1, h2⟩
theorem AE_seqN {y : Code} {Q' : Pst} (h : AW P N m y env L Q') : AE P N m .normal env L (.seq (fun e l => AW P N m y e l Q') Q) := AE_done h
theorem AE_seqX {K : Env → List AObj → Prop} (h : AE P N m (.exit id) env L Q) : AE P N m (.exit id) env L (.seq K Q) := AE_imp h fun _ _ h => h
theorem AE_seqR {K : Env → List AObj → Prop} (h : AE P N m .ret env L Q) : AE P N m .ret env L (.seq K Q) := AE_imp h fun _ _ h => h
theorem AE_blkN (h : AE P N m .normal env L Q) : AE P N m .normal env L (.block id Q) := AE_imp h fun _ _ h => h
theorem AE_blkR (h : AE P N m .ret env L Q) : AE P N m .ret env L (.block id Q) := AE_imp h fun _ _ h => h
theorem AE_blkH (h : AE P N m .normal env L Q) : AE P N m (.exit id) env L (.block id Q) := AE_imp h fun _ _ h => Pst.block_hit h
theorem AE_blkX {id' : Nat} (hne : Nat.beq id' id = false) (h : AE P N m (.exit id') env L Q) : AE P N m (.exit id') env L (.block id Q) := AE_imp h fun _ _ h => Pst.block_miss hne h
theorem AE_weak (hs : Sub L env env') (h : AE P N m x env' L Q) : AE P N m x env L Q := fun S0 S a hm hl hσ hI hE hd => h S0 S a hm hl hσ hI (hE.weak fun t hr => hs t S _ hσ hI hr) hd
theorem AE_keep (ks : List Nat) (e : pick env ks = env') (h : AE P N m x env' L Q) : AE P N m x env L Q := by subst e; exact AE_weak Sub.pick h
theorem AE_drop (n : Nat) (hn : Nat.ble m n = true) (he : ∀ t, (aget env t).low n = true) (hb : ((L.take n).all fun o => o.low n) = true) (e : L.take n = L') (h : AE P N m x env L' Q) : AE P N m x env L Q := by
  subst e
  intro S0 S a hm hl hσ hI hE hd
  have hn := Nat.le_of_ble_eq_true hn
  refine h S0 (S.forget n) a hm (forget_le hI hl (by omega)) (by simp [St.forget, hσ]) (forget_inv hI fun o ho => ?_) ⟨hE.size, fun t => (hE.get t).forget hI (he t)⟩ hd
  rw [hσ] at ho
  exact List.all_eq_true.1 hb o ho
theorem AE_skip (h : AE P N m .normal env L Q) : AW P N m .skip env L Q := fun S0 S a hm hl hσ hI hE hd => wp_skip (h.lift hm hl hσ hI hE hd)
theorem AE_exit (h : AE P N m (.exit id) env L Q) : AW P N m (.exit id) env L Q := fun S0 S a hm hl hσ hI hE hd => wp_exit (h.lift hm hl hσ hI hE hd)
theorem AE_ret (h : AE P N m .ret env L Q) : AW P N m .ret env L Q := fun S0 S a hm hl hσ hI hE hd => wp_ret (h.lift hm hl hσ hI hE hd)
theorem AR_fin (hn : Nat.ble ops.toList.length i = true) (h : AE P N m .normal env L Q) : AR P N m ops i env L Q := by
  unfold AR
  rw [List.drop_eq_nil_of_le (by simpa using hn)]
  intro S0 S a hm hl hσ hI hE hd
  exact h.lift hm hl hσ hI hE hd
theorem AW_drx {id : Nat} (hm : P.follows .mixedOrders = true) (sl : List Slot) (es : List Nat) (Ls : Nat → List AObj) (ks : List Nat) (env' : Env) (L' : List AObj) (ok : drawOk N ops sl es = true) (h0 : Ls 0 = L) (hL : Ls es.length = L') (he : pick (finTo ops sl env ops.toList.length) ks = env')
    (hJ : SA P N ops sl env Ls 0) (k : AE P N m .normal env' L' Q) : AW P N m (.region id ops true) env L Q := by
  have key := AW_dr (m := m) (id := id) (Q := fun x e l => x = .normal ∧ e = env' ∧ l = L') hm sl es Ls ks env' ok h0 hL he hJ ⟨rfl, rfl, rfl⟩
  intro S0 S a hm hl hσ hI hE hd
  refine wp_mono (key S0 S a hm hl hσ hI hE hd) fun e a' w' hq => ?_
  obtain ⟨x, env2, S', rfl, ⟨rfl, rfl, h3⟩, rfl, h4, h5, h6, h7⟩ := hq
  exact k.lift hm h5 h3 h4 h6 h7

/-! ### conditions that are decided -/
theorem AW_if {o : Operand} {y z : Code} (b : Bool) {q : Bool} (hc : aval env o = .bool q) (hq : q = b) (h : AW P N m (bif b then y else z) env L Q) : AW P N m (.cond o y z) env L Q := by
  subst hq
  refine AW_cond hc (fun e => ?_) fun e => ?_ <;> (subst e; exact h)
theorem OpJ_boolK (hT : TabOk P tab) {o : Oper} {q b : Bool} (h : aop tab env L o.op = some (.bool q, L)) (hq : q = b) : OpJ P N env L o (.bool b) L := by
  subst hq; exact aop_sound hT h

/-! ### what is weaker -/
def Weaks (L : List AObj) : List AV → List AV → Prop
  | [], [] => True
  | x :: xs, y :: ys => Weak L x y ∧ Weaks L xs ys
  | _, _ => False
theorem Weaks.rvs {S : St} (hσ : S.σ = L) (hI : Inv S) : ∀ {xs ys : List AV}, Weaks L xs ys → ∀ {us : List Value}, RVs S us xs → RVs S us ys
  | [], [], _, us, h => h
  | [], _ :: _, h, _, _ => h.elim
  | _ :: _, [], h, _, _ => h.elim
  | x :: xs, y :: ys, h, us, hr => by
    cases hr with
    | cons h1 h2 => exact .cons (h.1 S _ hσ hI h1) (Weaks.rvs hσ hI h.2 h2)
theorem Weak.aggs {xs ys : List AV} (h : Weaks L xs ys) (h1 : ys.all AV.one = true) : Weak L (.agg xs) (.agg ys) := by
  intro S u hσ hI hr
  cases hr with
  | agg hrs _ => exact .agg (h.rvs hσ hI hrs) (by simpa using h1)
theorem Weak.rps {xs ys : List AV} (h : Weaks L xs ys) (h1 : ys.all AV.one = true) : Weak L (.rp xs) (.rp ys) := by
  intro S u hσ hI hr
  cases hr with
  | rp hrs _ hc => exact .rp (h.rvs hσ hI hrs) (by simpa using h1) hc
theorem Weak.eq {x y : AV} (h : x = y) : Weak L x y := by subst h; exact Weak.refl
theorem Fn_args {f : FuncId} {args args' : List AV} {res : AV} (h : Fn P f args' L res L') (hw : Weaks L args args') : Fn P f args L res L' :=
  fun S hσ hI us hus => h S hσ hI us (hw.rvs hσ hI hus)

/-! ### a slice that is built and written no more -/
theorem OpJ_frozen {o : Oper} {ver : Nat} {fr : Bool} {e : TypeId} {k : Nat} {xs : List AV} (h : OpJ P N env L o (.own L.length ver) (L ++ [.arr fr ver e k xs])) (hl : AV.lows L.length xs = true) (hb : (L.all fun o => o.low L.length) = true) :
    OpJ P N env L o (.sl xs) L := by
  intro S a hσ hI hE K Q hK
  refine h S a hσ hI hE K Q fun u S' h1 h2 h3 h4 => ?_
  have hg : S'.σ[L.length]? = some (.arr fr ver e k xs) := by rw [h1]; simp
  obtain ⟨g1, g2⟩ := freeze_ok h2 hg
  have hw := Weak.own (L := S'.σ.set L.length (.arr true ver e k xs)) (r := L.length) (ver := ver) (e := e) (k := k) (xs := xs) (by
    rw [List.getElem?_set_self]
    rw [h1]; simp)
  have hu := hw { S' with σ := S'.σ.set L.length (.arr true ver e k xs) } u rfl g1 (h4.mono g2)
  have hσ' : (({ S' with σ := S'.σ.set L.length (.arr true ver e k xs) } : St).forget L.length).σ = L := by
    simp [St.forget, h1, List.set_append]
  refine hK u (({ S' with σ := S'.σ.set L.length (.arr true ver e k xs) } : St).forget L.length) hσ' (forget_inv g1 fun o ho => ?_) (forget_le g1 (h3.trans g2) (by rw [hσ]; exact Nat.le_refl _)) (hu.forget g1 (by simpa [AV.low] using hl))
  have hσ2 : ({ S' with σ := S'.σ.set L.length (.arr true ver e k xs) } : St).σ.take L.length = L := hσ'
  rw [hσ2] at ho
  exact List.all_eq_true.1 hb o ho
theorem OpJ_builtK (hT : TabOk P tab) {o : Oper} {e : TypeId} {k : Nat} {xs : List AV} (n : Nat) (h : aop tab env L o.op = some (.own n 0, L ++ [.arr false 0 e k xs])) (hn : L.length = n) (hl : AV.lows n xs = true) (hb : (L.all fun o => o.low n) = true) :
    OpJ P N env L o (.sl xs) L := by
  subst hn
  exact OpJ_frozen (aop_sound hT h) hl hb
theorem AW_ifT {o : Operand} {y z : Code} {q : Bool} (hc : aval env o = .bool q) (hq : q = true) (h : AW P N m y env L Q) : AW P N m (.cond o y z) env L Q :=
  AW_cond hc (fun _ => h) fun e => by rw [hq] at e; cases e
theorem AW_ifF {o : Operand} {y z : Code} {q : Bool} (hc : aval env o = .bool q) (hq : q = false) (h : AW P N m z env L Q) : AW P N m (.cond o y z) env L Q :=
  AW_cond hc (fun e => by rw [hq] at e; cases e) fun _ => h
theorem OpJ_cast {o : Oper} {v v' : AV} (h : OpJ P N env L o v L') (e : v = v') : OpJ P N env L o v' L' := by subst e; exact h
theorem OpJ_after {o : Oper} {v v' : AV} (h : OpJ P N env L o v L') (w : Weak L' v v') : OpJ P N env L o v' L' := fun S a hσ hI hE K Q hK =>
  h S a hσ hI hE K Q fun u S' h1 h2 h3 h4 => hK u S' h1 h2 h3 (w S' u h1 h2 h4)
theorem SA_tell {sl : List Slot} {e0 : Env} {Ls : Nat → List AObj} {v : AV} (hw : want ops sl e0 i = some true) (hv : (slN sl i).v = v) (he : (slN sl i).eff = false) (J : ∀ L, OpJ P N (envAt ops sl e0 i) L (opN ops i) v L)
    (k : SA P N ops sl e0 Ls (i + 1)) : SA P N ops sl e0 Ls i := SA_op hw (fun p _ _ => by rw [hv, he]; exact J _) k
theorem SA_at {sl : List Slot} {e0 : Env} {Ls : Nat → List AObj} {v : AV} {Lp Lq : List AObj} (p : Nat) (hw : want ops sl e0 i = some true) (hv : (slN sl i).v = v) (hlo : (slN sl i).lo = p) (hhi : (slN sl i).hi = p) (hp : Ls p = Lp) (hq : Ls (bif (slN sl i).eff then p + 1 else p) = Lq)
    (J : OpJ P N (envAt ops sl e0 i) Lp (opN ops i) v Lq) (k : SA P N ops sl e0 Ls (i + 1)) : SA P N ops sl e0 Ls i := SA_op hw (fun p' h1 h2 => by
  have : p' = p := by omega
  subst this
  rw [hv, hp, hq]; exact J) k
theorem lows_append {n : Nat} : ∀ {xs ys : List AV}, AV.lows n (xs ++ ys) = (AV.lows n xs && AV.lows n ys)
  | [], ys => by simp [AV.lows]
  | x :: xs, ys => by simp [AV.lows, lows_append (xs := xs), Bool.and_assoc]
theorem lows_cells {n : Nat} {x : AV} (h : x.low n = true) : AV.lows n x.cells = true := lows_iff.2 fun c hc => low_cells h c hc
def FrameOk (L : List AObj) (g : Nat → Nat) : List AObj → List Nat → Prop
  | o :: L0, r :: ν => L[r]? = some (o.ren g) ∧ FrameOk L g L0 ν
  | _, _ => True
theorem FrameOk.get {g : Nat → Nat} : ∀ {L0 : List AObj} {ν : List Nat}, FrameOk L g L0 ν → ∀ (i r : Nat) (o : AObj), ν[i]? = some r → L0[i]? = some o → L[r]? = some (o.ren g)
  | [], _, _, i, r, o, _, h => by simp at h
  | _ :: _, [], _, i, r, o, h, _ => by simp at h
  | o' :: L0, r' :: ν, h, 0, r, o, h1, h2 => by simp at h1 h2; subst h1; subst h2; exact h.1
  | o' :: L0, r' :: ν, h, i + 1, r, o, h1, h2 => FrameOk.get h.2 i r o (by simpa using h1) (by simpa using h2)
theorem Fn_in {f : FuncId} {args args' : List AV} {res res' : AV} {L0 L0' L'' : List AObj} (ν : List Nat) (h : Fn P f args L0 res L0') (hν : ν.length = L0.length) (hnd : ν.Nodup)
    (hL : FrameOk L (gname L.length ν) L0 ν) (hla : AV.lows L0.length args = true) (hlo : (L0.all fun o => o.low L0.length) = true) (hlen : Nat.ble L0.length L0'.length = true)
    (ea : args.map (AV.ren (gname L.length ν)) = args') (er : res.ren (gname L.length ν) = res')
    (eL : putBack L ν ((L0'.take ν.length).map (AObj.ren (gname L.length ν))) ++ (L0'.drop ν.length).map (AObj.ren (gname L.length ν)) = L'') : Fn P f args' L res' L'' :=
  Fn_at ν h hν hnd hL.get hla hlo (Nat.le_of_ble_eq_true hlen) ea er eL
theorem Fn_bodyK (hT : TabOk P tab) {f : FuncId} {fn : Func} {c : Code} {args : List AV} {res : AV} (hf : P.funcs[f]? = some fn) (hb : fn.body = some c) (ha : Nat.ble args.length fn.ntmps = true)
    (hl : Nat.ble L.length L'.length = true) (h : AW P fn.ntmps L.length c (env0 0 args) L (Ends tab fn res L')) : Fn P f args L res L' :=
  Fn_body hT hf hb (Nat.le_of_ble_eq_true ha) (Nat.le_of_ble_eq_true hl) h
theorem bifT {α : Type} {c : Bool} {x y r : α} (hc : c = true) (h : (bif c then x else y) = r) : x = r := by subst hc; exact h
theorem bifF {α : Type} {c : Bool} {x y r : α} (hc : c = false) (h : (bif c then x else y) = r) : y = r := by subst hc; exact h
/-- Nothing is known of the rest. -/
theorem low_env {n : Nat} (h : (env.all fun p => p.2.low n) = true) (t : Nat) : (aget env t).low n = true := by
  induction env with
  | nil => rfl
  | cons p e ih =>
    obtain ⟨k, v⟩ := p
    simp only [List.all_cons, Bool.and_eq_true] at h
    simp only [aget]
    cases Nat.beq k t with
    | true => exact h.1
    | false => exact ih h.2
end
end Go.Vm
