/- Functions: what a call comes to; what nobody knows of any more is forgotten. -/
import Derived.Test.YtjeihigmneepcaaVf
set_option linter.unusedVariables false
set_option linter.unusedSectionVars false
set_option linter.unusedSimpArgs false
namespace Go.Vm
variable [Glob]

/-! ### what is known of below a number -/
mutual
def AV.low (n : Nat) : AV → Bool
  | .agg cs => AV.lows n cs
  | .tup cs => AV.lows n cs
  | .sl cs => AV.lows n cs
  | .rp cs => AV.lows n cs
  | .fn _ cs ds => AV.lows n cs && AV.lows n ds
  | .own r _ => Nat.blt r n
  | .op r _ _ _ => Nat.blt r n
  | .gr r _ => Nat.blt r n
  | .gp r _ _ _ => Nat.blt r n
  | .ptr r _ => Nat.blt r n
  | .map r => Nat.blt r n
  | _ => true
def AV.lows (n : Nat) : List AV → Bool
  | [] => true
  | x :: xs => AV.low n x && AV.lows n xs
end
theorem lows_iff {n : Nat} : ∀ {xs : List AV}, AV.lows n xs = true ↔ ∀ x ∈ xs, x.low n = true
  | [] => by simp [AV.lows]
  | x :: xs => by simp [AV.lows, lows_iff (xs := xs)]
theorem low_cells {n : Nat} {x : AV} (h : x.low n = true) : ∀ c ∈ x.cells, c.low n = true := by
  cases x <;> simp only [AV.cells, List.mem_singleton, forall_eq] <;> try exact h
  simp only [AV.low] at h
  exact lows_iff.1 h
def AObj.low (n : Nat) : AObj → Bool
  | .cells cs => AV.lows n cs
  | .arr _ _ _ _ xs => AV.lows n xs
  | .map es => es.all fun p => p.1.low n && p.2.low n
  | .row _ _ _ xs => AV.lows n xs
  | .dead => true

def St.forget (S : St) (n : Nat) : St := { S with σ := S.σ.take n }
theorem forget_σ {S : St} {n r : Nat} (h : r < n) : (S.forget n).σ[r]? = S.σ[r]? := by simp [St.forget, List.getElem?_take, h]
theorem forget_σ' {S : St} {n r : Nat} {o : AObj} (h : (S.forget n).σ[r]? = some o) : S.σ[r]? = some o ∧ r < n := by
  simp only [St.forget, List.getElem?_take] at h
  split at h
  · exact ⟨h, by assumption⟩
  · cases h
theorem forget_M {S : St} {n b : Nat} (h : (S.forget n).M b) : S.M b := by
  rcases h with ⟨r, o, ho, hm, hb⟩ | h
  · exact .inl ⟨r, o, (forget_σ' ho).1, hm, hb⟩
  · exact .inr h
theorem forget_Imm {S : St} {n b : Nat} (h : S.Imm b) : (S.forget n).Imm b := ⟨h.1, fun hm => h.2 (forget_M hm)⟩
theorem forget_Fil {S : St} (hI : Inv S) {n b o : Nat} (h : S.Fil b o) : (S.forget n).Imm b ∨ (S.forget n).Fil b o := by
  rcases h with ⟨r, e, k, xs, h, h1, h2⟩ | h
  · have hmut : (AObj.row false e k xs).mut = true := by cases xs <;> simp_all [AObj.mut]
    by_cases hr : r < n
    · exact .inr (.inl ⟨r, e, k, xs, by rw [forget_σ hr]; exact h, h1, h2⟩)
    · refine .inl ⟨?_, fun hm => ?_⟩
      · rw [← h1]; exact (hI.obj r _ h).lt (AObj.blk_of_mut hmut)
      · rcases hm with ⟨q, y, hy, hym, hb⟩ | hb
        · obtain ⟨hy1, hy2⟩ := forget_σ' hy
          have := hI.inj q r y _ hy1 h hym hmut (hb.trans h1.symm)
          omega
        · exact hI.outr r _ h hmut (by rw [h1]; exact hb)
  · exact .inr (.inr h)
theorem forget_Rdo {S : St} (hI : Inv S) {n : Nat} {p : Addr} (h : S.Rdo p) : (S.forget n).Rdo p := by
  rcases h with h | ⟨h1, h2⟩
  · exact .inl (forget_Imm h)
  · exact (forget_Fil hI h2).elim .inl fun g => .inr ⟨h1, g⟩

mutual
theorem RV.forget {S : St} (hI : Inv S) {n : Nat} : ∀ {v : Value} {x : AV}, RV S v x → x.low n = true → RV (S.forget n) v x
  | _, _, .any v, _ => .any v
  | _, _, .bool b, _ => .bool b
  | _, _, .int k n, _ => .int k n
  | _, _, .str s, _ => .str s
  | _, _, .agg h h1, hb => .agg (RVs.forget hI h (by simpa [AV.low] using hb)) h1
  | _, _, .tup h, hb => .tup (RVs.forget hI h (by simpa [AV.low] using hb))
  | _, _, .nil, _ => .nil
  | _, _, .sl hn hcm h hk h1 hs hc, hb => .sl hn hcm (RVs.forget hI h (lows_iff.2 fun c hc => by
      simp only [AV.low] at hb
      obtain ⟨x, hx, hcx⟩ := List.mem_flatMap.1 hc
      exact low_cells (lows_iff.1 hb x hx) c hcx)) hk h1 hs fun j u hu => by
      obtain ⟨ad, e, hi, hcell⟩ := hc j u hu
      exact ⟨ad, e, forget_Rdo hI hi, hcell⟩
  | _, _, .own h hv he, hb => .own (by rw [forget_σ (by simp [AV.low, Nat.blt] at hb; omega)]; exact h) hv he
  | _, _, .rp h h1 hc, hb => .rp (RVs.forget hI h (by simpa [AV.low] using hb)) h1 fun j u hu => ⟨forget_Rdo hI (hc j u hu).1, (hc j u hu).2⟩
  | _, _, .gr h hn he, hb => .gr (by rw [forget_σ (by simp [AV.low, Nat.blt] at hb; omega)]; exact h) hn he
  | _, _, .gp h h0 he, hb => .gp (by rw [forget_σ (by simp [AV.low, Nat.blt] at hb; omega)]; exact h) h0 he
  | _, _, .op h hv he, hb => .op (by rw [forget_σ (by simp [AV.low, Nat.blt] at hb; omega)]; exact h) hv he
  | _, _, .ptr (r := r) h, hb => RV.ptr (S := S.forget n) (by rw [forget_σ (by simp [AV.low, Nat.blt] at hb; omega)]; exact h)
  | _, _, .nilptr, _ => .nilptr
  | _, _, .map (r := r) h, hb => RV.map (S := S.forget n) (by rw [forget_σ (by simp [AV.low, Nat.blt] at hb; omega)]; exact h)
  | _, _, .nilmap, _ => .nilmap
  | _, _, .fn h h', hb => .fn (RVs.forget hI h (by simp [AV.low] at hb; exact hb.1)) (RVs.forget hI h' (by simp [AV.low] at hb; exact hb.2))
theorem RVs.forget {S : St} (hI : Inv S) {n : Nat} : ∀ {us : List Value} {xs : List AV}, RVs S us xs → AV.lows n xs = true → RVs (S.forget n) us xs
  | _, _, .nil, _ => .nil
  | _, _, .cons h hs, hb => .cons (RV.forget hI h (by simp [AV.lows] at hb; exact hb.1)) (RVs.forget hI hs (by simp [AV.lows] at hb; exact hb.2))
end

theorem forget_le {S0 S : St} (hI : Inv S) (h : Le S0 S) {n : Nat} (hn : S0.σ.length ≤ n) : Le S0 (S.forget n) where
  os := h.os
  tape := h.tape
  output := h.output
  size := h.size
  outs := h.outs
  oims := h.oims
  outh := h.outh
  imm b hb := ⟨forget_Imm (h.imm b hb).1, (h.imm b hb).2⟩
  fil b o hb := ⟨(h.fil b o hb).1.elim (fun g => .inl (forget_Imm g)) (forget_Fil hI), (h.fil b o hb).2⟩
  obj r o ho := by
    obtain ⟨o', h1, h2⟩ := h.obj r o ho
    have := (List.getElem?_eq_some_iff.1 ho).1
    exact ⟨o', by rw [forget_σ (by omega)]; exact h1, by cases o <;> cases o' <;> exact h2⟩
theorem forget_inv {S : St} (h : Inv S) {n : Nat} (hb : ∀ o ∈ S.σ.take n, o.low n = true) : Inv (S.forget n) where
  gl := ⟨h.gl.1, fun b hb => forget_Imm (h.gl.2 b hb)⟩
  obj r o ho := by
    obtain ⟨h1, h2⟩ := forget_σ' ho
    have hr := h.obj r o h1
    have hbo := hb o (List.mem_of_getElem? (by simpa [St.forget] using ho))
    cases o with
    | cells cs =>
      obtain ⟨C, t, g1, g2, g3⟩ := hr
      exact ⟨C, t, g1, g2.forget h (by simpa [AObj.low] using hbo), g3⟩
    | arr fr ver e k xs =>
      obtain ⟨C, g1, g2, g3, g4, g5, g6, g7, g8, g9⟩ := hr
      refine ⟨C, g1, g2, g3, g4, g5.forget h (lows_iff.2 fun c hc => ?_), g6, g7, fun e hm => g8 e (forget_M hm), g9⟩
      obtain ⟨x, hx, hcx⟩ := List.mem_flatMap.1 hc
      simp only [AObj.low] at hbo
      exact low_cells (lows_iff.1 hbo x hx) c hcx
    | map es =>
      obtain ⟨E, clock, g1, g2, g3⟩ := hr
      refine ⟨E, clock, g1, g2, fun j e p he hp => ?_⟩
      have := g3 j e p he hp
      simp only [AObj.low, List.all_eq_true, Bool.and_eq_true] at hbo
      have hbp := hbo p (List.mem_of_getElem? hp)
      exact ⟨this.1.forget h hbp.1, this.2.forget h hbp.2⟩
    | row mu e k xs =>
      obtain ⟨g1, g2, g3, g4⟩ := hr
      refine ⟨g1, g2, g3, fun hne => ?_⟩
      obtain ⟨C, q1, q2, q3, q4, q5⟩ := g4 hne
      refine ⟨C, q1, q2, q3, q4, q5.forget h (lows_iff.2 fun c hc => ?_)⟩
      obtain ⟨x, hx, hcx⟩ := List.mem_flatMap.1 hc
      simp only [AObj.low] at hbo
      exact low_cells (lows_iff.1 hbo x hx) c hcx
    | dead => trivial
  inj r r' o o' h1 h2 := h.inj r r' o o' (forget_σ' h1).1 (forget_σ' h2).1
  outl := h.outl
  outr r o ho := h.outr r o (forget_σ' ho).1

/-! ### functions -/
/-- What a call of a function comes to: these arguments, this store: this result, this store. -/
def Fn (P : Program) (f : FuncId) (args : List AV) (L : List AObj) (res : AV) (L' : List AObj) : Prop :=
  ∀ (S : St), S.σ = L → Inv S → ∀ us, RVs S us args → Calls P f us.toArray S.w fun e w' => ∃ v S', e = .returned v ∧ S'.w = w' ∧ S'.σ = L' ∧ Inv S' ∧ Le S S' ∧ RV S' v res

def env0 : Nat → List AV → Env
  | _, [] => []
  | i, x :: xs => (i, x) :: env0 (i + 1) xs
theorem aget_env0 : ∀ (xs : List AV) (i t : Nat), aget (env0 i xs) (i + t) = xs[t]?.getD .any
  | [], i, t => by simp [env0, aget]
  | x :: xs, i, 0 => by simp [env0, aget]
  | x :: xs, i, t + 1 => by
    have : Nat.beq i (i + (t + 1)) = false := by
      cases h : Nat.beq i (i + (t + 1)) with
      | false => rfl
      | true => have := Nat.eq_of_beq_eq_true h; omega
    have ih := aget_env0 xs (i + 1) t
    rw [show i + 1 + t = i + (t + 1) by omega] at ih
    simp [env0, aget, this, ih]

def ares1 (tab : TypeId → Option TI) (env : Env) (L : List AObj) : ResultVar → Option AV
  | .tmp t => some (aget env t)
  | .cell a t => match tab t, readAt L (aget env a) with
    | some i, some cs => loadAs i cs
    | _, _ => none
def aresL (tab : TypeId → Option TI) (env : Env) (L : List AObj) : List ResultVar → Option (List AV)
  | [] => some []
  | r :: rs => match ares1 tab env L r, aresL tab env L rs with
    | some x, some xs => some (x :: xs)
    | _, _ => none
def ares (tab : TypeId → Option TI) (env : Env) (L : List AObj) (rs : List ResultVar) : Option AV :=
  match aresL tab env L rs with
  | some [x] => some x
  | some xs => some (.tup xs)
  | none => none

section
variable {P : Program} {tab : TypeId → Option TI} {N : Nat} {env : Env} {L : List AObj}
theorem aresL_sound (hT : TabOk P tab) {S : St} (hI : Inv S) (hσ : S.σ = L) {a : Act} (hE : EnvR N S a env) {g : ResultVar → Sem Value} (hg1 : ∀ t, g (.tmp t) = pure (a.tmps.getD t undef))
    (hg2 : ∀ q t, g (.cell q t) = do loadVar t (← asAddr (a.tmps.getD q undef))) : ∀ {rs : List ResultVar} {xs : List AV}, aresL tab env L rs = some xs → ∃ us, (rs.mapM g).run P S.w = .ok us S.w ∧ RVs S us xs
  | [], xs, h => by simp [aresL] at h; subst h; exact ⟨[], by simp, .nil⟩
  | r :: rs, xs, h => by
    simp only [aresL] at h
    split at h <;> try (cases h; done)
    rename_i x xs' hx hxs
    cases h
    obtain ⟨us, hu, hr⟩ := aresL_sound hT hI hσ hE hg1 hg2 hxs
    obtain ⟨u, hu1, hr1⟩ : ∃ u, (g r).run P S.w = .ok u S.w ∧ RV S u x := by
      cases r with
      | tmp t => simp [ares1] at hx; subst hx; exact ⟨_, by rw [hg1]; rfl, hE.get t⟩
      | cell q t =>
        simp only [ares1] at hx
        split at hx <;> try (cases hx; done)
        rename_i i cs hi hcs
        subst hσ
        obtain ⟨p, hp, hrd⟩ := readAt_sound hI (hE.get q) hcs
        obtain ⟨u, hu, hr⟩ := run_load_as hT hi hrd hx
        refine ⟨u, ?_, hr⟩
        simp only [Instr.loadAt, Instr.sureAddr, Sem.run_bind, Sem.run_pure, Result.andThen_ok] at hu
        simp only [hg2, hp, asAddr, Sem.run_bind, Sem.run_pure, Result.andThen_ok, hu]
    refine ⟨u :: us, ?_, .cons hr1 hr⟩
    rw [List.mapM_cons]
    simp only [Sem.run_bind, hu1, hu, Result.andThen_ok, Sem.run_pure]
theorem ares_sound (hT : TabOk P tab) {S : St} (hI : Inv S) (hσ : S.σ = L) {a : Act} (hE : EnvR N S a env) {fn : Func} {x : AV} (h : ares tab env L fn.results.toList = some x) :
    ∃ u, (results fn a.tmps).run P S.w = .ok u S.w ∧ RV S u x := by
  unfold ares at h
  have key : ∀ xs, aresL tab env L fn.results.toList = some xs → ∃ us, (results fn a.tmps).run P S.w = .ok (if h : us.toArray.size = 1 then us.toArray[0] else .tuple us.toArray) S.w ∧ RVs S us xs := by
    intro xs hxs
    have hg := fun g hg1 hg2 => aresL_sound hT hI hσ hE (g := g) hg1 hg2 hxs
    unfold results
    rw [Array.mapM_eq_mapM_toList]
    obtain ⟨us, hu, hr⟩ := hg (fun r => match r with
      | .tmp t => pure (a.tmps.getD t undef)
      | .cell q t => do loadVar t (← asAddr (a.tmps.getD q undef))) (fun _ => rfl) (fun _ _ => rfl)
    refine ⟨us, ?_, hr⟩
    simp only [Sem.run_bind, Sem.run_map]
    erw [hu]
    rfl
  split at h
  · rename_i x' hx
    cases h
    obtain ⟨us, hu, hr⟩ := key _ hx
    cases hr with
    | cons h1 h2 => cases h2; exact ⟨_, hu, h1⟩
  · rename_i xs hne hx
    cases h
    obtain ⟨us, hu, hr⟩ := key _ hx
    have hl := hr.length
    have : ¬ (us.toArray.size = 1) := by
      intro e
      simp at e
      match xs, (by omega : xs.length = 1) with
      | [y], _ => exact hne y rfl
    rw [dif_neg this] at hu
    exact ⟨_, hu, .tup hr⟩
  · cases h

/-- The store's end: what is told of it, and that nothing else is asked. -/
def Fin (L1 L' : List AObj) (res : AV) : Prop := L1.take L'.length = L' ∧ res.low L'.length = true ∧ (L'.all fun o => o.low L'.length) = true
/-- A body's end. -/
def Ends (tab : TypeId → Option TI) (fn : Func) (res : AV) (L' : List AObj) : Pst := fun x env L1 => (match x with | .exit _ => False | _ => True) ∧ ares tab env L1 fn.results.toList = some res ∧ Fin L1 L' res

theorem Fn_body (hT : TabOk P tab) {f : FuncId} {fn : Func} {c : Code} {args : List AV} {res : AV} {L' : List AObj} (hf : P.funcs[f]? = some fn) (hb : fn.body = some c) (ha : args.length ≤ fn.ntmps)
    (hl : L.length ≤ L'.length) (h : AW P fn.ntmps L.length c (env0 0 args) L (Ends tab fn res L')) : Fn P f args L res L' := by
  intro S hσ hI us hus
  refine calls_of_wp hf hb ?_
  have hlen := hus.length
  have hE : EnvR fn.ntmps S { tmps := us.toArray ++ Array.replicate (fn.ntmps - us.toArray.size) undef, defers := [] } (env0 0 args) := by
    refine ⟨by simp; omega, fun t => ?_⟩
    have e := aget_env0 args 0 t
    rw [Nat.zero_add] at e
    rw [e]
    cases hx : args[t]? with
    | none => exact .any _
    | some x =>
      obtain ⟨u, hu, hr⟩ := hus.get hx
      have ht := (List.getElem?_eq_some_iff.1 hu).1
      simp only [Option.getD_some, Array.getD_eq_getD_getElem?]
      rw [Array.getElem?_append_left (by simpa using ht)]
      simp [hu, hr]
  refine wp_mono (h S S _ (by rw [hσ]; exact Nat.le_refl _) (Le.refl S) hσ hI hE rfl) fun e a' w' hq => ?_
  obtain ⟨x, env', S', rfl, ⟨hx, hres, hfin1, hfin2, hfin3⟩, rfl, h4, h5, h6, h7⟩ := hq
  obtain ⟨u, hu, hr⟩ := ares_sound hT h4 rfl h6 hres
  have hend : ∃ v S'', Ending.returned u = .returned v ∧ S''.w = S'.w ∧ S''.σ = L' ∧ Inv S'' ∧ Le S S'' ∧ RV S'' v res := by
    refine ⟨u, S'.forget L'.length, rfl, rfl, hfin1, forget_inv h4 fun o ho => ?_, forget_le h4 h5 (by rw [hσ]; exact hl), hr.forget h4 hfin2⟩
    rw [hfin1] at ho
    simp only [List.all_eq_true] at hfin3
    exact hfin3 o ho
  cases x with
  | normal => exact ⟨h7, u, hu, hend⟩
  | exit id => exact hx.elim
  | ret => exact ⟨h7, u, hu, hend⟩

/-- What stands at the store's end and is named no more is forgotten. -/
theorem AW_drop {m : Nat} {c : Code} {Q : Pst} (n : Nat) (hn : m ≤ n) (he : ∀ t, (aget env t).low n = true) (hb : ((L.take n).all fun o => o.low n) = true) (h : AW P N m c env (L.take n) Q) : AW P N m c env L Q := by
  intro S0 S a hm hl hσ hI hE hd
  refine h S0 (S.forget n) a hm (forget_le hI hl (by omega)) (by simp [St.forget, hσ]) (forget_inv hI fun o ho => ?_) ⟨hE.size, fun t => (hE.get t).forget hI (he t)⟩ hd
  rw [hσ] at ho
  exact List.all_eq_true.1 hb o ho
theorem OpJ_call {o : Oper} {c : Call} {f : Operand} {g : FuncId} {fn : Func} {first cap : List AV} {res : AV} {L' : List AObj} (hop : o.op = .call c) (hc : c.callee = .value f) (hf : aval env f = .fn g first cap)
    (hg : P.funcs[g]? = some fn) (hn : (fn.name == "runtime.NumGoroutine") = false) (hb : fn.body.isNone = false) (h : Fn P g (first ++ c.args.toList.map (aval env) ++ cap) L res L') : OpJ P N env L o res L' := by
  intro S a hσ hI hE K Q hK
  have hv := hE.eval f
  rw [hf] at hv
  generalize hu : a.eval f = u at hv
  cases hv with
  | fn h1 h2 =>
    rename_i us vs
    have hr : (execOp a.eval o).run P S.w = .ok (.enter g (us ++ c.args.toList.map a.eval ++ vs).toArray) S.w := by
      have e : c.args.map a.eval = (c.args.toList.map a.eval).toArray := by apply Array.ext'; simp
      simp only [execOp, hop, resolve, hc, hu, Deferred.ofValue, invoke, callFunc, Sem.run_bind, Sem.run_pure, Result.andThen_ok, run_program, hg, hn, hb, Bool.false_eq_true, if_false, Sem.run_ite]
      congr 2
      apply Array.ext'
      simp
    unfold Oper.wp
    rw [hr, Oper.upon_enter]
    refine Calls.mono (h S hσ hI _ ((h1.append (rvs_map hE _)).append h2)) fun e w' hq => ?_
    obtain ⟨v, S', rfl, rfl, g1, g2, g3, g4⟩ := hq
    exact hK v S' g1 g2 g3 g4
end
end Go.Vm
