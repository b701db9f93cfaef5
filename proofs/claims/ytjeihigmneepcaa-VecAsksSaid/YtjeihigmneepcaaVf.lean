/- Rules for code: what is walked goes from one abstract frame and store to another. -/
import Derived.Test.YtjeihigmneepcaaVe
import Derived.Deep.LoopGhost
set_option linter.unusedVariables false
set_option linter.unusedSectionVars false
set_option linter.unusedSimpArgs false
namespace Go.Vm
variable [Glob]

inductive Ex where
  | normal
  | exit (id : Nat)
  | ret
def Ex.out : Ex → Exit
  | .normal => .normal
  | .exit id => .exit id
  | .ret => .ret

abbrev Pst := Ex → Env → List AObj → Prop
def lift (N : Nat) (S0 : St) (Q : Pst) : Exit → Act → World → Prop := fun e a w =>
  ∃ x env S', e = Ex.out x ∧ Q x env S'.σ ∧ S'.w = w ∧ Inv S' ∧ Le S0 S' ∧ EnvR N S' a env ∧ a.defers = []

theorem lift.mono {N : Nat} {S0 S1 : St} {Q : Pst} (l : Le S0 S1) {e : Exit} {a : Act} {w : World} (h : lift N S1 Q e a w) : lift N S0 Q e a w := by
  obtain ⟨x, env, S', h1, h2, h3, h4, h5, h6, h7⟩ := h
  exact ⟨x, env, S', h1, h2, h3, h4, l.trans h5, h6, h7⟩

def AW (P : Program) (N m : Nat) (c : Code) (env : Env) (L : List AObj) (Q : Pst) : Prop :=
  ∀ (S0 S : St) (a : Act), S0.σ.length ≤ m → Le S0 S → S.σ = L → Inv S → EnvR N S a env → a.defers = [] → c.wp P (lift N S0 Q) a S.w

/-- What is left when code has ended in the normal way. -/
def Pst.seq (K : Env → List AObj → Prop) (Q : Pst) : Pst
  | .normal, env, L => K env L
  | x, env, L => Q x env L
def Pst.block (id : Nat) (Q : Pst) : Pst
  | .exit id', env, L => if id' = id then Q .normal env L else Q (.exit id') env L
  | x, env, L => Q x env L

section
variable {P : Program} {N m : Nat} {env : Env} {L : List AObj} {Q : Pst}
theorem AW_seq {x y : Code} (h : AW P N m x env L (.seq (fun env' L' => AW P N m y env' L' Q) Q)) : AW P N m (.seq x y) env L Q := by
  intro S0 S a hm hl hσ hI hE hd
  refine wp_seq (wp_mono (h S0 S a hm hl hσ hI hE hd) fun e a' w' hq => ?_)
  obtain ⟨x', env', S', rfl, h2, rfl, h4, h5, h6, h7⟩ := hq
  cases x' with
  | normal => exact h2 S0 S' a' hm h5 rfl h4 h6 h7
  | exit id => exact ⟨.exit id, env', S', rfl, h2, rfl, h4, h5, h6, h7⟩
  | ret => exact ⟨.ret, env', S', rfl, h2, rfl, h4, h5, h6, h7⟩
theorem AW_skip (h : Q .normal env L) : AW P N m .skip env L Q := fun S0 S a hm hl hσ hI hE hd => wp_skip ⟨.normal, env, S, rfl, by rw [hσ]; exact h, rfl, hI, hl, hE, hd⟩
theorem AW_exit {id : Nat} (h : Q (.exit id) env L) : AW P N m (.exit id) env L Q := fun S0 S a hm hl hσ hI hE hd => wp_exit ⟨.exit id, env, S, rfl, by rw [hσ]; exact h, rfl, hI, hl, hE, hd⟩
theorem AW_ret (h : Q .ret env L) : AW P N m .ret env L Q := fun S0 S a hm hl hσ hI hE hd => wp_ret ⟨.ret, env, S, rfl, by rw [hσ]; exact h, rfl, hI, hl, hE, hd⟩
theorem AW_cond {c : Operand} {x y : Code} {q : Bool} (hc : aval env c = .bool q) (ht : q = true → AW P N m x env L Q) (hf : q = false → AW P N m y env L Q) : AW P N m (.cond c x y) env L Q := by
  intro S0 S a hm hl hσ hI hE hd
  have hv := hE.eval c
  rw [hc] at hv
  have hu : a.eval c = .bool q := by generalize a.eval c = u at hv; cases hv; rfl
  exact wp_cond_split hu (fun e => ht e S0 S a hm hl hσ hI hE hd) (fun e => hf e S0 S a hm hl hσ hI hE hd)
theorem AW_block {id : Nat} {c : Code} (h : AW P N m c env L (.block id Q)) : AW P N m (.block id c) env L Q := by
  intro S0 S a hm hl hσ hI hE hd
  refine wp_block (wp_mono (h S0 S a hm hl hσ hI hE hd) fun e a' w' hq => ?_)
  obtain ⟨x', env', S', rfl, h2, rfl, h4, h5, h6, h7⟩ := hq
  cases x' with
  | normal => exact ⟨.normal, env', S', rfl, h2, rfl, h4, h5, h6, h7⟩
  | exit id' =>
    simp only [Ex.out, Exit.inBlock]
    simp only [Pst.block] at h2
    split
    · rename_i e
      rw [if_pos e] at h2
      exact ⟨.normal, env', S', rfl, h2, rfl, h4, h5, h6, h7⟩
    · rename_i e
      rw [if_neg e] at h2
      exact ⟨.exit id', env', S', rfl, h2, rfl, h4, h5, h6, h7⟩
  | ret => exact ⟨.ret, env', S', rfl, h2, rfl, h4, h5, h6, h7⟩
theorem AW_loop {c : Code} (I : Nat → Env → List AObj → Prop) (n : Nat) (h0 : I n env L)
    (round : ∀ n env L, I n env L → AW P N m c env L (.seq (fun env' L' => ∃ n', n' < n ∧ I n' env' L') Q)) : AW P N m (.loop c) env L Q := by
  intro S0 S a hm hl hσ hI hE hd
  refine wp_loop_ghost (fun n a' w' => ∃ env' S', I n env' S'.σ ∧ S'.w = w' ∧ Inv S' ∧ Le S0 S' ∧ EnvR N S' a' env' ∧ a'.defers = []) n ⟨env, S, by rw [hσ]; exact h0, rfl, hI, hl, hE, hd⟩ ?_
  rintro n a' w' ⟨env', S', g1, rfl, g3, g4, g5, g6⟩
  refine wp_mono (round n env' S'.σ g1 S0 S' a' hm g4 rfl g3 g5 g6) fun e a2 w2 hq => ?_
  obtain ⟨x', env2, S2, rfl, h2, rfl, h4, h5, h6, h7⟩ := hq
  cases x' with
  | normal =>
    obtain ⟨n', hn, hI'⟩ := h2
    exact ⟨n', hn, env2, S2, hI', rfl, h4, h5, h6, h7⟩
  | exit id => exact ⟨.exit id, env2, S2, rfl, h2, rfl, h4, h5, h6, h7⟩
  | ret => exact ⟨.ret, env2, S2, rfl, h2, rfl, h4, h5, h6, h7⟩
theorem AW_mono {c : Code} {Q' : Pst} (h : AW P N m c env L Q') (k : ∀ x env' L', Q' x env' L' → Q x env' L') : AW P N m c env L Q := by
  intro S0 S a hm hl hσ hI hE hd
  refine wp_mono (h S0 S a hm hl hσ hI hE hd) fun e a' w' hq => ?_
  obtain ⟨x', env', S', rfl, h2, rfl, h4, h5, h6, h7⟩ := hq
  exact ⟨x', env', S', rfl, k _ _ _ h2, rfl, h4, h5, h6, h7⟩

/-- Less is known of the frame: slots forgotten, values weakened. -/
def Weak (L : List AObj) (x y : AV) : Prop := ∀ (S : St) (u : Value), S.σ = L → Inv S → RV S u x → RV S u y
theorem Weak.refl {x : AV} : Weak L x x := fun _ _ _ _ h => h
theorem Weak.any {x : AV} : Weak L x .any := fun _ u _ _ _ => .any u
def Sub (L : List AObj) (env env' : Env) : Prop := ∀ t, Weak L (aget env t) (aget env' t)
theorem Sub.nil : Sub L env [] := fun t => Weak.any
theorem Sub.cons {t : Nat} {v : AV} {env' : Env} (h : Weak L (aget env t) v) (hs : Sub L env env') : Sub L env ((t, v) :: env') := by
  intro t'
  simp only [aget]
  cases hb : Nat.beq t t' with
  | true => rw [Nat.eq_of_beq_eq_true hb] at h; simpa using h
  | false => simpa using hs t'
theorem Sub.keep {t : Nat} {v : AV} {env' : Env} (h : aget env t = v) (hs : Sub L env env') : Sub L env ((t, v) :: env') := Sub.cons (by rw [h]; exact Weak.refl) hs
theorem AW_weak {c : Code} {env' : Env} (hs : Sub L env env') (h : AW P N m c env' L Q) : AW P N m c env L Q := by
  intro S0 S a hm hl hσ hI hE hd
  exact h S0 S a hm hl hσ hI (hE.weak fun t hr => hs t S _ hσ hI hr) hd

/-! ### regions -/
/-- What a region's operations come to, in the order of the text. -/
def AWOps (P : Program) (N m : Nat) (ops : Array Oper) (l : List Oper) (env : Env) (L : List AObj) (Q : Pst) : Prop :=
  ∀ (S0 S : St) (a : Act), S0.σ.length ≤ m → Le S0 S → S.σ = L → Inv S → EnvR N S a env → a.defers = [] → wpList P ops (lift N S0 Q) l a S.w
theorem AW_region {id : Nat} {ops : Array Oper} (h : AWOps P N m ops ops.toList env L Q) : AW P N m (.region id ops false) env L Q :=
  fun S0 S a hm hl hσ hI hE hd => wp_region_list (h S0 S a hm hl hσ hI hE hd)
theorem AWOps_nil {ops : Array Oper} (h : Q .normal env L) : AWOps P N m ops [] env L Q := fun S0 S a hm hl hσ hI hE hd => ⟨.normal, env, S, rfl, by rw [hσ]; exact h, rfl, hI, hl, hE, hd⟩
theorem wpList_mono {ops : Array Oper} {Q1 Q2 : Exit → Act → World → Prop} (hq : ∀ e a w, Q1 e a w → Q2 e a w) : ∀ {l : List Oper} {a : Act} {w : World}, wpList P ops Q1 l a w → wpList P ops Q2 l a w := by
  intro l
  induction l with
  | nil => intro a w h; exact hq _ _ _ h
  | cons o l ih =>
    intro a w h
    unfold wpList at h ⊢
    split at h
    · rename_i hw
      rw [if_pos hw]
      rcases h with h | ⟨h1, a', w', h2⟩
      · left
        unfold Oper.wp at h ⊢
        generalize (execOp a.eval o).run P w = r at h ⊢
        unfold Oper.upon at h ⊢
        split at h <;> first
          | exact ih h
          | (refine Calls.mono h fun e w' hr => ?_
             cases e with
             | returned v => exact ih hr
             | panicked chain => exact hq _ _ _ hr
             | outgrown => obtain ⟨a', w', g⟩ := hr; exact ⟨a', w', hq _ _ _ g⟩)
          | (exact Rows.mono h fun v w' hr => ih hr)
          | exact hq _ _ _ h
          | exact h.elim
      · exact .inr ⟨h1, a', w', hq _ _ _ h2⟩
    · rename_i hw
      rw [if_neg hw]
      exact ih h
def dstOk (N : Nat) : Option Tmp → Bool
  | none => true
  | some d => Nat.blt d N
def eput (env : Env) (d : Option Tmp) (v : AV) : Env :=
  match d with
  | some d => (d, v) :: env
  | none => env
theorem EnvR.eput {S : St} {a : Act} (h : EnvR N S a env) {d : Option Tmp} (hd : dstOk N d = true) {u : Value} {v : AV} (hv : RV S u v) : EnvR N S (a.put d u) (eput env d v) := by
  cases d with
  | none => exact h
  | some d => exact h.put (by simp [dstOk, Nat.blt] at hd; omega) hv
theorem put_defers (a : Act) (d : Option Tmp) (u : Value) : (a.put d u).defers = a.defers := by cases d <;> rfl
theorem AWOps_cons {ops : Array Oper} {o : Oper} {l : List Oper} {v : AV} {L' : List AObj} (hg : o.guard = none) (hN : dstOk N o.dst = true) (h : OpJ P N env L o v L')
    (k : AWOps P N m ops l (eput env o.dst v) L' Q) : AWOps P N m ops (o :: l) env L Q := by
  intro S0 S a hm hl hσ hI hE hd
  refine wpList_plain hg fun K hK => h S a hσ hI hE K _ fun u S' h1 h2 h3 h4 => hK _ _ ?_
  exact (k S0 S' _ hm (hl.trans h3) h1 h2 ((hE.mono h3).eput hN h4) (by rw [put_defers]; exact hd))

/-- The slot of a guard. -/
def guardOf (ops : Array Oper) (env : Env) (j : Nat) : AV :=
  match (ops[j]?).bind (·.dst) with
  | some d => aget env d
  | none => .any
theorem yielded_of {ops : Array Oper} {S : St} {a : Act} (hE : EnvR N S a env) {j : Nat} {q : Bool} (h : guardOf ops env j = .bool q) : yielded ops a.tmps j = some q := by
  unfold guardOf at h
  unfold yielded
  cases hd : (ops[j]?).bind (·.dst) with
  | none => simp [hd] at h
  | some d =>
    simp only [hd] at h
    have := hE.get d
    rw [h, Array.getD_eq_getD_getElem?] at this
    cases ht : a.tmps[d]? with
    | none => simp [ht, undef] at this; cases this
    | some u => simp [ht] at this; cases this; simp [ht]
theorem AWOps_guard_yes {ops : Array Oper} {o : Oper} {l : List Oper} {v : AV} {L' : List AObj} {j : Nat} {q : Bool} (hg : o.guard = some (j, q)) (hq : guardOf ops env j = .bool q) (hN : dstOk N o.dst = true) (h : OpJ P N env L o v L')
    (k : AWOps P N m ops l (eput env o.dst v) L' Q) : AWOps P N m ops (o :: l) env L Q := by
  intro S0 S a hm hl hσ hI hE hd
  refine wpList_step fun K hK => ?_
  rw [if_pos (by simp [Region.wanted, hg, yielded_of hE hq])]
  exact h S a hσ hI hE K _ fun u S' h1 h2 h3 h4 => hK _ _ ((k S0 S' _ hm (hl.trans h3) h1 h2 ((hE.mono h3).eput hN h4) (by rw [put_defers]; exact hd)))
theorem AWOps_guard_no {ops : Array Oper} {o : Oper} {l : List Oper} {j : Nat} {q q' : Bool} (hg : o.guard = some (j, q)) (hq : guardOf ops env j = .bool q') (hne : q' ≠ q) (hN : dstOk N o.dst = true)
    (k : AWOps P N m ops l (eput env o.dst (.tup [])) L Q) : AWOps P N m ops (o :: l) env L Q := by
  intro S0 S a hm hl hσ hI hE hd
  refine wpList_step fun K hK => ?_
  rw [if_neg (by simp [Region.wanted, hg, yielded_of hE hq, hne])]
  exact hK _ _ (k S0 S _ hm hl hσ hI (hE.eput hN (.tup .nil)) (by rw [put_defers]; exact hd))
theorem yielded_undef {ops : Array Oper} {S : St} {a : Act} (hE : EnvR N S a env) {j : Nat} (h : guardOf ops env j = .tup []) : yielded ops a.tmps j = none := by
  unfold guardOf at h
  unfold yielded
  cases hd : (ops[j]?).bind (·.dst) with
  | none => simp
  | some d =>
    simp only [hd] at h
    have := hE.get d
    rw [h, Array.getD_eq_getD_getElem?] at this
    cases ht : a.tmps[d]? with
    | none => simp [ht]
    | some u =>
      simp only [ht, Option.getD_some] at this
      cases this with
      | tup h => simp [ht]
theorem AWOps_guard_undef {ops : Array Oper} {o : Oper} {l : List Oper} {j : Nat} {q : Bool} (hg : o.guard = some (j, q)) (hq : guardOf ops env j = .tup []) (hN : dstOk N o.dst = true)
    (k : AWOps P N m ops l (eput env o.dst (.tup [])) L Q) : AWOps P N m ops (o :: l) env L Q := by
  intro S0 S a hm hl hσ hI hE hd
  refine wpList_step fun K hK => ?_
  rw [if_neg (by simp [Region.wanted, hg, yielded_undef hE hq])]
  exact hK _ _ (k S0 S _ hm hl hσ hI (hE.eput hN (.tup .nil)) (by rw [put_defers]; exact hd))

/-- Many operations at once. -/
def aops (tab : TypeId → Option TI) (N : Nat) (ops : Array Oper) : Env → List AObj → List Oper → Option (Env × List AObj)
  | env, L, [] => some (env, L)
  | env, L, o :: l => bif dstOk N o.dst then (match o.guard with
    | none => (match aop tab env L o.op with
      | some (v, L') => aops tab N ops (eput env o.dst v) L' l
      | none => none)
    | some (j, q) => (match guardOf ops env j with
      | .bool q' => bif q' == q then (match aop tab env L o.op with
        | some (v, L') => aops tab N ops (eput env o.dst v) L' l
        | none => none) else aops tab N ops (eput env o.dst (.tup [])) L l
      | .tup [] => aops tab N ops (eput env o.dst (.tup [])) L l
      | _ => none)) else none
theorem AWOps_many {tab : TypeId → Option TI} (hT : TabOk P tab) {ops : Array Oper} {rest : List Oper} : ∀ {l : List Oper} {env : Env} {L : List AObj} {env' : Env} {L' : List AObj},
    aops tab N ops env L l = some (env', L') → AWOps P N m ops rest env' L' Q → AWOps P N m ops (l ++ rest) env L Q
  | [], env, L, env', L', h, k => by simp only [aops] at h; cases h; exact k
  | o :: l, env, L, env', L', h, k => by
    simp only [aops] at h
    obtain ⟨hN, h⟩ := bif_some h
    split at h
    · rename_i hg
      split at h
      · rename_i v L1 ho
        exact AWOps_cons hg hN (aop_sound hT ho) (AWOps_many hT h k)
      · cases h
    · rename_i j q hg
      split at h
      · rename_i q' hq
        cases hb : (q' == q) with
        | true =>
          simp only [hb, cond_true] at h
          have : q' = q := by simpa using hb
          subst this
          split at h
          · rename_i v L1 ho
            exact AWOps_guard_yes hg hq hN (aop_sound hT ho) (AWOps_many hT h k)
          · cases h
        | false =>
          simp only [hb, cond_false] at h
          exact AWOps_guard_no hg hq (by simpa using hb) hN (AWOps_many hT h k)
      · rename_i hq
        exact AWOps_guard_undef hg hq hN (AWOps_many hT h k)
      · cases h
theorem AWOps_weak {ops : Array Oper} {l : List Oper} {env' : Env} (hs : Sub L env env') (h : AWOps P N m ops l env' L Q) : AWOps P N m ops l env L Q := by
  intro S0 S a hm hl hσ hI hE hd
  exact h S0 S a hm hl hσ hI (hE.weak fun t hr => hs t S _ hσ hI hr) hd
end
end Go.Vm
