/- Shifts and divisions by any number; texts of bytes; bytes that are marked; a text appended to bytes. -/
import Derived.Test.YtjeihigmneepcaaVv
set_option linter.unusedVariables false
set_option linter.unusedSectionVars false
set_option linter.unusedSimpArgs false
namespace Go.Vm
variable [Glob]
def sft (op : BinOp) (k : IntKind) (p q : Int) : Option Int := match op with
  | .shl => if 0 ≤ q then some (k.wrap (p * 2 ^ min q.toNat k.bits)) else none
  | .shr => if 0 ≤ q then some (p.fdiv (2 ^ min q.toNat k.bits)) else none
  | _ => none
def dvi (op : BinOp) (k : IntKind) (p q : Int) : Option Int := match op with
  | .quo => if q = 0 then none else some (k.wrap (p.tdiv q))
  | .rem => if q = 0 then none else some (p.tmod q)
  | _ => none
def intOp (o : Oper) (env : Env) : Option (BinOp × IntKind × Int × IntKind × Int) := match o.op with
  | .binOp op t x y _ => match aval env x, aval env y with
    | .int k p, .int k' q => some (op, k, p, k', q)
    | _, _ => none
  | _ => none
section
variable {P : Program} {tab : TypeId → Option TI} {N : Nat} {env : Env} {L L' : List AObj} {o : Oper} {v : AV} {w : World}
theorem jSh (hT : TabOk P tab) (op : BinOp) (k k' : IntKind) (p q : Int) {r : Int} (hr : sft op k p q = some r) (h : intOp o env = some (op, k, p, k', q) := by kernel_rfl) : OpJ P N env L o (.int k r) L := by
  unfold intOp at h
  split at h
  · rename_i op' t x y ty hop
    split at h
    · rename_i k1 p1 k2 q1 hx hy
      cases h
      refine aop_sound hT ?_
      rw [hop]
      simp only [aop, hx, hy]
      unfold sft at hr
      split at hr
      · split at hr
        · rename_i hq
          cases hr
          have : ¬ q < 0 := by omega
          simp [abin, this]
        · cases hr
      · split at hr
        · rename_i hq
          cases hr
          have : ¬ q < 0 := by omega
          simp [abin, this]
        · cases hr
      · cases hr
    · cases h
  · cases h
theorem jDv (hT : TabOk P tab) (op : BinOp) (k : IntKind) (p q : Int) {r : Int} (hr : dvi op k p q = some r) (h : intOp o env = some (op, k, p, k, q) := by kernel_rfl) : OpJ P N env L o (.int k r) L := by
  unfold intOp at h
  split at h
  · rename_i op' t x y ty hop
    split at h
    · rename_i k1 p1 k2 q1 hx hy
      cases h
      refine aop_sound hT ?_
      rw [hop]
      simp only [aop, hx, hy]
      unfold dvi at hr
      split at hr
      · split at hr
        · cases hr
        · rename_i hq
          cases hr
          simp [abin, aint, hq]
      · split at hr
        · cases hr
        · rename_i hq
          cases hr
          simp [abin, aint, hq]
      · cases hr
    · cases h
  · cases h

/-! ### a text out of bytes -/
def convOp (tab : TypeId → Option TI) (o : Oper) (env : Env) : Option (TypeId × TypeId × AV) := match o.op with
  | .convert s d x => some (s, d, aval env x)
  | _ => none
theorem bytes_cells : ∀ {us : List Value} {xs : List Int} {S : St}, RVs S us (xs.map (AV.int .u8)) → us = xs.map (Value.int .u8)
  | [], [], _, _ => rfl
  | [], _ :: _, _, h => by cases h
  | _ :: _, [], _, h => by cases h
  | u :: us, x :: xs, S, h => by
    cases h with
    | cons h1 h2 => cases h1; rw [bytes_cells h2]; rfl
theorem flat_bytes (xs : List Int) : (xs.map (AV.int .u8)).flatMap AV.cells = xs.map (AV.int .u8) := by
  induction xs with
  | nil => rfl
  | cons x xs ih => simp only [List.map_cons, List.flatMap_cons, ih]; rfl
theorem jStr (hT : TabOk P tab) {lf : List Int → List AV} (hl : ∀ xs, lf xs = xs.map (AV.int .u8)) (s d e : TypeId) (xs : List Int) (h : convOp tab o env = some (s, d, .sl (lf xs)) := by kernel_rfl) (hs : (tab s).map TI.desc = some (.slice e) := by kernel_rfl)
    (he : (tab e).map TI.desc = some (.int .u8) := by kernel_rfl) (hd : (tab d).map TI.desc = some .string := by kernel_rfl) : OpJ P N env L o (.str (strOfNums xs)) L := by
  unfold convOp at h
  split at h
  · rename_i s' d' x hop
    injection h with h; injection h with e1 h; injection h with e2 e3
    subst e1; subst e2
    refine .tell fun S a hσ hI hE => ?_
    have hv := hE.eval x
    rw [e3, hl] at hv
    generalize hu : a.eval x = u at hv
    have g1 := tab_desc hT hs
    have g2 := tab_desc hT he
    have g3 := tab_desc hT hd
    refine ⟨_, ?_, .str _⟩
    cases hv with
    | sl hn hcm hr hk h1 hs' hc =>
      rename_i ad n c us k
      rw [flat_bytes] at hr
      have hus := bytes_cells hr
      have hn' : n = xs.length := by simpa using hn
      subst hn'
      simp only [execOp, hop, hu, Sem.run_bind, run_convert_bytes_string S.w s' d' e ad xs.length c g1 g2 g3]
      by_cases hx : xs = []
      · subst hx
        cases ad <;> simp [Conv.bytesToString, loadCells, loadCellsFrom, strOfNums] <;> rfl
      · obtain ⟨ad, rfl⟩ := hs' (by simpa using hx)
        have hld := run_loadCells_list (P := P) S.w ad us (fun j v hj => by
          obtain ⟨ad', e', _, hcell⟩ := hc j v hj
          cases e'; exact hcell)
        have hlen : us.length = xs.length := by rw [hus]; simp
        rw [hlen, hus] at hld
        rw [run_bytesToString S.w ad xs.length c xs hld, foldl_push_bytes]
        simp [strOfNums, ByteArray.empty, ByteArray.emptyWithCapacity]
        rfl
  · cases h

/-! ### bytes that are marked as a text's -/
theorem run_mark {b : Nat} {C : Array Value} {e : TypeId} {fr : Nat × Nat} (h : w.heap[b]? = some (.cells C e fr)) (off : Nat) (sp : Option Nat) : ∃ fr', (markStringish ⟨b, off, none⟩).run P w = .ok () { w with heap := w.heap.setIfInBounds b (.cells C e fr') } := by
  have hlt := (Array.getElem?_eq_some_iff.1 h).1
  have hv := (Array.getElem?_eq_some_iff.1 h).2
  have hsh : w.shape? b = some (e, C.size) := by simp [World.shape?, h]
  refine ⟨if fr.1 == fr.2 then (C.size, C.size + 1) else (min fr.1 C.size, max fr.2 (C.size + 1)), ?_⟩
  have hfz : w.freeze ⟨b, C.size, none⟩ 1 = { w with heap := w.heap.setIfInBounds b (.cells C e (if fr.1 == fr.2 then (C.size, C.size + 1) else (min fr.1 C.size, max fr.2 (C.size + 1)))) } := by
    unfold World.freeze
    rw [if_neg (by decide)]
    congr 1
    apply Array.ext_getElem?
    intro i
    by_cases hi : b = i
    · subst hi
      rw [Array.getElem?_modify, if_pos rfl, h, Array.getElem?_setIfInBounds_self_of_lt hlt]
      rfl
    · rw [Array.getElem?_modify, if_neg hi, Array.getElem?_setIfInBounds_ne hi]
  simp [markStringish, hsh, hfz]
theorem OpJ_markE (hT : TabOk P tab) {t e : TypeId} {k : Nat} {r n : Nat} {xs : List AV} (hne : xs ≠ []) (hn : n = xs.length) (h : convOp tab o env = some (t, t, .gr r n)) (hd : (tab t).map TI.desc = some (.slice e)) (he : (tab e).map TI.desc = some (.int .u8))
    (hL : L[r]? = some (.row false e k xs)) (hL' : L.set r .dead = L') : OpJ P N env L o (.sl xs) L' := by
  subst hL'; subst hn
  unfold convOp at h
  split at h
  · rename_i s' d' x hop
    injection h with h; injection h with e1 h; injection h with e2 e3
    subst e1; subst e2
    refine .turn fun S a hσ hI hE => ?_
    subst hσ
    have hv := hE.eval x
    rw [e3] at hv
    have hview : RV S (a.eval x) (.sl xs) := Weak.view (L := S.σ) hL rfl S _ rfl hI hv
    generalize hu : a.eval x = u at hv hview
    have g1 := tab_desc hT hd
    have g2 := tab_desc hT he
    obtain ⟨_, _, _, hrow⟩ := hI.obj r _ hL
    obtain ⟨C, q1, q2, q3, q4, q5⟩ := hrow hne
    cases hv with
    | gr hg hnm he' =>
      rw [hL] at hg; cases hg
      obtain ⟨_, he'⟩ := he' _ _ _ _ rfl
      subst hnm
      rcases he' rfl with ⟨h0, _⟩ | ⟨_, rfl, rfl⟩
      · exact absurd (List.length_eq_zero_iff.1 h0) hne
      obtain ⟨fr', hm⟩ := run_mark (P := P) q1 0 none
      have hmut : (AObj.row false e k xs).mut = true := by cases xs <;> simp_all [AObj.mut]
      have hlt := (Array.getElem?_eq_some_iff.1 q1).1
      let w' : World := { S.w with heap := S.w.heap.setIfInBounds (S.ρ r) (.cells C e fr') }
      have hT' : Turn S w' r .dead (S.ρ r) (S.κ r) := {
        os := rfl
        tape := rfl
        output := rfl
        size := by simp [w']
        heap := fun c _ hc => by simp [w', Ne.symm hc]
        here := ⟨_, hL, .inl hmut, trivial⟩
        place := .inl rfl
        fill := fun e' k' xs' o' h' ho' => by
          have e1 : w'.heap[S.ρ r]? = some (.cells C e fr') := by simp [w', hlt]
          rw [cell_of_row _ _ _ C e fr' e1, cell_of_row _ _ _ C e (0, 0) q1] }
      have hle := upd_le hI hT'
      refine ⟨.slice (some ⟨S.ρ r, 0, none⟩) xs.length (S.κ r), S.upd w' r .dead (S.ρ r) (S.κ r), ?_, rfl, upd_inv hI hT' trivial, hle, ?_⟩
      · simp [execOp, hop, hu, convert, run_underlying g1, run_underlying g2, hm, St.upd, w']
      · exact hview.mono hle
  · cases h

/-! ### a text appended to bytes -/
def appendSOp (tab : TypeId → Option TI) (o : Oper) (env : Env) : Option (AV × AV × TypeId) := match o.op with
  | .call ⟨.builtin .append, ⟨[s, y]⟩, ⟨[t, t']⟩⟩ => match (tab t).map TI.desc, (tab t').map TI.desc with
    | some (.slice e), some .string => some (aval env s, aval env y, e)
    | _, _ => none
  | _ => none

/-! ### is a slice nil? -/
def nnil {α : Type} : List α → Option Unit
  | [] => none
  | _ :: _ => some ()
theorem jNn (hT : TabOk P tab) {α : Type} {lf : List α → List AV} {ef : α → AV} (hl : ∀ xs, lf xs = xs.map ef) (op : BinOp) (b : Bool) (xs : List α) {t e : TypeId} (hy : nnil xs = some ()) (h : eqOp o env = some (op, t, .sl (lf xs), .nil)) (hd : (tab t).map TI.desc = some (.slice e))
    (hop : (op, b) = (.eql, false) ∨ (op, b) = (.neq, true)) : OpJ P N env L o (.bool b) L := by
  unfold eqOp at h
  split at h
  · rename_i op' t' x y ty ho
    injection h with h; injection h with e1 h; injection h with e2 h; injection h with e3 e4
    subst e1; subst e2
    refine aop_sound hT ?_
    rw [ho]
    simp only [aop, e3, e4, hd]
    cases xs with
    | nil => simp [nnil] at hy
    | cons x xs =>
      rw [hl, List.map_cons]
      rcases hop with hop | hop <;> (injection hop with h1 h2; subst h1; subst h2; rfl)
  · cases h
/-- A slice is held against nil: it is nil only if it is empty. -/
theorem zNil (hT : TabOk P tab) {m i : Nat} {ops : Array Oper} {Q : Pst} {t e : TypeId} {xs : List AV} (h : eqOp (opN ops i) env = some (.eql, t, .sl xs, .nil)) (hd : (tab t).map TI.desc = some (.slice e)) (hk : okAt N ops i env = true) (hg : (opN ops i).guard = none)
    (kf : AR P N m ops (i + 1) (eput env (opN ops i).dst (.bool false)) L Q) (kt : xs = [] → AR P N m ops (i + 1) (eput env (opN ops i).dst (.bool true)) L Q) : AR P N m ops i env L Q := by
  intro S0 S a hm hl hσ hI hE hdf
  unfold eqOp at h
  split at h
  · rename_i op' t' x y ty ho
    injection h with h; injection h with e1 h; injection h with e2 h; injection h with e3 e4
    subst e1; subst e2
    have hx := hE.eval x
    have hy := hE.eval y
    rw [e3] at hx
    rw [e4] at hy
    generalize hux : a.eval x = ux at hx
    generalize huy : a.eval y = uy at hy
    have key : ∀ b : Bool, (b = true → xs = []) → (execOp a.eval (opN ops i)).run P S.w = .ok (.value (.bool b)) S.w → wpList P ops (lift N S0 Q) (ops.toList.drop i) a S.w := fun b hb hr => by
      have J : OpJ P N env L { (opN ops i) with op := .move (.const (.bool b)) } (.bool b) L := aop_sound hT rfl
      have hgo : AR P N m ops (i + 1) (eput env (opN ops i).dst (.bool b)) L Q := by
        cases b with
        | false => exact kf
        | true => exact kt (hb rfl)
      have J2 : ∀ (K : Act → World → Prop) (Q' : Exit → Act → World → Prop), K (a.put (opN ops i).dst (.bool b)) S.w → (opN ops i).wp P a S.w K Q' := fun K Q' hK => by
        unfold Oper.wp
        rw [hr]
        exact hK
      simp only [okAt, Bool.and_eq_true] at hk
      obtain ⟨⟨h1, h2⟩, h3⟩ := hk
      have hlt : i < ops.toList.length := by
        have : i + 1 ≤ ops.toList.length := by simpa [Nat.blt] using h1
        exact this
      have e : ops.toList.drop i = opN ops i :: ops.toList.drop (i + 1) := by
        rw [List.drop_eq_getElem_cons hlt]
        congr 1
        unfold opN
        rw [List.getElem?_eq_getElem hlt]
      rw [e]
      have hE2 : EnvR N S (a.put (opN ops i).dst (.bool b)) (eput env (opN ops i).dst (.bool b)) := hE.eput h2 (.bool b)
      have fin := hgo S0 S (a.put (opN ops i).dst (.bool b)) hm hl hσ hI hE2 (by rw [put_defers]; exact hdf)
      exact wpList_plain hg fun K hK => J2 K _ (hK _ _ fin)
    cases hy
    have ht := tab_desc hT hd
    cases hx with
    | sl hn hcm hr hk' h1 hs hc =>
      rename_i ad n c us k
      refine key ad.isNone (fun hb => ?_) ?_
      · refine Classical.byContradiction fun hne => ?_
        obtain ⟨ad', rfl⟩ := hs hne
        cases hb
      · simp [execOp, ho, hux, huy, run_eql_slice_nil' t' e ad n c ht, eqGuard_at_slice]
  · cases h
end
end Go.Vm
