/- More of rows: elements that are written; the store in another order; values known otherwise before an operation. -/
import Derived.Test.YtjeihigmneepcaaVr
set_option linter.unusedVariables false
set_option linter.unusedSectionVars false
set_option linter.unusedSimpArgs false
namespace Go.Vm
variable [Glob]
section
variable {P : Program} {tab : TypeId → Option TI} {N m : Nat} {env env' : Env} {L L' L'' : List AObj} {Q : Pst} {c : Code} {x : Ex} {o : Oper} {v : AV}

theorem Weak.len {r n n' : Nat} (h : n = n') : Weak L (.gr r n) (.gr r n') := by subst h; exact Weak.refl
theorem OpJ_cutE (hT : TabOk P tab) {α : Type} {lf : List α → List AV} {ef : α → AV} (hl : ∀ xs, lf xs = xs.map ef) {k : Nat} (hk : ∀ x, (ef x).cells.length = k) {xs r : List α} {l h : Int} (hc : cutOp tab o env = some (.sl (lf xs), l, h, k))
    (hr : cutL xs l h = some r) : OpJ P N env L o (.sl (lf r)) L := by
  unfold cutL at hr
  split at hr
  · rename_i hlt
    cases hr
    have := OpJ_cutLK (P := P) (N := N) (L := L) hT hc (by simpa [hl] using hlt) fun x hx => by rw [hl] at hx; obtain ⟨y, _, rfl⟩ := List.mem_map.1 hx; exact hk y
    simpa [hl, List.map_drop, List.map_take] using this
  · cases hr
theorem Sub.refl : Sub L env env := fun _ => Weak.refl
theorem OpJ_pre {t : Nat} {v0 v1 : AV} (ht : aget env t = v0) (w : Weak L v0 v1) (J : OpJ P N ((t, v1) :: env) L o v L') : OpJ P N env L o v L' :=
  OpJ_sub (Sub.cons (by rw [ht]; exact w) Sub.refl) J

/-! ### elements of rows that are written -/
def indexRowOp (tab : TypeId → Option TI) (o : Oper) (env : Env) : Option (Nat × Nat × Int × Nat) := match o.op with
  | .indexAddr t x ix => match (tab t).map TI.desc with
    | some (.slice e) => match tab e, aval env x, aval env ix with
      | some ie, .gr r n, .int _ i => some (r, n, i, ie.size)
      | _, _, _ => none
    | _ => none
  | _ => none
theorem OpJ_indexMu (hT : TabOk P tab) {α : Type} {lf : List α → List AV} {ef : α → AV} (hl : ∀ xs, lf xs = xs.map ef) {xs : List α} {r n : Nat} {j : Int} {k : Nat} {mu : Bool} {e : TypeId} {y : α} (h : indexRowOp tab o env = some (r, n, j, k))
    (hL : L[r]? = some (.row mu e k (lf xs))) (hn : n = (lf xs).length) (hj : idx xs j = some y) : OpJ P N env L o (.gp r n j.toNat 0) L := by
  subst hn
  have hj' : 0 ≤ j ∧ j.toNat < (lf xs).length := by
    obtain ⟨h0, h1⟩ := idx_enc (e := ef) hj
    rw [hl]
    exact ⟨h0, (List.getElem?_eq_some_iff.1 h1).1⟩
  unfold indexRowOp at h
  split at h
  · rename_i t x' ix hop
    split at h
    · rename_i e' hd
      split at h
      · rename_i ie r' n' k' i' he hx hix
        cases h
        refine .tell fun S a hσ hI hE => ?_
        subst hσ
        have hv := hE.eval x'
        have hvi := hE.eval ix
        rw [hx] at hv
        rw [hix] at hvi
        generalize hu : a.eval x' = u at hv
        generalize hui : a.eval ix = ui at hvi
        cases hvi
        cases hv with
        | gr hg hnm he' =>
          rw [hL] at hg; cases hg
          obtain ⟨_, he'⟩ := he' _ _ _ _ rfl
          subst hnm
          obtain ⟨_, ti, g1, g2, _⟩ := hT e' ie he
          have hdt := tab_desc hT hd
          have hlt : j < ((lf xs).length : Int) := by omega
          rcases he' rfl with ⟨h0, _⟩ | ⟨h0, rfl, rfl⟩
          · omega
          · refine ⟨.pointer (some ⟨S.ρ r, j.toNat * ie.size + 0, none⟩), ?_, .gp hL h0 fun mu' e' k' xs' eo => by cases eo; exact ⟨Nat.le_refl _, fun _ => rfl⟩⟩
            simp [execOp, hop, hu, hui, Instr.indexAt, asIntOf, run_underlying hdt, hj'.1, hlt, sizeOf, typeInfo, g1, g2, add_lit]
      · cases h
    · cases h
  · cases h

theorem run_store_gp (hT : TabOk P tab) {t : TypeId} {i : TI} (ht : tab t = some i) {S : St} (hI : Inv S) {u w : Value} {r n j off : Nat} {y z : AV} {e : TypeId} {k : Nat} {xs : List AV} (hx : RV S u (.gp r n j off)) (hy : RV S w y)
    (h : S.σ[r]? = some (.row true e k xs)) (hn : n = xs.length) (hx' : xs[j]? = some z) (h1 : ∀ c ∈ y.cells, c.one = true) (hs : y.cells.length = i.size) (hle : off + y.cells.length ≤ z.cells.length) :
    ∃ S', (Instr.storeAt t u w).run P S.w = .ok () S'.w ∧ S'.σ = S.σ.set r (.row true e k (xs.set j (mkElem z (putAt z.cells off y.cells)))) ∧ Inv S' ∧ Le S S' := by
  obtain ⟨hd, ti, hi, hsz, _⟩ := hT t i ht
  have hv := hy.cells h1
  have hvl : w.cells.toList.length = y.cells.length := hv.length
  have hone := hv.oneCell h1
  subst hn
  cases hx with
  | gp hg h0 he =>
    rename_i p o'
    rw [h] at hg; cases hg
    obtain ⟨_, he⟩ := he _ _ _ _ rfl
    have hp := he rfl
    subst hp
    obtain ⟨hk0, hk, hC1, hrow⟩ := hI.obj _ _ h
    have hxne : xs ≠ [] := fun e => h0 (by simp [e])
    obtain ⟨C, hC, hn, hm, hsz', hCs⟩ := hrow hxne
    have hzk := hk z (List.mem_of_getElem? hx')
    have hil : j < xs.length := (List.getElem?_eq_some_iff.1 hx').1
    have hik : j * k + k ≤ xs.length * k := by
      have := Nat.mul_le_mul_right k (show j + 1 ≤ xs.length by omega)
      rwa [Nat.add_mul, Nat.one_mul] at this
    have hxk : xs.length * k ≤ C.size := by rw [hsz']; exact Nat.mul_le_mul_right k hn
    have hrun := run_storeCells_at P (S.ρ r) (j * k + off) e w.cells.toList 0 C S.w hC (by omega) hone
    simp only [Nat.add_zero] at hrun
    have hput1 : ∀ c ∈ putAt z.cells off y.cells, c.one = true := fun c hc => by
      rcases mem_putAt hc with g | g
      · exact hC1 c (List.mem_flatMap.2 ⟨z, List.mem_of_getElem? hx', g⟩)
      · exact h1 c g
    have hflat := flat_set hk hx' (ys := y.cells) (off := off) (by omega) hput1
    have hmut : (AObj.row true e k xs).mut = true := by cases xs <;> simp_all [AObj.mut]
    let C' : Array Value := (C.toList.take (j * k + off) ++ w.cells.toList ++ C.toList.drop (j * k + off + w.cells.toList.length)).toArray
    have hT' : Turn S (S.w.setRow (S.ρ r) C') r (.row true e k (xs.set j (mkElem z (putAt z.cells off y.cells)))) (S.ρ r) (S.κ r) := {
      os := rfl
      tape := rfl
      output := rfl
      size := by simp [World.setRow]
      heap := fun c _ hc => setRow_other _ _ _ _ hc
      here := ⟨_, h, .inl hmut, by simp [ObjLe, St.upd]⟩
      place := .inl rfl
      fill := fun _ _ _ _ h' _ => by rw [h] at h'; cases h' }
    refine ⟨S.upd _ r _ _ _, ?_, rfl, upd_inv hI hT' ?_, upd_le hI hT'⟩
    · simp only [Instr.storeAt, Instr.sureAddr, Sem.run_bind, Sem.run_pure, Result.andThen_ok, storeVar, sizeOf, typeInfo, run_program, hi]
      have : w.cells.size = ti.size := by simp at hvl; omega
      simp [this, hrun, St.upd, C']
    · refine ⟨hk0, ?_, ?_, fun _ => ⟨C', by simpa [St.upd] using setRow_heap S.w (S.ρ r) C C' e (0, 0) hC, by simpa [St.upd] using hn, by simpa [St.upd] using hm, ?_, ?_⟩⟩
      · intro w' hw
        rcases List.mem_or_eq_of_mem_set hw with g | g
        · exact hk w' g
        · subst g; rw [mkElem_cells (putAt_length hle) hput1, putAt_length hle, hzk]
      · intro c hc
        rw [hflat] at hc
        rcases mem_putAt hc with g | g
        · exact hC1 c g
        · exact h1 c g
      · have hCl : C.toList.length = S.κ r * k := by simp [hsz']
        have hA : j * k + off + w.cells.toList.length ≤ C.toList.length := by rw [hCl, ← hsz']; omega
        simp only [St.upd, C', List.size_toArray, List.length_append, List.length_take, List.length_drop, if_true]
        omega
      · rw [hflat, List.length_set]
        have hmono := upd_le hI hT'
        have hq := (hCs.putAt hv (j * k + off)).mono hmono
        have : C'.toList.take (xs.length * k) = (C.toList.take (xs.length * k)).take (j * k + off) ++ w.cells.toList ++ (C.toList.take (xs.length * k)).drop (j * k + off + w.cells.toList.length) := by
          exact take_put _ _ _ _ (by omega) (by simpa using hxk)
        rw [this]
        exact hq

def storeOp (tab : TypeId → Option TI) (o : Oper) (env : Env) : Option (AV × AV × Nat) := match o.op with
  | .store t a x => match tab t with
    | some i => bif Nat.beq (aval env x).cells.length i.size && (aval env x).cells.all AV.one then some (aval env a, aval env x, i.size) else none
    | none => none
  | _ => none
theorem OpJ_storeMu (hT : TabOk P tab) {α : Type} {lf : List α → List AV} {ef : α → AV} (hl : ∀ xs, lf xs = xs.map ef) {xs : List α} {r n off k sz : Nat} {j : Int} {e : TypeId} {y y' : α} {w : AV}
    (h : storeOp tab o env = some (.gp r n j.toNat off, w, sz)) (hL : L[r]? = some (.row true e k (lf xs))) (hn : n = (lf xs).length) (hj : idx xs j = some y) (hle : Nat.ble (off + w.cells.length) (ef y).cells.length = true)
    (hy : mkElem (ef y) (putAt (ef y).cells off w.cells) = ef y') (hL' : L.set r (.row true e k (lf (xs.set j.toNat y'))) = L') : OpJ P N env L o .any L' := by
  subst hL'
  obtain ⟨h0, h1⟩ := idx_enc (e := ef) hj
  unfold storeOp at h
  split at h
  · rename_i t a' x' hop
    split at h
    · rename_i i hi
      cases hb : (Nat.beq (aval env x').cells.length i.size && (aval env x').cells.all AV.one) <;> simp only [hb, cond_true, cond_false] at h
      · cases h
      injection h with h
      injection h with ha h
      injection h with hw hsz
      simp only [Bool.and_eq_true] at hb
      intro S a hσ hI hE K Q hK
      subst hσ
      have hva := hE.eval a'
      rw [ha] at hva
      obtain ⟨S', g1, g2, g3, g4⟩ := run_store_gp hT hi hI hva (hE.eval x') hL hn (by rw [hl]; exact h1) (by simpa using hb.2) (Nat.eq_of_beq_eq_true hb.1) (by rw [hw]; exact Nat.le_of_ble_eq_true hle)
      have hr : (execOp a.eval o).run P S.w = .ok .skip S'.w := by simp only [execOp, hop, Sem.run_bind, g1, Result.andThen_ok]; rfl
      unfold Oper.wp
      rw [hr]
      refine hK undef S' ?_ g3 g4 (.any _)
      rw [g2, hw, hy, hl, hl, List.map_set]
    · cases h
  · cases h
theorem readGp {S : St} (hI : Inv S) {u : Value} {r n j off : Nat} {mu : Bool} {e : TypeId} {k : Nat} {xs : List AV} {z : AV} (hx : RV S u (.gp r n j off)) (h : S.σ[r]? = some (.row mu e k xs)) (hn : n = xs.length) (hz : xs[j]? = some z) :
    ∃ p, u = .pointer (some p) ∧ Rd S p (z.cells.drop off) := by
  subst hn
  cases hx with
  | gp hg h0 he =>
    rw [h] at hg; cases hg
    obtain ⟨_, he⟩ := he _ _ _ _ rfl
    have hp := he rfl
    subst hp
    refine ⟨_, rfl, ?_⟩
    obtain ⟨h9, h6, h7, hrow⟩ := hI.obj _ _ h
    obtain ⟨C, h1, h2, h3, h4, h5⟩ := hrow fun e => h0 (by simp [e])
    have hf := flat_at h6 hz
    have hxl := h6 z (List.mem_of_getElem? hz)
    have hr : RVs S (((C.toList.take (xs.length * k)).drop (j * k)).take k) z.cells := by rw [← hf]; exact (h5.drop _).take _
    refine ⟨_, hr.drop off, fun c hc => ?_, fun j' u hj => ?_⟩
    · exact h7 c (List.mem_flatMap.2 ⟨z, List.mem_of_getElem? hz, List.mem_of_mem_drop hc⟩)
    · rw [add_lit, cell_of_row S.w (S.ρ r) _ C e (0, 0) h1]
      rw [List.getElem?_drop, List.getElem?_take] at hj
      split at hj
      · rw [List.getElem?_drop, List.getElem?_take] at hj
        split at hj
        · simpa [Nat.add_assoc] using hj
        · cases hj
      · cases hj
def loadOp (tab : TypeId → Option TI) (o : Oper) (env : Env) : Option (AV × TypeId) := match o.op with
  | .load t a => some (aval env a, t)
  | _ => none
theorem OpJ_loadMu (hT : TabOk P tab) {α : Type} {lf : List α → List AV} {ef : α → AV} (hl : ∀ xs, lf xs = xs.map ef) {xs : List α} {r n off k : Nat} {j : Int} {mu : Bool} {e : TypeId} {y : α} {t : TypeId}
    (h : loadOp tab o env = some (.gp r n j.toNat off, t)) (hL : L[r]? = some (.row mu e k (lf xs))) (hn : n = (lf xs).length) (hj : idx xs j = some y)
    (hv : ((tab t).bind fun i => loadAs i ((ef y).cells.drop off)) = some v) : OpJ P N env L o v L := by
  obtain ⟨h0, h1⟩ := idx_enc (e := ef) hj
  unfold loadOp at h
  split at h
  · rename_i t' a' hop
    injection h with h
    injection h with ha ht
    subst ht
    cases hi : tab t' with
    | none => simp [hi] at hv
    | some i =>
      simp only [hi, Option.bind_some] at hv
      refine .tell fun S a hσ hI hE => ?_
      subst hσ
      have hva := hE.eval a'
      rw [ha] at hva
      obtain ⟨p, hp, hrd⟩ := readGp hI hva hL hn (by rw [hl]; exact h1)
      obtain ⟨u, hu, hr⟩ := run_load_as hT hi hrd hv
      exact ⟨u, by simp only [execOp, hop, hp, Sem.run_bind, hu, Result.andThen_ok]; rfl, hr⟩
  · cases h

/-! ### an object is given up -/
theorem kill_ok {S : St} (hI : Inv S) {r : Nat} {mu : Bool} {e : TypeId} {k : Nat} {xs : List AV} (h : S.σ[r]? = some (.row mu e k xs)) :
    Inv { S with σ := S.σ.set r .dead } ∧ Le S { S with σ := S.σ.set r .dead } := by
  have hrl := (List.getElem?_eq_some_iff.1 h).1
  let S' : St := { S with σ := S.σ.set r .dead }
  have hr : S'.σ[r]? = some .dead := by simp [S', hrl]
  have hne : ∀ {q}, q ≠ r → S'.σ[q]? = S.σ[q]? := fun {q} hq => by simp [S', List.getElem?_set_ne (Ne.symm hq)]
  have hM : ∀ b, S'.M b → S.M b := fun b hb => by
    rcases hb with ⟨q, y, hy, hm, hb⟩ | hb
    · by_cases hq : q = r
      · subst hq; rw [hr] at hy; cases hy; simp [AObj.mut] at hm
      · rw [hne hq] at hy; exact .inl ⟨q, y, hy, hm, hb⟩
    · exact .inr hb
  have hle : Le S S' := {
    os := rfl
    tape := rfl
    output := rfl
    size := Nat.le_refl _
    outs := rfl
    oims := rfl
    outh := fun _ _ => rfl
    imm := fun b hb => ⟨⟨hb.1, fun hm => hb.2 (hM b hm)⟩, rfl⟩
    fil := fun b i hb => by
      refine ⟨?_, rfl⟩
      have hlt := Fil_lt hI hb
      rcases hb with ⟨q, e', k', xs', hq, h1, h2⟩ | hb
      · by_cases hqr : q = r
        · subst hqr
          have hmut : (AObj.row false e' k' xs').mut = true := by cases xs' <;> simp_all [AObj.mut]
          refine .inl ⟨hlt, fun hm => ?_⟩
          rcases hm with ⟨p, y, hy, hym, hb⟩ | hb
          · by_cases hp : p = q
            · subst hp; rw [hr] at hy; cases hy; simp [AObj.mut] at hym
            · rw [hne hp] at hy
              exact hp (hI.inj p q y _ hy hq hym hmut (hb.trans h1.symm))
          · exact hI.outr q _ hq hmut (by rw [h1]; exact hb)
        · exact .inr (.inl ⟨q, e', k', xs', by rw [hne hqr]; exact hq, h1, h2⟩)
      · exact .inr (.inr hb)
    obj := fun q y hy => by
      by_cases hq : q = r
      · subst hq; rw [h] at hy; cases hy
        exact ⟨_, hr, trivial⟩
      · exact ⟨y, by rw [hne hq]; exact hy, by cases y <;> simp [ObjLe, S']⟩ }
  refine ⟨{
    gl := hI.gl.le hle
    obj := fun q y hy => by
      by_cases hq : q = r
      · subst hq; rw [hr] at hy; cases hy; trivial
      · rw [hne hq] at hy
        exact (hI.obj q y hy).keep hle rfl rfl (fun _ => rfl) fun b hb => .inl (hM b hb)
    inj := fun q q' y y' hy hy' hm hm' e => by
      by_cases hq : q = r
      · subst hq; rw [hr] at hy; cases hy; simp [AObj.mut] at hm
      · by_cases hq' : q' = r
        · subst hq'; rw [hr] at hy'; cases hy'; simp [AObj.mut] at hm'
        · rw [hne hq] at hy; rw [hne hq'] at hy'
          exact hI.inj q q' y y' hy hy' hm hm' e
    outl := hI.outl
    outr := fun q y hy hm => by
      by_cases hq : q = r
      · subst hq; rw [hr] at hy; cases hy; simp [AObj.mut] at hm
      · rw [hne hq] at hy; exact hI.outr q y hy hm }, hle⟩
theorem Gh.kill (r : Nat) {mu : Bool} {e : TypeId} {k : Nat} {xs : List AV} (h : L[r]? = some (.row mu e k xs)) (e' : L.set r .dead = L') : Gh L L' := fun S hσ hI => by
  subst e'; subst hσ
  obtain ⟨k1, k2⟩ := kill_ok hI h
  exact ⟨{ S with σ := S.σ.set r .dead }, rfl, rfl, k1, k2⟩

/-! ### the store in another order -/
def pname (ν : List Nat) (i : Nat) : Nat := (ν[i]?).getD i
theorem perm_ok {S : St} (hI : Inv S) {ν : List Nat} {L' : List AObj} (hlen : L'.length = ν.length) (hlen2 : S.σ.length = ν.length) (hnd : ν.Nodup) (hsur : ∀ r, r < S.σ.length → r ∈ ν) (hF : FrameOk S.σ (pname ν) L' ν) (hlow : (L'.all fun o => o.low L'.length) = true) :
    ∃ T : St, T.w = S.w ∧ T.σ = L' ∧ Inv T ∧ Seen T S (pname ν) ∧ T.out = S.out ∧ T.oim = S.oim ∧ (∀ i, T.ρ i = S.ρ (pname ν i)) ∧ (∀ i, T.κ i = S.κ (pname ν i)) ∧ (∀ b, T.M b ↔ S.M b) := by
  let g := pname ν
  have gin : ∀ {i r}, ν[i]? = some r → g i = r := fun {i r} e => by simp [g, pname, e]
  let T : St := { w := S.w, σ := L', ρ := fun i => S.ρ (g i), κ := fun i => S.κ (g i), out := S.out, oim := S.oim }
  have hTl : T.σ.length = ν.length := hlen
  have hobj : ∀ (i : Nat) (o : AObj), T.σ[i]? = some o → S.σ[g i]? = some (o.ren g) := fun i o ho => by
    have hi : i < ν.length := by have := (List.getElem?_eq_some_iff.1 ho).1; omega
    have h1 : ν[i]? = some ν[i] := by simp
    have := hF.get i _ o h1 ho
    rwa [gin h1]
  have hback : ∀ (r : Nat) (o : AObj), S.σ[r]? = some o → ∃ i o', T.σ[i]? = some o' ∧ g i = r ∧ o = o'.ren g := fun r o ho => by
    obtain ⟨i, hi⟩ := List.getElem?_of_mem (hsur r (List.getElem?_eq_some_iff.1 ho).1)
    have hil := (List.getElem?_eq_some_iff.1 hi).1
    have h1 : T.σ[i]? = some (L'[i]'(by omega)) := List.getElem?_eq_getElem (by omega)
    have h2 := hobj i _ h1
    rw [gin hi, ho] at h2
    injection h2 with h2
    exact ⟨i, _, h1, gin hi, h2⟩
  have ginj : ∀ i j, i < ν.length → j < ν.length → g i = g j → i = j := fun i j hi hj e => by
    have h1 : ν[i]? = some ν[i] := by simp
    have h2 : ν[j]? = some ν[j] := by simp
    rw [gin h1, gin h2] at e
    exact (List.getElem?_inj hi hnd).1 (by rw [h1, h2, e])
  have hM : ∀ b, T.M b ↔ S.M b := fun b => by
    constructor
    · rintro (⟨i, o, ho, hm, hb⟩ | hb)
      · exact .inl ⟨g i, _, hobj i o ho, by rw [ren_mut]; exact hm, hb⟩
      · exact .inr hb
    · rintro (⟨r, o, ho, hm, hb⟩ | hb)
      · obtain ⟨i, o', h1, h2, rfl⟩ := hback r o ho
        exact .inl ⟨i, o', h1, by rw [← ren_mut (f := g)]; exact hm, by show S.ρ (g i) = b; rw [h2]; exact hb⟩
      · exact .inr hb
  have hFil : ∀ b o, S.Fil b o ↔ T.Fil b o := fun b o => by
    constructor
    · rintro (⟨r, e, k, xs, h, h1, h2⟩ | h)
      · obtain ⟨i, o', k1, k2, k3⟩ := hback r _ h
        cases o' <;> simp only [AObj.ren] at k3 <;> cases k3
        exact .inl ⟨i, _, _, _, k1, by show S.ρ (g i) = b; rw [k2]; exact h1, by simpa using h2⟩
      · exact .inr h
    · rintro (⟨i, e, k, xs, h, h1, h2⟩ | h)
      · exact .inl ⟨g i, e, k, _, hobj i _ h, h1, by simpa using h2⟩
      · exact .inr h
  have hseen : Seen T S g := ⟨rfl, fun i o ho => ⟨hobj i o ho, rfl, rfl⟩, fun b => ⟨fun hb => ⟨hb.1, fun hm => hb.2 ((hM b).1 hm)⟩, fun hb => ⟨hb.1, fun hm => hb.2 ((hM b).2 hm)⟩⟩, hFil⟩
  refine ⟨T, rfl, rfl, ?_, hseen, rfl, rfl, fun _ => rfl, fun _ => rfl, hM⟩
  exact {
    gl := ⟨hI.gl.1, fun b hb => (hseen.imm b).1 (hI.gl.2 b hb)⟩
    obj := fun i o ho => (hI.obj _ _ (hobj i o ho)).unren hseen (fun b hb => (hM b).1 hb) ho (by simp only [List.all_eq_true] at hlow; exact hlow o (List.mem_of_getElem? ho))
    inj := fun i j o o' ho ho' hm hm' e => by
      have := hI.inj _ _ _ _ (hobj i o ho) (hobj j o' ho') (by rw [ren_mut]; exact hm) (by rw [ren_mut]; exact hm') e
      have hi := (List.getElem?_eq_some_iff.1 ho).1
      have hj := (List.getElem?_eq_some_iff.1 ho').1
      exact ginj i j (by omega) (by omega) this
    outl := hI.outl
    outr := fun i o ho hm => hI.outr _ _ (hobj i o ho) (by rw [ren_mut]; exact hm) }

def renEnv (ν : List Nat) (env env' : Env) : Prop := env'.map (fun p => (p.1, p.2.ren (pname ν))) = env
theorem aget_renEnv {ν : List Nat} {t : Nat} : ∀ {env' : Env}, aget (env'.map fun p => (p.1, p.2.ren (pname ν))) t = (aget env' t).ren (pname ν)
  | [] => rfl
  | (k, v) :: e => by
    simp only [List.map_cons, aget]
    cases Nat.beq k t with
    | true => rfl
    | false => exact aget_renEnv
theorem AE_perm (ν : List Nat) (hlen : L'.length = ν.length) (hlen2 : L.length = ν.length) (hnd : ν.Nodup) (hsur : ((List.range ν.length).all fun r => ν.contains r) = true) (hpre : ((List.range m).all fun i => Nat.beq (pname ν i) i) = true)
    (hF : FrameOk L (pname ν) L' ν) (hlow : (L'.all fun o => o.low L'.length) = true) (he : env'.map (fun p => (p.1, p.2.ren (pname ν))) = env) (hel : (env'.all fun p => p.2.low L'.length) = true)
    (h : AE P N m x env' L' Q) : AE P N m x env L Q := fun S0 S a hm hl hσ hI hE hd => by
  subst hσ
  obtain ⟨T, t1, t2, t3, t4, t5, t6, t7, t8, t9⟩ := perm_ok hI hlen hlen2 hnd (fun r hr => by
    simp only [List.all_eq_true, List.mem_range] at hsur
    have := hsur r (by omega)
    simpa using this) hF hlow
  rw [← t1]
  have hpre' : ∀ r, r < m → pname ν r = r := fun r hr => by
    simp only [List.all_eq_true, List.mem_range] at hpre
    exact Nat.eq_of_beq_eq_true (hpre r hr)
  have hle : Le S0 T := {
    os := by rw [t1]; exact hl.os
    tape := by rw [t1]; exact hl.tape
    output := by rw [t1]; exact hl.output
    size := by rw [t1]; exact hl.size
    outs := by rw [t5]; exact hl.outs
    oims := by rw [t6]; exact hl.oims
    outh := fun b hb => by rw [t1]; exact hl.outh b hb
    imm := fun b hb => by rw [t1]; exact ⟨(t4.imm b).1 (hl.imm b hb).1, (hl.imm b hb).2⟩
    fil := fun b i hb => by
      rw [t1]
      exact ⟨(hl.fil b i hb).1.elim (fun g => .inl ((t4.imm b).1 g)) (fun g => .inr ((t4.fil b i).1 g)), (hl.fil b i hb).2⟩
    obj := fun r o ho => by
      obtain ⟨o1, h1, h2⟩ := hl.obj r o ho
      have hr : r < m := by have := (List.getElem?_eq_some_iff.1 ho).1; omega
      have hrS := (List.getElem?_eq_some_iff.1 h1).1
      have e1 : T.σ[r]? = some (L'[r]'(by omega)) := by rw [t2]; exact List.getElem?_eq_getElem (by omega)
      obtain ⟨g1, g2, g3⟩ := t4.obj r _ e1
      rw [hpre' r hr, h1] at g1
      injection g1 with g1
      subst g1
      refine ⟨_, e1, ?_⟩
      have r1 : T.ρ r = S.ρ r := by rw [t7, hpre' r hr]
      have r2 : T.κ r = S.κ r := by rw [t8, hpre' r hr]
      generalize L'[r]'(by omega) = z at h2 ⊢
      cases o <;> cases z <;> simp only [ObjLe, AObj.ren, List.length_map, r1, r2] at h2 ⊢ <;> exact h2 }
  refine h S0 T a hm hle t2 t3 ⟨hE.size, fun t => ?_⟩ hd
  have := hE.get t
  rw [← he, aget_renEnv] at this
  exact RV.unren t4 _ (by rw [t2]; exact low_env hel t) this
end
end Go.Vm
