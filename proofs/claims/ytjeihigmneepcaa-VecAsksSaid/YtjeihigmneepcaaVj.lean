/- Operations that ask something: indexes, cuts, what grows; ghost steps: a row that is written no more. -/
import Derived.Test.YtjeihigmneepcaaVi
import Derived.Laws.Slices
import Derived.Laws.OwnMore
set_option linter.unusedVariables false
set_option linter.unusedSectionVars false
set_option linter.unusedSimpArgs false
namespace Go.Vm
variable [Glob]

section
variable {P : Program} {tab : TypeId → Option TI} {N : Nat} {env : Env} {L L' : List AObj} {o : Oper} {v : AV}

theorem tab_desc {t : TypeId} {d : TypeDesc} (hT : TabOk P tab) (h : (tab t).map TI.desc = some d) : P.underlying t = some d := by
  cases ht : tab t with
  | none => simp [ht] at h
  | some i => simp [ht] at h; rw [← h]; exact (hT t i ht).1
theorem elem_of {t e : TypeId} (h : P.underlying t = some (.slice e)) : P.elem t = e := by simp [Program.elem, h]

/-! ### indexes -/
theorem RV.elemAt {S : St} {a : Option Addr} {n c : Nat} {xs : List AV} (h : RV S (.slice a n c) (.sl xs)) {j : Nat} {x : AV} (hx : xs[j]? = some x) :
    ∃ ad, a = some ad ∧ n = xs.length ∧ RV S (.pointer (some (ad.add (j * x.cells.length)))) (.rp x.cells) := by
  cases h with
  | sl hn hcm hr hk h1 hs hc =>
    rename_i us k
    have hxm := List.mem_of_getElem? hx
    obtain ⟨ad, rfl⟩ := hs (List.ne_nil_of_mem hxm)
    have hxk := hk x hxm
    refine ⟨ad, rfl, hn, ?_⟩
    rw [hxk]
    have hf := flat_at hk hx
    have hr' : RVs S ((us.drop (j * k)).take k) x.cells := by rw [← hf]; exact (hr.drop _).take _
    refine .rp hr' (fun y hy => h1 y (List.mem_flatMap.2 ⟨x, hxm, hy⟩)) fun i u hu => ?_
    rw [List.getElem?_take] at hu
    split at hu
    · rw [List.getElem?_drop] at hu
      obtain ⟨ad', e, hi, hcell⟩ := hc _ u hu
      cases e
      have hsp : ad.spot = none := by
        have h0 : ∃ u0, us[0]? = some u0 := ⟨us[0]'(by have := (List.getElem?_eq_some_iff.1 hu).1; omega), by simp⟩
        obtain ⟨u0, hu0⟩ := h0
        obtain ⟨ad', e, _, h00⟩ := hc 0 u0 hu0
        cases e
        have := spot_of_cell h00
        simpa [add_zero] using this
      rw [add_add _ _ _ hsp]
      exact ⟨hi, hcell⟩
    · cases hu

theorem OpJ_indexSl (hT : TabOk P tab) {t e : TypeId} {x ix : Operand} {ie : TI} {xs : List AV} {k : IntKind} {i : Int} {y : AV} (hop : o.op = .indexAddr t x ix) (hd : (tab t).map TI.desc = some (.slice e)) (he : tab e = some ie)
    (hx : aval env x = .sl xs) (hix : aval env ix = .int k i) (h0 : 0 ≤ i) (hy : xs[i.toNat]? = some y) (hs : y.cells.length = ie.size) : OpJ P N env L o (.rp y.cells) L := by
  refine .tell fun S a hσ hI hE => ?_
  have hv := hE.eval x
  have hvi := hE.eval ix
  rw [hx] at hv
  rw [hix] at hvi
  generalize hu : a.eval x = u at hv
  generalize hui : a.eval ix = ui at hvi
  cases hvi
  have hv' := hv
  cases hv with
  | sl hn hcm hr hk h1 hs' hc =>
    obtain ⟨ad, rfl, hn, hp⟩ := hv'.elemAt hy
    have hil := (List.getElem?_eq_some_iff.1 hy).1
    obtain ⟨_, ti, g1, g2, _⟩ := hT e ie he
    have hdt := tab_desc hT hd
    refine ⟨_, ?_, hp⟩
    have hlt : i < (xs.length : Int) := by omega
    simp [execOp, hop, hu, hui, Instr.indexAt, asIntOf, run_underlying hdt, h0, hn, hlt, sizeOf, typeInfo, g1, g2, hs]

theorem OpJ_indexOwn (hT : TabOk P tab) {t e e' : TypeId} {x ix : Operand} {ie : TI} {r ver : Nat} {fr : Bool} {xs : List AV} {k : IntKind} {i : Int} (hop : o.op = .indexAddr t x ix) (hd : (tab t).map TI.desc = some (.slice e)) (he : tab e = some ie)
    (hx : aval env x = .own r ver) (hL : L[r]? = some (.arr fr ver e' ie.size xs)) (hix : aval env ix = .int k i) (h0 : 0 ≤ i) (hlt : i.toNat < xs.length) : OpJ P N env L o (.op r ver i.toNat 0) L := by
  refine .tell fun S a hσ hI hE => ?_
  subst hσ
  have hv := hE.eval x
  have hvi := hE.eval ix
  rw [hx] at hv
  rw [hix] at hvi
  generalize hu : a.eval x = u at hv
  generalize hui : a.eval ix = ui at hvi
  cases hvi
  cases hv with
  | own hg hv he' =>
    rw [hL] at hg; cases hg
    obtain ⟨rfl, rfl, rfl⟩ := he' rfl
    obtain ⟨_, ti, g1, g2, _⟩ := hT e ie he
    have hdt := tab_desc hT hd
    have hlt' : i < (xs.length : Int) := by omega
    refine ⟨.pointer (some ⟨S.ρ r, i.toNat * ie.size + 0, none⟩), ?_, .op hL (Nat.le_refl _) fun _ => rfl⟩
    simp [execOp, hop, hu, hui, Instr.indexAt, asIntOf, run_underlying hdt, h0, hlt', sizeOf, typeInfo, g1, g2, add_lit]

/-- A byte of a string, as a number. -/
def sbyte (s : ByteArray) (i : Nat) : Int := if h : i < s.size then ((s[i]'h).toNat : Int) else 0
theorem OpJ_indexStr (hT : TabOk P tab) {t : TypeId} {x ix : Operand} {s : ByteArray} {k : IntKind} {i : Int} (hop : o.op = .index t x ix) (hd : (tab t).map TI.desc = some .string)
    (hx : aval env x = .str s) (hix : aval env ix = .int k i) (h0 : 0 ≤ i) (hlt : i < s.size) : OpJ P N env L o (.int .u8 (sbyte s i.toNat)) L := by
  refine .tell fun S a hσ hI hE => ?_
  have hv := hE.eval x
  have hvi := hE.eval ix
  rw [hx] at hv
  rw [hix] at hvi
  generalize hu : a.eval x = u at hv
  generalize hui : a.eval ix = ui at hvi
  cases hvi
  cases hv
  have hdt := tab_desc hT hd
  have h2 : i.toNat < s.size := by omega
  refine ⟨_, ?_, .int _ _⟩
  simp only [execOp, hop, hu, hui, Sem.run_bind, run_index_string S.w t s k i hdt, dif_pos (And.intro h0 hlt), Result.andThen_ok, sbyte, dif_pos h2]
  rfl

/-! ### cuts -/
def aidx (x : Option AV) (d : Int) : Option Int :=
  match x with
  | none => some d
  | some (.int _ i) => some i
  | _ => none
theorem aidx_sound {S : St} {a : Act} (hE : EnvR N S a env) {x : Option Operand} {d i : Int} (h : aidx (x.map (aval env)) d = some i) : (x = none ∧ i = d) ∨ ∃ y k, x = some y ∧ a.eval y = .int k i := by
  cases x with
  | none => simp [aidx] at h; exact .inl ⟨rfl, h.symm⟩
  | some y =>
    right
    have hv := hE.eval y
    simp only [Option.map_some, aidx] at h
    split at h
    · rename_i e; cases e
    · rename_i k' i' e
      cases h
      injection e with e
      rw [e] at hv
      generalize hu : a.eval y = u at hv
      cases hv
      exact ⟨y, _, rfl, hu⟩
    · cases h

theorem run_sliceBounds_ok {P : Program} {w : World} {isSlice : Bool} {len cap : Nat} {lo hi : Option Value} {l h : Int} (hlo : (lo = none ∧ l = 0) ∨ ∃ k, lo = some (.int k l)) (hhi : (hi = none ∧ h = len) ∨ ∃ k, hi = some (.int k h))
    (h0 : 0 ≤ l) (h1 : l ≤ h) (h2 : h ≤ cap) : (Instr.sliceBounds isSlice len cap lo hi none).run P w = .ok (l.toNat, h.toNat, cap) w := by
  have hh0 : 0 ≤ h := by omega
  have e1 : (h.toNat : Int) = h := Int.toNat_of_nonneg hh0
  rcases hlo with ⟨rfl, rfl⟩ | ⟨kl, rfl⟩ <;> rcases hhi with ⟨rfl, rfl⟩ | ⟨kh, rfl⟩ <;> simp [Instr.sliceBounds, Instr.sliceBound, asIntOf, *]

theorem OpJ_sliceStr (hT : TabOk P tab) {t : TypeId} {x : Operand} {lo hi : Option Operand} {s : ByteArray} {l h : Int} (hop : o.op = .slice t x lo hi none) (hd : (tab t).map TI.desc = some .string)
    (hx : aval env x = .str s) (hl : aidx (lo.map (aval env)) 0 = some l) (hh : aidx (hi.map (aval env)) s.size = some h) (h0 : 0 ≤ l) (h1 : l ≤ h) (h2 : h ≤ s.size) : OpJ P N env L o (.str (s.extract l.toNat h.toNat)) L := by
  refine .tell fun S a hσ hI hE => ?_
  have hv := hE.eval x
  rw [hx] at hv
  generalize hu : a.eval x = u at hv
  cases hv
  have hdt := tab_desc hT hd
  have hb := run_sliceBounds_ok (P := P) (w := S.w) (isSlice := false) (len := s.size) (cap := s.size) (lo := lo.map a.eval) (hi := hi.map a.eval)
    (by rcases aidx_sound hE hl with ⟨rfl, rfl⟩ | ⟨y, k, rfl, e⟩ <;> simp [*]) (by rcases aidx_sound hE hh with ⟨rfl, rfl⟩ | ⟨y, k, rfl, e⟩ <;> simp [*]) h0 h1 h2
  refine ⟨_, ?_, .str _⟩
  simp [execOp, hop, hu, Instr.sliceAt, Instr.slice, run_underlying hdt, hb]

theorem flat_take {k : Nat} : ∀ {xs : List AV} (hk : ∀ x ∈ xs, x.cells.length = k) (g : Nat), (xs.take g).flatMap AV.cells = (xs.flatMap AV.cells).take (g * k)
  | [], _, g => by simp
  | x :: xs, hk, 0 => by simp
  | x :: xs, hk, g + 1 => by
    have hx := hk x (by simp)
    have ih := flat_take (xs := xs) (fun z hz => hk z (by simp [hz])) g
    simp only [List.take_succ_cons, List.flatMap_cons, ih]
    rw [show (g + 1) * k = x.cells.length + g * k by rw [hx, Nat.add_mul]; omega, List.take_length_add_append]
theorem flat_drop {k : Nat} : ∀ {xs : List AV} (hk : ∀ x ∈ xs, x.cells.length = k) (g : Nat), (xs.drop g).flatMap AV.cells = (xs.flatMap AV.cells).drop (g * k)
  | [], _, g => by simp
  | x :: xs, hk, 0 => by simp
  | x :: xs, hk, g + 1 => by
    have hx := hk x (by simp)
    have ih := flat_drop (xs := xs) (fun z hz => hk z (by simp [hz])) g
    simp only [List.drop_succ_cons, List.flatMap_cons, ih]
    rw [show (g + 1) * k = x.cells.length + g * k by rw [hx, Nat.add_mul]; omega, List.drop_length_add_append]
theorem RV.cutSl {S : St} {a : Option Addr} {n c : Nat} {xs : List AV} (h : RV S (.slice a n c) (.sl xs)) {l g : Nat} (h1 : l ≤ g) (h2 : g ≤ xs.length) {size : Nat} (hs : ∀ x ∈ xs, x.cells.length = size) :
    RV S (sliced a l g c size) (.sl ((xs.take g).drop l)) := by
  cases h with
  | sl hn hcm hr hk h1' hs' hc =>
    rename_i us k
    have hmem : ∀ x ∈ (xs.take g).drop l, x ∈ xs := fun x hx => List.mem_of_mem_take (List.mem_of_mem_drop hx)
    by_cases hne : (xs.take g).drop l = []
    · rw [hne]
      have hlen : g - l = 0 := by have := congrArg List.length hne; simp at this; omega
      refine RV.sl (k := 0) (us := []) (by simp [hlen]) ⟨by omega, by omega⟩ .nil (by simp) (by simp) (by simp) (by simp)
    · have hxne : xs ≠ [] := fun e => hne (by simp [e])
      obtain ⟨ad, rfl⟩ := hs' hxne
      have hks : k = size := by
        obtain ⟨x, hx⟩ := List.exists_mem_of_ne_nil xs hxne
        rw [← hk x hx, hs x hx]
      subst hks
      have hlen : l < g := by
        rcases Nat.lt_or_ge l g with g1 | g1
        · exact g1
        · exfalso; apply hne; apply List.drop_eq_nil_of_le; simp; omega
      have hflat : ((xs.take g).drop l).flatMap AV.cells = ((xs.flatMap AV.cells).take (g * k)).drop (l * k) := by
        rw [flat_drop (k := k) (fun x hx => hk x (List.mem_of_mem_take hx)), flat_take (k := k) hk]
      refine RV.sl (k := k) (us := (us.take (g * k)).drop (l * k)) (by simp; omega) ⟨by omega, by omega⟩ (by rw [hflat]; exact (hr.take _).drop _) (fun x hx => hk x (hmem x hx)) (fun y hy => ?_) (fun _ => ?_) fun j u hu => ?_
      · rw [hflat] at hy
        exact h1' y (List.mem_of_mem_take (List.mem_of_mem_drop hy))
      · split
        · exact ⟨ad, rfl⟩
        · exact ⟨_, rfl⟩
      · rw [List.getElem?_drop, List.getElem?_take] at hu
        split at hu
        · obtain ⟨ad', e, hi, hcell⟩ := hc _ u hu
          cases e
          have hsp : ad.spot = none := by
            have h0 : ∃ u0, us[0]? = some u0 := ⟨us[0]'(by have := (List.getElem?_eq_some_iff.1 hu).1; omega), by simp⟩
            obtain ⟨u0, hu0⟩ := h0
            obtain ⟨ad', e, _, h00⟩ := hc 0 u0 hu0
            cases e
            have := spot_of_cell h00
            simpa [add_zero] using this
          have hnc : ¬ (c = l) := by omega
          refine ⟨ad.add (l * k), by simp [hnc], ?_⟩
          rw [add_add _ _ _ hsp]
          exact ⟨hi, hcell⟩
        · cases hu

theorem OpJ_sliceSl (hT : TabOk P tab) {t e : TypeId} {x : Operand} {lo hi : Option Operand} {xs : List AV} {ie : TI} {l h : Int} (hop : o.op = .slice t x lo hi none) (hd : (tab t).map TI.desc = some (.slice e)) (he : tab e = some ie)
    (hx : aval env x = .sl xs) (hl : aidx (lo.map (aval env)) 0 = some l) (hh : aidx (hi.map (aval env)) xs.length = some h) (h0 : 0 ≤ l) (h1 : l ≤ h) (h2 : h ≤ xs.length) (hs : ∀ x ∈ xs, x.cells.length = ie.size) :
    OpJ P N env L o (.sl ((xs.take h.toNat).drop l.toNat)) L := by
  refine .tell fun S a hσ hI hE => ?_
  have hv := hE.eval x
  rw [hx] at hv
  generalize hu : a.eval x = u at hv
  have hv' := hv
  cases hv with
  | sl hn hcm hr hk h1' hs' hc =>
    rename_i ad n c us k
    have hdt := tab_desc hT hd
    obtain ⟨_, ti, g1, g2, _⟩ := hT e ie he
    have hb := run_sliceBounds_ok (P := P) (w := S.w) (isSlice := true) (len := n) (cap := c) (lo := lo.map a.eval) (hi := hi.map a.eval)
      (by rcases aidx_sound hE hl with ⟨rfl, rfl⟩ | ⟨y, k, rfl, e⟩ <;> simp [*]) (by rcases aidx_sound hE hh with ⟨rfl, rfl⟩ | ⟨y, k, rfl, e⟩ <;> simp [*]) h0 h1 (by omega)
    refine ⟨_, ?_, hv'.cutSl (l := l.toNat) (g := h.toNat) (by omega) (by omega) hs⟩
    simp [execOp, hop, hu, Instr.sliceAt, Instr.slice, run_underlying hdt, hb, sizeOf, typeInfo, g1, g2, sliced]

/-! ### a row that is written no more -/
theorem freeze_ok {S : St} (hI : Inv S) {r ver : Nat} {fr : Bool} {e : TypeId} {k : Nat} {xs : List AV} (h : S.σ[r]? = some (.arr fr ver e k xs)) :
    let S' : St := { S with σ := S.σ.set r (.arr true ver e k xs) }
    Inv S' ∧ Le S S' := by
  intro S'
  have hrl := (List.getElem?_eq_some_iff.1 h).1
  have hr : S'.σ[r]? = some (.arr true ver e k xs) := by simp [S', hrl]
  have ho : ∀ {q}, q ≠ r → S'.σ[q]? = S.σ[q]? := fun {q} hq => by simp [S', List.getElem?_set_ne (Ne.symm hq)]
  have hM : ∀ b, S'.M b → S.M b := fun b hb => by
    rcases hb with ⟨q, y, hy, hm, hb⟩ | hb
    · by_cases hq : q = r
      · subst hq; rw [hr] at hy; cases hy; simp [AObj.mut] at hm
      · rw [ho hq] at hy; exact .inl ⟨q, y, hy, hm, hb⟩
    · exact .inr hb
  have hnM : ¬ S'.M (S.ρ r) := by
    rintro (⟨q, y, hy, hm, hb⟩ | hb)
    · by_cases hq : q = r
      · subst hq; rw [hr] at hy; cases hy; simp [AObj.mut] at hm
      · rw [ho hq] at hy
        cases fr with
        | true =>
          obtain ⟨_, _, _, _, _, _, _, _, h8, _⟩ := hI.obj r _ h
          exact h8 rfl (.inl ⟨q, y, hy, hm, hb⟩)
        | false => exact hq (hI.inj q r y _ hy h hm rfl hb)
    · cases fr with
      | true =>
        obtain ⟨_, _, _, _, _, _, _, _, h8, _⟩ := hI.obj r _ h
        exact h8 rfl (.inr hb)
      | false => exact hI.outr r _ h rfl hb
  have hle : Le S S' := {
    os := rfl
    tape := rfl
    output := rfl
    size := Nat.le_refl _
    outs := rfl
    oims := rfl
    fil := fun b o hb => by
      refine ⟨.inr ?_, rfl⟩
      rcases hb with ⟨q, e', k', xs', hq, h1, h2⟩ | hb
      · refine .inl ⟨q, e', k', xs', ?_, h1, h2⟩
        rw [ho fun e => by subst e; rw [h] at hq; cases hq]
        exact hq
      · exact .inr hb
    outh := fun _ _ => rfl
    imm := fun b hb => ⟨⟨hb.1, fun hm => hb.2 (hM b hm)⟩, rfl⟩
    obj := fun q y hy => by
      by_cases hq : q = r
      · subst hq; rw [h] at hy; cases hy
        exact ⟨_, hr, by simp [ObjLe, S']⟩
      · exact ⟨y, by rw [ho hq]; exact hy, by cases y <;> simp [ObjLe, S']⟩ }
  refine ⟨{
    gl := hI.gl.le hle
    obj := fun q y hy => by
      by_cases hq : q = r
      · subst hq; rw [hr] at hy; cases hy
        obtain ⟨C, h1, h2, h3, h4, h5, h6, h7, h8, h9⟩ := hI.obj q _ h
        exact ⟨C, h1, h2, h3, h4, h5.mono hle, h6, h7, fun _ => hnM, h9⟩
      · rw [ho hq] at hy
        exact (hI.obj q y hy).keep hle rfl rfl (fun _ => rfl) fun b hb => .inl (hM b hb)
    inj := fun q q' y y' hy hy' hm hm' e => by
      by_cases hq : q = r
      · subst hq; rw [hr] at hy; cases hy; simp [AObj.mut] at hm
      · by_cases hq' : q' = r
        · subst hq'; rw [hr] at hy'; cases hy'; simp [AObj.mut] at hm'
        · rw [ho hq] at hy; rw [ho hq'] at hy'
          exact hI.inj q q' y y' hy hy' hm hm' e
    outl := hI.outl
    outr := fun q y hy hm => by
      by_cases hq : q = r
      · subst hq; rw [hr] at hy; cases hy; simp [AObj.mut] at hm
      · rw [ho hq] at hy; exact hI.outr q y hy hm }, hle⟩

theorem AW_freeze {m : Nat} {c : Code} {Q : Pst} {r ver : Nat} {fr : Bool} {e : TypeId} {k : Nat} {xs : List AV} (h : L[r]? = some (.arr fr ver e k xs)) (hk : AW P N m c env (L.set r (.arr true ver e k xs)) Q) : AW P N m c env L Q := by
  intro S0 S a hm hl hσ hI hE hd
  subst hσ
  obtain ⟨g1, g2⟩ := freeze_ok hI h
  exact hk S0 { S with σ := S.σ.set r (.arr true ver e k xs) } a hm (hl.trans g2) rfl g1 (hE.mono g2) hd
theorem AWOps_freeze {m : Nat} {ops : Array Oper} {l : List Oper} {Q : Pst} {r ver : Nat} {fr : Bool} {e : TypeId} {k : Nat} {xs : List AV} (h : L[r]? = some (.arr fr ver e k xs)) (hk : AWOps P N m ops l env (L.set r (.arr true ver e k xs)) Q) : AWOps P N m ops l env L Q := by
  intro S0 S a hm hl hσ hI hE hd
  subst hσ
  obtain ⟨g1, g2⟩ := freeze_ok hI h
  exact hk S0 { S with σ := S.σ.set r (.arr true ver e k xs) } a hm (hl.trans g2) rfl g1 (hE.mono g2) hd

/-- A row that is written no more is a list. -/
theorem Weak.own {r ver : Nat} {e : TypeId} {k : Nat} {xs : List AV} (h : L[r]? = some (.arr true ver e k xs)) : Weak L (.own r ver) (.sl xs) := by
  intro S u hσ hI hr
  subst hσ
  cases hr with
  | own hg hv he =>
    rw [h] at hg; cases hg
    obtain ⟨rfl, rfl, rfl⟩ := he rfl
    obtain ⟨C, h1, h2, h3, h4, h5, h6, h7, h8, h9⟩ := hI.obj r _ h
    have hlt : S.ρ r < S.w.heap.size := (hI.obj r _ h).lt rfl
    refine .sl (k := k) rfl ⟨h2, h3⟩ h5 h6 h7 (fun _ => ⟨_, rfl⟩) fun j u hu => ?_
    rw [List.getElem?_take] at hu
    split at hu
    · exact ⟨_, rfl, .inl ⟨by rw [add_block]; exact hlt, by rw [add_block]; exact h8 rfl⟩, by rw [add_lit, cell_of_row S.w (S.ρ r) _ C e (0, 0) h1]; simpa using hu⟩
    · cases hu
theorem Weak.nil : Weak L .nil (.sl []) := by
  intro S u hσ hI hr
  cases hr
  exact .sl (k := 0) (us := []) rfl ⟨Nat.le_refl _, Nat.zero_le _⟩ .nil (by simp) (by simp) (by simp) (by simp)
theorem Weak.agg {xs ys : List AV} (h : ∀ i : Nat, Weak L ((xs[i]?).getD .any) ((ys[i]?).getD .any)) (hl : xs.length = ys.length) (h1 : ys.all AV.one = true) : Weak L (.agg xs) (.agg ys) := by
  intro S u hσ hI hr
  cases hr with
  | agg hrs _ =>
    refine .agg (RVs.of_get (by rw [hrs.length, hl]) fun j u x hu hx => ?_) (by simpa using h1)
    obtain ⟨x', hx', hr'⟩ := hrs.get' hu
    have := h j S u hσ hI
    simp [hx, hx'] at this
    exact this hr'

/-- Lengths are no greater than what an int can be. -/
theorem AW_len {m : Nat} {c : Code} {Q : Pst} {t : Nat} {xs : List AV} (h : aget env t = .sl xs) (hk : xs.length ≤ 9223372036854775807 → AW P N m c env L Q) : AW P N m c env L Q := by
  intro S0 S a hm hl hσ hI hE hd
  have := hE.get t
  rw [h] at this
  generalize a.tmps.getD t undef = u at this
  cases this with
  | sl hn hcm hr hk' h1 hs hc => exact hk (by simp only [maxLen] at hcm; omega) S0 S a hm hl hσ hI hE hd
end
end Go.Vm
