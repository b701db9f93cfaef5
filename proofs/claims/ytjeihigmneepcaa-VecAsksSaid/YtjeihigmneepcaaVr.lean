/- Rows that grow: they are lists at once, and still may be appended to; ghost steps. -/
import Derived.Test.YtjeihigmneepcaaVq
set_option linter.unusedVariables false
set_option linter.unusedSectionVars false
set_option linter.unusedSimpArgs false
namespace Go.Vm
variable [Glob]

/-! ### ghost steps: the world stays, the store is told otherwise -/
def Gh (L L' : List AObj) : Prop := ∀ S : St, S.σ = L → Inv S → ∃ S', S'.w = S.w ∧ S'.σ = L' ∧ Inv S' ∧ Le S S'
theorem Gh.refl (L : List AObj) : Gh L L := fun S h hI => ⟨S, rfl, h, hI, Le.refl S⟩
theorem Gh.trans {L1 L2 L3 : List AObj} (h : Gh L1 L2) (k : Gh L2 L3) : Gh L1 L3 := fun S hσ hI => by
  obtain ⟨S1, a1, a2, a3, a4⟩ := h S hσ hI
  obtain ⟨S2, b1, b2, b3, b4⟩ := k S1 a2 a3
  exact ⟨S2, b1.trans a1, b2, b3, a4.trans b4⟩

def St.ghost (S : St) (mu : Bool) (e : TypeId) (k : Nat) : St := { S with σ := S.σ ++ [.row mu e k []] }
section
variable {S : St} {mu : Bool} {e : TypeId} {k : Nat}
theorem ghost_σ_old {r : Nat} {o : AObj} (h : S.σ[r]? = some o) : (S.ghost mu e k).σ[r]? = some o := by
  have := (List.getElem?_eq_some_iff.1 h).1
  simp [St.ghost, List.getElem?_append_left this, h]
theorem ghost_σ_cases {r : Nat} {o : AObj} (h : (S.ghost mu e k).σ[r]? = some o) : S.σ[r]? = some o ∨ o = .row mu e k [] := by
  rcases Nat.lt_or_ge r S.σ.length with g | g
  · left; simpa [St.ghost, List.getElem?_append_left g] using h
  · right
    simp only [St.ghost] at h
    rw [List.getElem?_append_right g] at h
    have := List.mem_of_getElem? h
    simpa using this
theorem ghost_M {b : Nat} : (S.ghost mu e k).M b ↔ S.M b := by
  constructor
  · rintro (⟨r, o, ho, hm, hb⟩ | hb)
    · rcases ghost_σ_cases ho with g | rfl
      · exact .inl ⟨r, o, g, hm, hb⟩
      · simp [AObj.mut] at hm
    · exact .inr hb
  · rintro (⟨r, o, ho, hm, hb⟩ | hb)
    · exact .inl ⟨r, o, ghost_σ_old ho, hm, hb⟩
    · exact .inr hb
theorem ghost_le : Le S (S.ghost mu e k) where
  os := rfl
  tape := rfl
  output := rfl
  size := Nat.le_refl _
  outs := rfl
  oims := rfl
  outh _ _ := rfl
  imm b hb := ⟨⟨hb.1, fun h => hb.2 (ghost_M.1 h)⟩, rfl⟩
  fil b o h := by
    refine ⟨.inr ?_, rfl⟩
    rcases h with ⟨r, e', k', xs, h, h1, h2⟩ | h
    · exact .inl ⟨r, e', k', xs, ghost_σ_old h, h1, h2⟩
    · exact .inr h
  obj r o h := ⟨o, ghost_σ_old h, by cases o <;> simp [ObjLe, St.ghost]⟩
theorem ghost_inv (hI : Inv S) (hk : 0 < k) : Inv (S.ghost mu e k) where
  gl := hI.gl.le ghost_le
  obj r o ho := by
    rcases ghost_σ_cases ho with g | rfl
    · exact (hI.obj r o g).keep ghost_le rfl rfl (fun _ => rfl) fun b hb => .inl (ghost_M.1 hb)
    · exact ⟨hk, by simp, by simp, by simp⟩
  inj r r' o o' ho ho' hm hm' e := by
    rcases ghost_σ_cases ho with g | rfl
    · rcases ghost_σ_cases ho' with g' | rfl
      · exact hI.inj r r' o o' g g' hm hm' e
      · simp [AObj.mut] at hm'
    · simp [AObj.mut] at hm
  outl := hI.outl
  outr r o ho hm := by
    rcases ghost_σ_cases ho with g | rfl
    · exact hI.outr r o g hm
    · simp [AObj.mut] at hm
end
theorem Gh.row {L L' : List AObj} (mu : Bool) (e : TypeId) (k : Nat) {xs : List AV} (hx : xs = []) (hk : Nat.blt 0 k = true) (e' : L ++ [.row mu e k xs] = L') : Gh L L' := fun S hσ hI => by
  subst hx; subst e'
  have hk' : 0 < k := by simp [Nat.blt] at hk; omega
  exact ⟨S.ghost mu e k, rfl, by simp [St.ghost, hσ], ghost_inv hI hk', ghost_le⟩

/-- An object is told otherwise. -/
theorem reobj {S : St} (hI : Inv S) {r : Nat} {o x : AObj} (ho : S.σ[r]? = some o) (hm : x.mut = o.mut) (hF : ∀ e k xs, o = .row false e k xs → x = o)
    (hl : ObjLe S { S with σ := S.σ.set r x } r o x) (hx : Le S { S with σ := S.σ.set r x } → ObjR { S with σ := S.σ.set r x } r x) : Inv { S with σ := S.σ.set r x } ∧ Le S { S with σ := S.σ.set r x } := by
  have hrl := (List.getElem?_eq_some_iff.1 ho).1
  let S' : St := { S with σ := S.σ.set r x }
  have hr : S'.σ[r]? = some x := by simp [S', hrl]
  have hne : ∀ {q}, q ≠ r → S'.σ[q]? = S.σ[q]? := fun {q} hq => by simp [S', List.getElem?_set_ne (Ne.symm hq)]
  have hM : ∀ b, S'.M b ↔ S.M b := fun b => by
    constructor
    · rintro (⟨q, y, hy, hym, hb⟩ | hb)
      · by_cases hq : q = r
        · subst hq; rw [hr] at hy; cases hy; exact .inl ⟨q, o, ho, by rw [← hm]; exact hym, hb⟩
        · rw [hne hq] at hy; exact .inl ⟨q, y, hy, hym, hb⟩
      · exact .inr hb
    · rintro (⟨q, y, hy, hym, hb⟩ | hb)
      · by_cases hq : q = r
        · subst hq; rw [ho] at hy; cases hy; exact .inl ⟨q, x, hr, by rw [hm]; exact hym, hb⟩
        · exact .inl ⟨q, y, by rw [hne hq]; exact hy, hym, hb⟩
      · exact .inr hb
  have hle : Le S S' := {
    os := rfl
    tape := rfl
    output := rfl
    size := Nat.le_refl _
    outs := rfl
    oims := rfl
    outh := fun _ _ => rfl
    imm := fun b hb => ⟨⟨hb.1, fun h => hb.2 ((hM b).1 h)⟩, rfl⟩
    fil := fun b i hb => by
      refine ⟨.inr ?_, rfl⟩
      rcases hb with ⟨q, e', k', xs', hq, h1, h2⟩ | hb
      · by_cases hqr : q = r
        · subst hqr
          rw [ho] at hq; cases hq
          exact .inl ⟨q, e', k', xs', by rw [hr, hF _ _ _ rfl], h1, h2⟩
        · exact .inl ⟨q, e', k', xs', by rw [hne hqr]; exact hq, h1, h2⟩
      · exact .inr hb
    obj := fun q y hy => by
      by_cases hq : q = r
      · subst hq; rw [ho] at hy; cases hy
        exact ⟨x, hr, hl⟩
      · exact ⟨y, by rw [hne hq]; exact hy, by cases y <;> simp [ObjLe, S']⟩ }
  refine ⟨{
    gl := hI.gl.le hle
    obj := fun q y hy => by
      by_cases hq : q = r
      · subst hq; rw [hr] at hy; cases hy; exact hx hle
      · rw [hne hq] at hy
        exact (hI.obj q y hy).keep hle rfl rfl (fun _ => rfl) fun b hb => .inl ((hM b).1 hb)
    inj := fun q q' y y' hy hy' hym hym' e => by
      have key : ∀ {p : Nat} {z : AObj}, S'.σ[p]? = some z → z.mut = true → ∃ z', S.σ[p]? = some z' ∧ z'.mut = true := fun {p z} hz hzm => by
        by_cases hp : p = r
        · subst hp; rw [hr] at hz; cases hz; exact ⟨o, ho, by rw [← hm]; exact hzm⟩
        · rw [hne hp] at hz; exact ⟨z, hz, hzm⟩
      obtain ⟨z, hz, hzm⟩ := key hy hym
      obtain ⟨z', hz', hzm'⟩ := key hy' hym'
      exact hI.inj q q' z z' hz hz' hzm hzm' e
    outl := hI.outl
    outr := fun q y hy hym => by
      by_cases hq : q = r
      · subst hq; rw [hr] at hy; cases hy; exact hI.outr q o ho (by rw [← hm]; exact hym)
      · rw [hne hq] at hy; exact hI.outr q y hy hym }, hle⟩

theorem Gh.recell {L L' : List AObj} (r : Nat) {cs cs' : List AV} (h : L[r]? = some (.cells cs)) (hw : Weaks L cs cs') (h1 : cs'.all AV.one = true) (e : L.set r (.cells cs') = L') : Gh L L' := fun S hσ hI => by
  subst e; subst hσ
  obtain ⟨C, t, g1, g2, g3⟩ := hI.obj r _ h
  have hr := hw.rvs rfl hI g2
  have hlen : cs'.length = cs.length := by rw [← hr.length, g2.length]
  obtain ⟨k1, k2⟩ := reobj hI h (x := .cells cs') rfl (by simp) (by simp [ObjLe, hlen]) fun hle => ⟨C, t, g1, hr.mono hle, by simpa using h1⟩
  exact ⟨{ S with σ := S.σ.set r (.cells cs') }, rfl, rfl, k1, k2⟩
theorem Gh.still {L L' : List AObj} (r : Nat) {e : TypeId} {k : Nat} {xs : List AV} (h : L[r]? = some (.row true e k xs)) (e' : L.set r (.row false e k xs) = L') : Gh L L' := fun S hσ hI => by
  subst e'; subst hσ
  obtain ⟨g1, g2, g3, g4⟩ := hI.obj r _ h
  obtain ⟨k1, k2⟩ := reobj hI h (x := .row false e k xs) rfl (by simp) (by simp [ObjLe]) fun hle => ⟨g1, g2, g3, fun hne => by
    obtain ⟨C, q1, q2, q3, q4, q5⟩ := g4 hne
    exact ⟨C, q1, q2, q3, q4, q5.mono hle⟩⟩
  exact ⟨{ S with σ := S.σ.set r (.row false e k xs) }, rfl, rfl, k1, k2⟩

section
variable {P : Program} {tab : TypeId → Option TI} {N m : Nat} {env env' : Env} {L L' L'' : List AObj} {Q : Pst} {c : Code} {x : Ex} {o : Oper} {v : AV}
theorem AW_gh (g : Gh L L') (h : AW P N m c env L' Q) : AW P N m c env L Q := fun S0 S a hm hl hσ hI hE hd => by
  obtain ⟨S', e, h1, h2, h3⟩ := g S hσ hI
  rw [← e]
  exact h S0 S' a hm (hl.trans h3) h1 h2 (hE.mono h3) hd
theorem AE_gh (g : Gh L L') (h : AE P N m x env L' Q) : AE P N m x env L Q := fun S0 S a hm hl hσ hI hE hd => by
  obtain ⟨S', e, h1, h2, h3⟩ := g S hσ hI
  rw [← e]
  exact h S0 S' a hm (hl.trans h3) h1 h2 (hE.mono h3) hd
theorem OpJ_gh (g : Gh L L') (h : OpJ P N env L' o v L'') : OpJ P N env L o v L'' := fun S a hσ hI hE K Q hK => by
  obtain ⟨S', e, h1, h2, h3⟩ := g S hσ hI
  rw [← e]
  exact h S' a h1 h2 (hE.mono h3) K Q fun u S2 k1 k2 k3 k4 => hK u S2 k1 k2 (h3.trans k3) k4
theorem OpJ_gh' (g : Gh L' L'') (h : OpJ P N env L o v L') : OpJ P N env L o v L'' := fun S a hσ hI hE K Q hK =>
  h S a hσ hI hE K Q fun u S1 k1 k2 k3 k4 => by
    obtain ⟨S', e, h1, h2, h3⟩ := g S1 k1 k2
    rw [← e]
    exact hK u S' h1 h2 (k3.trans h3) (k4.mono h3)
theorem OpJ_sub (hs : Sub L env env') (h : OpJ P N env' L o v L') : OpJ P N env L o v L' := fun S a hσ hI hE K Q hK =>
  h S a hσ hI (hE.weak fun t hr => hs t S _ hσ hI hr) K Q hK
theorem Fn_gh {f : FuncId} {args : List AV} {res : AV} (g : Gh L L') (h : Fn P f args L' res L'') : Fn P f args L res L'' := fun S hσ hI us hus => by
  obtain ⟨S', e, h1, h2, h3⟩ := g S hσ hI
  rw [← e]
  refine Calls.mono (h S' h1 h2 us (hus.mono h3)) fun e w' hq => ?_
  obtain ⟨v, S2, k1, k2, k3, k4, k5, k6⟩ := hq
  exact ⟨v, S2, k1, k2, k3, k4, h3.trans k5, k6⟩

/-! ### a row is a list -/
theorem Weak.void {r n : Nat} {mu : Bool} {e : TypeId} {k : Nat} {xs : List AV} (h : L[r]? = some (.row mu e k xs)) (hx : xs = []) (hn : n = 0) : Weak L .nil (.gr r n) := by
  subst hx; subst hn
  intro S u hσ hI hr
  subst hσ
  cases hr
  exact .gr h rfl fun mu' e' k' xs' eo => by cases eo; exact ⟨Nat.le_refl _, fun _ => .inl ⟨rfl, rfl⟩⟩
theorem Weak.view {r n : Nat} {e : TypeId} {k : Nat} {xs : List AV} (h : L[r]? = some (.row false e k xs)) (hn : n = xs.length) : Weak L (.gr r n) (.sl xs) := by
  intro S u hσ hI hr
  subst hσ
  subst hn
  cases hr with
  | gr hg hnm he =>
    rw [h] at hg; cases hg
    obtain ⟨_, he⟩ := he _ _ _ _ rfl
    subst hnm
    obtain ⟨h1, h2, h3, h4⟩ := hI.obj r _ h
    by_cases hne : xs = []
    · subst hne
      rcases he rfl with ⟨_, rfl⟩ | ⟨h0, _⟩
      · exact .sl (k := 0) (us := []) rfl ⟨Nat.le_refl _, Nat.zero_le _⟩ .nil (by simp) (by simp) (by simp) (by simp)
      · simp at h0
    · obtain ⟨C, q1, q2, q3, q4, q5⟩ := h4 hne
      rcases he rfl with ⟨h0, _⟩ | ⟨_, rfl, rfl⟩
      · exact absurd (List.length_eq_zero_iff.1 h0) hne
      · refine .sl (k := k) rfl ⟨q2, q3⟩ q5 h2 h3 (fun _ => ⟨_, rfl⟩) fun j u hu => ?_
        rw [List.getElem?_take] at hu
        split at hu
        · rename_i hj
          refine ⟨_, rfl, .inr ?_, by rw [add_lit, cell_of_row S.w (S.ρ r) _ C e (0, 0) q1]; simpa using hu⟩
          rw [add_lit]
          exact ⟨rfl, .inl ⟨r, e, k, xs, h, rfl, by simpa using hj⟩⟩
        · cases hu

/-! ### appending -/
theorem run_append_zero' {w : World} {t ty e : TypeId} {ti : TypeInfo} (ht : P.underlying t = some (.slice e)) (hi : P.info? e = some ti) (a' : Option Addr) (n cap : Nat) (hn : n ≤ cap) (a : Option Addr) (c : Nat) :
    (Builtin.append_ #[t, t] ty #[.slice a' n cap, .slice a 0 c]).run P w = .ok (.slice a' n cap) w := by
  cases a <;> cases a' <;> simp [Builtin.append_, run_underlying ht, sizeOf, typeInfo, hi, Builtin.lenOf, hn, Builtin.firstCells, loadCells, loadCellsFrom, storeCells]

theorem run_append_start {w : World} {t ty e : TypeId} {ti : TypeInfo} {z : Value} (ht : P.underlying t = some (.slice e)) (hi : P.info? e = some ti) (hz : ti.zero = some z) (hzs : z.cells.size = ti.size)
    (b : Option Addr) (a : Addr) (m c : Nat) (news : List Value) (hl : news.length = m * ti.size) (hnews : ∀ j u, news[j]? = some u → w.cell? (a.add j) = some u)
    (h0 : 0 < m) (h63 : m ≤ maxLen) (hbytes : m * ti.bytes ≤ 140737488355328) :
    ∃ C' cap', m ≤ cap' ∧ cap' ≤ maxLen ∧ C'.size = cap' * ti.size ∧ C'.toList.take (m * ti.size) = news ∧
      (Builtin.append_ #[t, t] ty #[.slice b 0 0, .slice (some a) m c]).run P w = .ok (.slice (some ⟨w.heap.size, 0, none⟩) m cap') (w.drew.alloc (.cells C' e)) := by
  cases b with
  | none => exact run_append_first ht hi hz hzs a m c news hl hnews h0 h63 hbytes
  | some b =>
    have hsmall : m ≤ 9223372036854775807 := by simp only [maxLen] at h63; omega
    have hr := run_append_grow (P := P) w t ty e ti z ht hi hz b 0 0 [] (by simp) (by simp) a m c news hl hnews (by omega) (by omega) (growslice_fits (by omega) (by simpa using hbytes))
    have hge := grownCap_ge w m 0 e
    refine ⟨_, _, hge, grownCap_le_maxLen w m 0 e h63, ?_, ?_, by simpa using hr⟩
    · simp only [Array.size_append, List.size_toArray, size_zeroCells, hzs, hl, ← Nat.add_mul, List.length_nil]
      congr 1
      omega
    · simp only [Array.toList_append, List.nil_append]
      rw [← hl]
      exact List.take_left

/-- What is appended: a list of such values, by what can be read of it. -/
theorem OpJ_appendRow (hT : TabOk P tab) {t e : TypeId} {s y' : Operand} {ie : TI} {r n : Nat} {mu : Bool} {xs ys zs : List AV} (hop : o.op = .call { callee := .builtin .append, args := #[s, y'], argTypes := #[t, t] })
    (hd : (tab t).map TI.desc = some (.slice e)) (he : tab e = some ie) (hz : ie.zero.cells.size = ie.size)
    (hs : Weak L (aval env s) (.gr r n)) (hn : n = xs.length) (hL : L[r]? = some (.row mu e ie.size xs)) (hx : Weak L (aval env y') (.sl ys)) (hk : ∀ z ∈ ys, z.cells.length = ie.size) (h1 : ∀ z ∈ ys.flatMap AV.cells, z.one = true)
    (hb : (xs.length + ys.length) * ie.bytes ≤ 140737488355328) (hb2 : xs.length + ys.length ≤ 9223372036854775807) (hzs : zs = xs ++ ys) : OpJ P N env L o (.gr r zs.length) (L.set r (.row mu e ie.size zs)) := by
  refine .turn fun S a hσ hI hE => ?_
  subst hσ
  subst hn
  subst hzs
  have hvs := hs S _ rfl hI (hE.eval s)
  have hvx := hx S _ rfl hI (hE.eval y')
  have hy : Holds S.σ (.sl ys) ys := .inl rfl
  obtain ⟨_, ti, g1, g2, g3, g4⟩ := hT e ie he
  have hdt := tab_desc hT hd
  have hrun : (execOp a.eval o).run P S.w = ((Builtin.append_ #[t, t] o.type #[a.eval s, a.eval y']).run P S.w).andThen fun v w' => .ok (.value v) w' := by
    simp only [execOp, hop, resolve, invoke, builtin, Sem.run_bind, Sem.run_pure, Result.andThen_ok, List.map_toArray, List.map_cons, List.map_nil]
  generalize hus : a.eval s = us at hvs hrun
  generalize hux : a.eval y' = ux at hvx hrun
  obtain ⟨c0, c6, c7, c1⟩ := hI.obj r _ hL
  have hkall : ∀ z ∈ xs ++ ys, z.cells.length = ie.size := fun z hz' => (List.mem_append.1 hz').elim (c6 z) (hk z)
  have h1all : ∀ z ∈ (xs ++ ys).flatMap AV.cells, z.one = true := fun z hz' => by
    rw [List.flatMap_append, List.mem_append] at hz'
    exact hz'.elim (c7 z) (h1 z)
  cases hvs with
  | gr hg hnm he' =>
    rename_i a0 n' c' o'
    rw [hL] at hg; cases hg
    have he'' := he'
    obtain ⟨_, he'⟩ := he' _ _ _ _ rfl
    subst hnm
    have hmax : xs.length + ys.length ≤ maxLen := by simp only [maxLen]; omega
    by_cases hne : ys = []
    · -- nothing is appended
      subst hne
      obtain ⟨a', c'', rfl⟩ := hy.form hvx
      have hcap : xs.length ≤ c' := by
        rcases he' rfl with ⟨h0, rfl⟩ | ⟨h0, _, rfl⟩
        · omega
        · obtain ⟨C, q1, q2, q3, q4, q5⟩ := c1 fun e => h0 (by simp [e])
          exact q2
      have hr := run_append_zero' (P := P) (w := S.w) (ty := o.type) hdt g1 a0 xs.length c' hcap a' c''
      refine ⟨_, S, by rw [hrun]; simp only [List.length_nil] at *; rw [hr]; rfl, ?_, hI, Le.refl S, ?_⟩
      · simp only [List.append_nil]
        exact (List.ext_getElem? fun j => by
          by_cases hj : r = j
          · subst hj; rw [hL, List.getElem?_set_self (List.getElem?_eq_some_iff.1 hL).1]
          · rw [List.getElem?_set_ne hj])
      · simp only [List.append_nil]
        exact .gr hL rfl he''
    · obtain ⟨ad, c'', news, k', rfl, n1, n2, n3, n4⟩ := hy.read hI hvx hne
      have hnl : news.length = ys.length * ti.size := by rw [n1.length, flat_length hk, g2]
      have hpos : 0 < ys.length := List.length_pos_iff.2 hne
      have hne2 : xs ++ ys ≠ [] := by simp [hne]
      have key : ∀ (C' : Array Value) (cap' b : Nat) (w' : World) (u : Value), xs.length + ys.length ≤ cap' → cap' ≤ maxLen → C'.size = cap' * ie.size →
          RVs S (C'.toList.take ((xs.length + ys.length) * ie.size)) ((xs ++ ys).flatMap AV.cells) → w'.heap[b]? = some (.cells C' e (0, 0)) →
          Turn S w' r (.row mu e ie.size (xs ++ ys)) b cap' → u = .slice (some ⟨b, 0, none⟩) (xs.length + ys.length) cap' →
          ∃ S', S'.w = w' ∧ S'.σ = S.σ.set r (.row mu e ie.size (xs ++ ys)) ∧ Inv S' ∧ Le S S' ∧ RV S' u (.gr r (xs ++ ys).length) := by
        intro C' cap' b w' u k1 k2 k3 k4 k5 k6 k7
        obtain ⟨q1, q2, q3⟩ := upd_same (S := S) (w' := w') (x := .row mu e ie.size (xs ++ ys)) (b := b) (cap := cap') hL
        refine ⟨S.upd w' r _ b cap', rfl, rfl, upd_inv hI k6 ⟨c0, hkall, h1all, fun _ => ⟨C', by rw [q2]; exact k5, by rw [q3]; simpa using k1, by rw [q3]; exact k2, by rw [q3]; exact k3, ?_⟩⟩, upd_le hI k6, ?_⟩
        · rw [List.length_append]; exact k4.mono (upd_le hI k6)
        · rw [k7]
          refine .gr q1 (by simp) fun mu' e' k' xs' eo => by cases eo; exact ⟨Nat.le_refl _, fun _ => .inr ⟨by simp [hne], by rw [q2], by rw [q3]⟩⟩
      have hobjle : ∀ (w' : World) (b cap' : Nat), ObjLe S (S.upd w' r (.row mu e ie.size (xs ++ ys)) b cap') r (.row mu e ie.size xs) (.row mu e ie.size (xs ++ ys)) := fun w' b cap' => by
        refine ⟨⟨by simp, rfl⟩, fun e => ?_, fun e => e⟩
        simp at e
        exact absurd e hne
      by_cases hxe : xs = []
      · -- the first block
        subst hxe
        have hc0 : c' = 0 := by
          rcases he' rfl with ⟨_, h⟩ | ⟨h, _⟩
          · exact h
          · simp at h
        subst hc0
        obtain ⟨C', cap', k1, k2, k3, k4, k5⟩ := run_append_start (P := P) (w := S.w) (ty := o.type) hdt g1 g4 (zero_size (e := e) hz g2) a0 ad ys.length c'' news hnl n4 hpos (by simpa using hmax) (by rw [g3]; simpa using hb)
        rw [g2] at k3 k4
        obtain ⟨S', e1, e2, e3, e4, e5⟩ := key C' cap' S.w.heap.size (S.w.drew.alloc (.cells C' e)) _ (by simpa using k1) k2 k3 (by simpa [k4] using n1) (heap_alloc_new S.w.drew _)
          { os := rfl, tape := rfl, output := rfl, size := by simp, heap := fun c hc _ => heap_alloc_lt S.w.drew _ hc,
            here := ⟨_, hL, .inr ⟨⟨_, _, _, rfl⟩, Nat.le_refl _, fun c hc => heap_alloc_lt S.w.drew _ hc⟩, hobjle ..⟩, place := .inr (Nat.le_refl _),
            fill := fun e' k' xs' o' h' ho' => by rw [hL] at h'; cases h'; simp at ho' } rfl
        exact ⟨_, S', by rw [hrun]; simp only [List.length_nil] at *; rw [k5, e1]; simp, e2, e3, e4, e5⟩
      · obtain ⟨C, q1, q2, q3, q4, q5⟩ := c1 hxe
        rcases he' rfl with ⟨h0, _⟩ | ⟨_, rfl, rfl⟩
        · exact absurd (List.length_eq_zero_iff.1 h0) hxe
        have hmut : (AObj.row mu e ie.size xs).mut = true := by cases xs <;> simp_all [AObj.mut]
        obtain ⟨C', cap', k1, k2, k3, k4, k5⟩ := run_append_more (P := P) (w := S.w) (ty := o.type) hdt g1 g4 (zero_size (e := e) hz g2) (S.ρ r) xs.length (S.κ r) C q1 q2 q3 (by rw [g2]; exact q4) ad ys.length c'' news hnl n4 (n1.oneCell h1) hmax (by rw [g3]; exact hb)
        rw [g2] at k3 k4
        have hrvs : RVs S (C'.toList.take ((xs.length + ys.length) * ie.size)) ((xs ++ ys).flatMap AV.cells) := by
          rw [k4, List.flatMap_append]
          exact q5.append n1
        rcases k5 with ⟨rfl, k5⟩ | k5
        · obtain ⟨S', e1, e2, e3, e4, e5⟩ := key C' (S.κ r) (S.ρ r) (S.w.setRow (S.ρ r) C') _ k1 k2 k3 hrvs (setRow_heap _ _ _ _ _ _ q1)
            { os := rfl, tape := rfl, output := rfl, size := by simp [World.setRow], heap := fun c _ hc => setRow_other _ _ _ _ hc, here := ⟨_, hL, .inl hmut, hobjle ..⟩, place := .inl rfl,
              fill := fun e' k' xs' o' h' ho' => by
                rw [hL] at h'; cases h'
                rw [cell_of_row _ _ _ C' e (0, 0) (setRow_heap _ _ _ _ _ _ q1), cell_of_row _ _ _ C e (0, 0) q1]
                have hCl : C.toList.length = S.κ r * ie.size := by simp [q4]
                have hle1 : xs.length * ie.size ≤ C'.size := by rw [k3]; exact Nat.mul_le_mul_right _ (by omega)
                have hA : (C'.toList.take ((xs.length + ys.length) * ie.size))[o']? = C'[o']? := by
                  rw [List.getElem?_take, if_pos (by rw [Nat.add_mul]; omega)]; simp
                rw [← hA, k4, List.getElem?_append_left (by rw [List.length_take, hCl]; exact Nat.lt_min.2 ⟨ho', Nat.lt_of_lt_of_le ho' (Nat.mul_le_mul_right _ q2)⟩), List.getElem?_take, if_pos ho']
                simp } rfl
          exact ⟨_, S', by rw [hrun, k5, e1]; rfl, e2, e3, e4, e5⟩
        · obtain ⟨S', e1, e2, e3, e4, e5⟩ := key C' cap' S.w.heap.size (S.w.drew.alloc (.cells C' e)) _ k1 k2 k3 hrvs (heap_alloc_new S.w.drew _)
            { os := rfl, tape := rfl, output := rfl, size := by simp, heap := fun c hc _ => heap_alloc_lt S.w.drew _ hc, here := ⟨_, hL, .inl hmut, hobjle ..⟩, place := .inr (Nat.le_refl _),
              fill := fun e' k' xs' o' h' ho' => by
                rw [hL] at h'
                exact cell_of_heap (heap_alloc_lt S.w.drew _ ((hI.obj r _ hL).lt (AObj.blk_of_mut hmut))) } rfl
          exact ⟨_, S', by rw [hrun, k5, e1]; rfl, e2, e3, e4, e5⟩

def appendOp (tab : TypeId → Option TI) (o : Oper) (env : Env) : Option (AV × AV × TypeId × Nat × Nat) := match o.op with
  | .call ⟨.builtin .append, ⟨[s, y]⟩, ⟨[t, t']⟩⟩ => bif Nat.beq t t' then (match (tab t).map TI.desc with
    | some (.slice e) => match tab e with
      | some ie => bif Nat.beq ie.zero.cells.size ie.size then some (aval env s, aval env y, e, ie.size, ie.bytes) else none
      | none => none
    | _ => none) else none
  | _ => none
/-- A list longer: if memory holds it. -/
def appL {α : Type} (b : Nat) (xs ys : List α) : Option (List α) := if (xs.length + ys.length) * b ≤ 140737488355328 ∧ xs.length + ys.length ≤ 9223372036854775807 then some (xs ++ ys) else none
theorem OpJ_appendE (hT : TabOk P tab) {α : Type} {ef : α → AV} {lf : List α → List AV} (hl : ∀ xs, lf xs = xs.map ef) {e : TypeId} {k b : Nat} (hk : ∀ x, (ef x).cells.length = k) (h1 : ∀ x, ∀ z ∈ (ef x).cells, z.one = true)
    {s y : AV} {r n : Nat} {mu : Bool} {xs ys zs : List α} (h : appendOp tab o env = some (s, y, e, k, b)) (hs : Weak L s (.gr r n)) (hn : n = (lf xs).length) (hL : L[r]? = some (.row mu e k (lf xs))) (hy : Weak L y (.sl (lf ys)))
    (hz : appL b xs ys = some zs) (hL' : L.set r (.row mu e k (lf zs)) = L') : OpJ P N env L o (.gr r (lf zs).length) L' := by
  subst hL'
  unfold appendOp at h
  split at h
  · rename_i s' y' t t' hop
    cases hb1 : Nat.beq t t' <;> simp only [hb1, cond_true, cond_false] at h
    · cases h
    have := Nat.eq_of_beq_eq_true hb1
    subst this
    split at h
    · rename_i e' hd
      split at h
      · rename_i ie he
        cases hb2 : Nat.beq ie.zero.cells.size ie.size <;> simp only [hb2, cond_true, cond_false] at h
        · cases h
        cases h
        unfold appL at hz
        split at hz
        · rename_i hlim
          cases hz
          refine OpJ_appendRow hT hop hd he (Nat.eq_of_beq_eq_true hb2) hs hn hL hy (fun z hz => ?_) (fun z hz => ?_) (by simpa [hl] using hlim.1) (by simpa [hl] using hlim.2) (by simp [hl])
          · rw [hl] at hz; obtain ⟨x, _, rfl⟩ := List.mem_map.1 hz; exact hk x
          · rw [hl] at hz; obtain ⟨w, hw, hz⟩ := List.mem_flatMap.1 hz; obtain ⟨x, _, rfl⟩ := List.mem_map.1 hw; exact h1 x z hz
        · cases hz
      · cases h
    · cases h
  · cases h

/-! ### a row that is built -/
theorem row_ok {S : St} (hI : Inv S) {C : Array Value} {mu : Bool} {e : TypeId} {k cap : Nat} {xs : List AV} (hC : C.size = cap * k) (hn : xs.length ≤ cap) (hm : cap ≤ maxLen) (hc : xs = [] → cap = 0)
    (hr : RVs S (C.toList.take (xs.length * k)) (xs.flatMap AV.cells)) (hk : ∀ x ∈ xs, x.cells.length = k) (h1 : ∀ y ∈ xs.flatMap AV.cells, y.one = true) (h0 : 0 < k) :
    let S' := S.push (.cells C e) (.row mu e k xs) cap
    Inv S' ∧ Le S S' ∧ RV S' (.slice (some ⟨S.w.heap.size, 0, none⟩) xs.length cap) (.gr S.σ.length xs.length) ∧ S'.σ = S.σ ++ [.row mu e k xs] := by
  intro S'
  have hle : Le S S' := push_le hI ..
  have hh := heap_alloc_new S.w (.cells C e)
  refine ⟨push_inv hI ⟨h0, hk, h1, fun _ => ⟨C, by simpa [S', St.push] using hh, by simpa [S', St.push] using hn, by simpa [S', St.push] using hm, by simpa [S', St.push] using hC, hr.mono hle⟩⟩, hle, ?_, rfl⟩
  refine .gr (o := .row mu e k xs) (by simp [S', St.push]) rfl fun mu' e' k' xs' eo => ?_
  cases eo
  refine ⟨Nat.le_refl _, fun _ => ?_⟩
  by_cases hne : xs = []
  · exact .inl ⟨by simp [hne], hc hne⟩
  · exact .inr ⟨fun e => hne (List.length_eq_zero_iff.1 e), by simp [S', St.push], by simp [S', St.push]⟩
theorem OpJ_builtRow (hT : TabOk P tab) {e : TypeId} {k : Nat} {xs : List AV} (mu : Bool) (n : Nat) (h : aop tab env L o.op = some (.own n 0, L ++ [.arr false 0 e k xs])) (hn : L.length = n) (hop : ∃ t len parts, o.op = .buildSlice t len parts) :
    OpJ P N env L o (.gr n xs.length) (L ++ [.row mu e k xs]) := by
  obtain ⟨t, len, parts, hop⟩ := hop
  refine .turn fun S a hσ hI hE => ?_
  subst hσ
  rw [hop] at h
  simp only [aop] at h
  have e1 : (parts.map fun p => (p.1, a.eval p.2)).toList.map (·.1) = (parts.toList.map fun p => (p.1, aval env p.2)).map (·.1) := by simp
  have e2 : RVs S ((parts.map fun p => (p.1, a.eval p.2)).toList.map (·.2)) ((parts.toList.map fun p => (p.1, aval env p.2)).map (·.2)) := by
    have := rvs_parts hE parts.toList
    simpa using this
  obtain ⟨C, e', k', h1, h2, h3, h4, h5, h6, h7, h8, h9, h10⟩ := abuildSlice_run (P := P) hT hI e1 e2 h
  have h3' := List.append_cancel_left h3
  simp only [List.cons.injEq, AObj.arr.injEq, and_true, true_and] at h3'
  obtain ⟨rfl, rfl, rfl⟩ := h3'
  have hr := row_ok (mu := mu) (e := e) hI h4 (by omega) h6 (fun e => by rw [e] at h5; simp at h5; exact h5.symm) h7 h8 h9 h10
  refine ⟨.slice (some ⟨S.w.heap.size, 0, none⟩) len len, _, ?_, hr.2.2.2, hr.1, hr.2.1, ?_⟩
  · simp only [execOp, hop, Sem.run_bind, h1, Result.andThen_ok, Sem.run_pure]
    rfl
  · have := hr.2.2.1
    rw [hn, h5] at this
    rw [h5]
    exact this
end
end Go.Vm
