/- What grows. -/
import Derived.Test.YtjeihigmneepcaaVj
set_option linter.unusedVariables false
set_option linter.unusedSectionVars false
set_option linter.unusedSimpArgs false
namespace Go.Vm
variable [Glob]

/-- What a slice that is read holds. -/
def Holds (L : List AObj) (y : AV) (ys : List AV) : Prop := y = .sl ys ∨ (y = .nil ∧ ys = []) ∨ ∃ r ver fr e k, y = .own r ver ∧ L[r]? = some (.arr fr ver e k ys)

theorem Holds.read {S : St} (hI : Inv S) {u : Value} {y : AV} {ys : List AV} (hu : RV S u y) (h : Holds S.σ y ys) (hne : ys ≠ []) :
    ∃ ad c news k, u = .slice (some ad) ys.length c ∧ RVs S news (ys.flatMap AV.cells) ∧ (∀ y ∈ ys, y.cells.length = k) ∧ (∀ z ∈ ys.flatMap AV.cells, z.one = true) ∧ ∀ (j : Nat) (v : Value), news[j]? = some v → S.w.cell? (ad.add j) = some v := by
  rcases h with rfl | ⟨rfl, rfl⟩ | ⟨r, ver, fr, e, k, rfl, hL⟩
  · cases hu with
    | sl hn hcm hr hk h1 hs hc =>
      obtain ⟨ad, rfl⟩ := hs hne
      exact ⟨ad, _, _, _, by rw [hn], hr, hk, h1, fun j v hv => by obtain ⟨ad', e, _, hcell⟩ := hc j v hv; cases e; exact hcell⟩
  · exact absurd rfl hne
  · cases hu with
    | own hg hv he =>
      rw [hL] at hg; cases hg
      obtain ⟨rfl, rfl, rfl⟩ := he rfl
      obtain ⟨C, h1, h2, h3, h4, h5, h6, h7, h8, h9⟩ := hI.obj r _ hL
      refine ⟨_, _, _, _, rfl, h5, h6, h7, fun j v hv => ?_⟩
      rw [List.getElem?_take] at hv
      split at hv
      · rw [add_lit, cell_of_row S.w (S.ρ r) _ C e (0, 0) h1]; simpa using hv
      · cases hv
theorem Holds.form {S : St} {u : Value} {y : AV} {ys : List AV} (hu : RV S u y) (h : Holds S.σ y ys) : ∃ a c, u = .slice a ys.length c := by
  rcases h with rfl | ⟨rfl, rfl⟩ | ⟨r, ver, fr, e, k, rfl, hL⟩
  · cases hu with
    | sl hn => exact ⟨_, _, by rw [hn]⟩
  · cases hu; exact ⟨none, 0, rfl⟩
  · cases hu with
    | own hg hv he =>
      rw [hL] at hg; cases hg
      obtain ⟨rfl, rfl, rfl⟩ := he rfl
      exact ⟨_, _, rfl⟩

section
variable {P : Program} {w : World}
theorem run_append_zero {t ty e : TypeId} {ti : TypeInfo} (ht : P.underlying t = some (.slice e)) (hi : P.info? e = some ti) (g : Nat) (n cap : Nat) (hn : n ≤ cap) (a : Option Addr) (c : Nat) :
    (Builtin.append_ #[t, t] ty #[.slice (some ⟨g, 0, none⟩) n cap, .slice a 0 c]).run P w = .ok (.slice (some ⟨g, 0, none⟩) n cap) w := by
  cases a <;> simp [Builtin.append_, run_underlying ht, sizeOf, typeInfo, hi, Builtin.lenOf, hn, Builtin.firstCells, loadCells, loadCellsFrom, storeCells]

theorem run_append_more {t ty e : TypeId} {ti : TypeInfo} {z : Value} (ht : P.underlying t = some (.slice e)) (hi : P.info? e = some ti) (hz : ti.zero = some z) (hzs : z.cells.size = ti.size)
    (g n cap : Nat) (cur : Array Value) (hg : w.heap[g]? = some (.cells cur e (0, 0))) (hn : n ≤ cap) (hm : cap ≤ maxLen) (hcs : cur.size = cap * ti.size)
    (a : Addr) (m c : Nat) (news : List Value) (hl : news.length = m * ti.size) (hnews : ∀ j u, news[j]? = some u → w.cell? (a.add j) = some u) (h1 : ∀ u ∈ news, u.oneCell' = true)
    (h63 : n + m ≤ maxLen) (hbytes : (n + m) * ti.bytes ≤ 140737488355328) :
    ∃ C' cap', n + m ≤ cap' ∧ cap' ≤ maxLen ∧ C'.size = cap' * ti.size ∧ C'.toList.take ((n + m) * ti.size) = cur.toList.take (n * ti.size) ++ news ∧
      ((cap' = cap ∧ (Builtin.append_ #[t, t] ty #[.slice (some ⟨g, 0, none⟩) n cap, .slice (some a) m c]).run P w = .ok (.slice (some ⟨g, 0, none⟩) (n + m) cap) (w.setRow g C')) ∨
       (Builtin.append_ #[t, t] ty #[.slice (some ⟨g, 0, none⟩) n cap, .slice (some a) m c]).run P w = .ok (.slice (some ⟨w.heap.size, 0, none⟩) (n + m) cap') (w.drew.alloc (.cells C' e))) := by
  have hsmall : n + m ≤ 9223372036854775807 := by simp only [maxLen] at h63; omega
  have hnk : n * ti.size ≤ cur.size := by rw [hcs]; exact Nat.mul_le_mul_right _ hn
  by_cases hroom : n + m ≤ cap
  · have hfit : n * ti.size + news.length ≤ cur.size := by rw [hl, hcs, ← Nat.add_mul]; exact Nat.mul_le_mul_right _ hroom
    have hr := run_append_room (P := P) w t ty e ti ht hi g n cap cur hg a m c news hl hnews h1 hroom hfit
    refine ⟨_, cap, hroom, hm, ?_, ?_, .inl ⟨rfl, hr⟩⟩
    · simp only [List.size_toArray, List.length_append, List.length_take, List.length_drop, Array.length_toList]
      omega
    · have hlen : (cur.toList.take (n * ti.size) ++ news).length = (n + m) * ti.size := by simp [hl, Nat.add_mul]; omega
      simp only [← hlen]
      exact List.take_left
  · have holds : ∀ j u, (cur.toList.take (n * ti.size))[j]? = some u → w.cell? ((⟨g, 0, none⟩ : Addr).add j) = some u := fun j u hu => by
      rw [List.getElem?_take] at hu
      split at hu
      · rw [add_lit, cell_of_row w g _ cur e (0, 0) hg]; simpa using hu
      · cases hu
    have hol : (cur.toList.take (n * ti.size)).length = n * ti.size := by simp; omega
    have hr := run_append_grow (P := P) w t ty e ti z ht hi hz ⟨g, 0, none⟩ n cap _ hol holds a m c news hl hnews (by omega) (by omega) (growslice_fits (by omega) hbytes)
    have hge := grownCap_ge w (n + m) cap e
    refine ⟨_, _, hge, grownCap_le_maxLen w (n + m) cap e h63, ?_, ?_, .inr hr⟩
    · simp only [Array.size_append, List.size_toArray, size_zeroCells, hzs, hol, hl, ← Nat.add_mul]
      congr 1
      omega
    · have hlen : (cur.toList.take (n * ti.size) ++ news).length = (n + m) * ti.size := by simp [hl, Nat.add_mul]; omega
      simp only [Array.toList_append, List.append_assoc]
      rw [← List.append_assoc, ← hlen]
      exact List.take_left

theorem run_append_first {t ty e : TypeId} {ti : TypeInfo} {z : Value} (ht : P.underlying t = some (.slice e)) (hi : P.info? e = some ti) (hz : ti.zero = some z) (hzs : z.cells.size = ti.size)
    (a : Addr) (m c : Nat) (news : List Value) (hl : news.length = m * ti.size) (hnews : ∀ j u, news[j]? = some u → w.cell? (a.add j) = some u)
    (h0 : 0 < m) (h63 : m ≤ maxLen) (hbytes : m * ti.bytes ≤ 140737488355328) :
    ∃ C' cap', m ≤ cap' ∧ cap' ≤ maxLen ∧ C'.size = cap' * ti.size ∧ C'.toList.take (m * ti.size) = news ∧
      (Builtin.append_ #[t, t] ty #[.slice none 0 0, .slice (some a) m c]).run P w = .ok (.slice (some ⟨w.heap.size, 0, none⟩) m cap') (w.drew.alloc (.cells C' e)) := by
  have hsmall : m ≤ 9223372036854775807 := by simp only [maxLen] at h63; omega
  have hr := run_append_nil (P := P) w t ty e ti z ht hi hz a m c news hl hnews h0 (by omega) (by omega)
  have hge := grownCap_ge w m 0 e
  refine ⟨_, _, hge, grownCap_le_maxLen w m 0 e h63, ?_, ?_, hr⟩
  · simp only [Array.size_append, List.size_toArray, size_zeroCells, hzs, hl, ← Nat.add_mul]
    congr 1
    omega
  · simp only [Array.toList_append]
    rw [← hl]
    exact List.take_left
end

section
variable {P : Program} {tab : TypeId → Option TI} {N : Nat} {env : Env} {L L' : List AObj} {o : Oper} {v : AV}

theorem zero_size {e : TypeId} {ie : TI} {ti : TypeInfo} (hz : ie.zero.cells.size = ie.size) (hs : ti.size = ie.size) : ie.zero.cells.size = ti.size := by rw [hz, hs]

theorem OpJ_append (hT : TabOk P tab) {t e : TypeId} {s x : Operand} {ie : TI} {r ver : Nat} {xs ys : List AV} {y : AV} (hop : o.op = .call { callee := .builtin .append, args := #[s, x], argTypes := #[t, t] })
    (hd : (tab t).map TI.desc = some (.slice e)) (he : tab e = some ie) (hz : ie.zero.cells.size = ie.size)
    (hs : aval env s = .own r ver) (hL : L[r]? = some (.arr false ver e ie.size xs)) (hx : aval env x = y) (hy : Holds L y ys) (hk : ∀ z ∈ ys, z.cells.length = ie.size) (h1 : ∀ z ∈ ys.flatMap AV.cells, z.one = true)
    (hb : (xs.length + ys.length) * ie.bytes ≤ 140737488355328) (hb2 : xs.length + ys.length ≤ 9223372036854775807) : OpJ P N env L o (.own r (ver + 1)) (L.set r (.arr false (ver + 1) e ie.size (xs ++ ys))) := by
  refine .turn fun S a hσ hI hE => ?_
  subst hσ
  have hvs := hE.eval s
  have hvx := hE.eval x
  rw [hs] at hvs
  rw [hx] at hvx
  obtain ⟨_, ti, g1, g2, g3, g4⟩ := hT e ie he
  have hdt := tab_desc hT hd
  have hrun : (execOp a.eval o).run P S.w = ((Builtin.append_ #[t, t] o.type #[a.eval s, a.eval x]).run P S.w).andThen fun v w' => .ok (.value v) w' := by
    simp only [execOp, hop, resolve, invoke, builtin, Sem.run_bind, Sem.run_pure, Result.andThen_ok, List.map_toArray, List.map_cons, List.map_nil]
  generalize hus : a.eval s = us at hvs hrun
  generalize hux : a.eval x = ux at hvx hrun
  obtain ⟨C, c1, c2, c3, c4, c5, c6, c7, c8, c9⟩ := hI.obj r _ hL
  cases hvs with
  | own hg hv he' =>
    rw [hL] at hg; cases hg
    obtain ⟨rfl, rfl, rfl⟩ := he' rfl
    have hmax : xs.length + ys.length ≤ maxLen := by simp only [maxLen]; omega
    have hkall : ∀ z ∈ xs ++ ys, z.cells.length = ie.size := fun z hz' => (List.mem_append.1 hz').elim (c6 z) (hk z)
    have h1all : ∀ z ∈ (xs ++ ys).flatMap AV.cells, z.one = true := fun z hz' => by
      rw [List.flatMap_append, List.mem_append] at hz'
      exact hz'.elim (c7 z) (h1 z)
    have key : ∀ (C' : Array Value) (cap' b : Nat) (w' : World) (u : Value), xs.length + ys.length ≤ cap' → cap' ≤ maxLen → C'.size = cap' * ie.size →
        RVs S (C'.toList.take ((xs.length + ys.length) * ie.size)) ((xs ++ ys).flatMap AV.cells) → w'.heap[b]? = some (.cells C' e (0, 0)) →
        Turn S w' r (.arr false (ver + 1) e ie.size (xs ++ ys)) b cap' → u = .slice (some ⟨b, 0, none⟩) (xs.length + ys.length) cap' →
        ∃ S', S'.w = w' ∧ S'.σ = S.σ.set r (.arr false (ver + 1) e ie.size (xs ++ ys)) ∧ Inv S' ∧ Le S S' ∧ RV S' u (.own r (ver + 1)) := by
      intro C' cap' b w' u k1 k2 k3 k4 k5 k6 k7
      obtain ⟨q1, q2, q3⟩ := upd_same (S := S) (w' := w') (x := .arr false (ver + 1) e ie.size (xs ++ ys)) (b := b) (cap := cap') hL
      refine ⟨S.upd w' r _ b cap', rfl, rfl, upd_inv hI k6 ⟨C', by rw [q2]; exact k5, by rw [q3]; simpa using k1, by rw [q3]; exact k2, by rw [q3]; exact k3, ?_, hkall, h1all, by simp, c9⟩, upd_le hI k6, ?_⟩
      · rw [List.length_append]; exact k4.mono (upd_le hI k6)
      · rw [k7]
        exact .own q1 (Nat.le_refl _) fun _ => by rw [q2, q3]; simp
    by_cases hne : ys = []
    · subst hne
      obtain ⟨a', c', rfl⟩ := hy.form hvx
      have hr := run_append_zero (P := P) (w := S.w) (ty := o.type) hdt g1 (S.ρ r) xs.length (S.κ r) c2 a' c'
      obtain ⟨S', e1, e2, e3, e4, e5⟩ := key C (S.κ r) (S.ρ r) S.w (.slice (some ⟨S.ρ r, 0, none⟩) xs.length (S.κ r)) (by simpa using c2) c3 c4 (by simpa using c5) c1
        { os := rfl, tape := rfl, output := rfl, size := Nat.le_refl _, heap := fun _ _ _ => rfl, fill := fun _ _ _ _ _ _ => rfl, here := ⟨_, hL, .inl rfl, by simp [ObjLe]⟩, place := .inl rfl } (by simp)
      refine ⟨_, S', by rw [hrun]; simp only [List.length_nil] at *; rw [hr, e1]; rfl, e2, e3, e4, e5⟩
    · obtain ⟨ad, c', news, k', rfl, n1, n2, n3, n4⟩ := hy.read hI hvx hne
      have hnl : news.length = ys.length * ti.size := by rw [n1.length, flat_length hk, g2]
      obtain ⟨C', cap', k1, k2, k3, k4, k5⟩ := run_append_more (P := P) (w := S.w) (ty := o.type) hdt g1 g4 (zero_size (e := e) hz g2) (S.ρ r) xs.length (S.κ r) C c1 c2 c3 (by rw [g2]; exact c4) ad ys.length c' news hnl n4 (n1.oneCell h1) hmax (by rw [g3]; exact hb)
      rw [g2] at k3 k4
      have hrvs : RVs S (C'.toList.take ((xs.length + ys.length) * ie.size)) ((xs ++ ys).flatMap AV.cells) := by
        rw [k4, List.flatMap_append]
        exact c5.append n1
      rcases k5 with ⟨rfl, k5⟩ | k5
      · obtain ⟨S', e1, e2, e3, e4, e5⟩ := key C' (S.κ r) (S.ρ r) (S.w.setRow (S.ρ r) C') _ k1 k2 k3 hrvs (setRow_heap _ _ _ _ _ _ c1)
          { os := rfl, tape := rfl, output := rfl, size := by simp [World.setRow], heap := fun c _ hc => setRow_other _ _ _ _ hc, fill := fun _ _ _ _ h' _ => (by rw [hL] at h'; cases h'), here := ⟨_, hL, .inl rfl, by simp [ObjLe]⟩, place := .inl rfl } rfl
        exact ⟨_, S', by rw [hrun, k5, e1]; rfl, e2, e3, e4, e5⟩
      · obtain ⟨S', e1, e2, e3, e4, e5⟩ := key C' cap' S.w.heap.size (S.w.drew.alloc (.cells C' e)) _ k1 k2 k3 hrvs (heap_alloc_new S.w.drew _)
          { os := rfl, tape := rfl, output := rfl, size := by simp, heap := fun c hc _ => heap_alloc_lt S.w.drew _ hc, fill := fun _ _ _ _ h' _ => (by rw [hL] at h'; cases h'), here := ⟨_, hL, .inl rfl, by simp [ObjLe]⟩, place := .inr (Nat.le_refl _) } rfl
        exact ⟨_, S', by rw [hrun, k5, e1]; rfl, e2, e3, e4, e5⟩

theorem OpJ_append_nil (hT : TabOk P tab) {t e : TypeId} {s x : Operand} {ie : TI} {ys : List AV} {y : AV} (hop : o.op = .call { callee := .builtin .append, args := #[s, x], argTypes := #[t, t] })
    (hd : (tab t).map TI.desc = some (.slice e)) (he : tab e = some ie) (hz : ie.zero.cells.size = ie.size) (h0 : 0 < ie.size)
    (hs : aval env s = .nil) (hx : aval env x = y) (hy : Holds L y ys) (hne : ys ≠ []) (hk : ∀ z ∈ ys, z.cells.length = ie.size) (h1 : ∀ z ∈ ys.flatMap AV.cells, z.one = true)
    (hb : ys.length * ie.bytes ≤ 140737488355328) (hb2 : ys.length ≤ 9223372036854775807) : OpJ P N env L o (.own L.length 0) (L ++ [.arr false 0 e ie.size ys]) := by
  refine .turn fun S a hσ hI hE => ?_
  subst hσ
  have hvs := hE.eval s
  have hvx := hE.eval x
  rw [hs] at hvs
  rw [hx] at hvx
  obtain ⟨_, ti, g1, g2, g3, g4⟩ := hT e ie he
  have hdt := tab_desc hT hd
  have hrun : (execOp a.eval o).run P S.w = ((Builtin.append_ #[t, t] o.type #[a.eval s, a.eval x]).run P S.w).andThen fun v w' => .ok (.value v) w' := by
    simp only [execOp, hop, resolve, invoke, builtin, Sem.run_bind, Sem.run_pure, Result.andThen_ok, List.map_toArray, List.map_cons, List.map_nil]
  generalize hus : a.eval s = us at hvs hrun
  generalize hux : a.eval x = ux at hvx hrun
  cases hvs
  obtain ⟨ad, c', news, k', rfl, n1, n2, n3, n4⟩ := hy.read hI hvx hne
  have hnl : news.length = ys.length * ti.size := by rw [n1.length, flat_length hk, g2]
  have hpos : 0 < ys.length := List.length_pos_iff.2 hne
  obtain ⟨C', cap', k1, k2, k3, k4, k5⟩ := run_append_first (P := P) (w := S.w) (ty := o.type) hdt g1 g4 (zero_size (e := e) hz g2) ad ys.length c' news hnl n4 hpos (by simp only [maxLen]; omega) (by rw [g3]; exact hb)
  rw [g2] at k3 k4
  have hrvs : RVs S.drew (C'.toList.take (ys.length * ie.size)) (ys.flatMap AV.cells) := by rw [k4]; exact n1.mono (drew_le S)
  have ha := arr_ok (drew_inv hI) (e := e) k3 k1 k2 hrvs hk h1 h0
  refine ⟨_, S.drew.push (.cells C' e) (.arr false 0 e ie.size ys) cap', by rw [hrun, k5]; rfl, ha.2.2.2, ha.1, (drew_le S).trans ha.2.1, ha.2.2.1⟩
end
end Go.Vm
