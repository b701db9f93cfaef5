/- What is handed in: whatever can be read as data has an abstract value. -/
import Derived.Test.YtjeihigmneepcaaVk
import Derived.RowKit
import GoSem.ClaimChange
set_option linter.unusedVariables false
set_option linter.unusedSectionVars false
set_option linter.unusedSimpArgs false
namespace Go.Vm
variable [Glob]

mutual
/-- A datum's abstract value. -/
def dav {H : Type} : DataW H → AV
  | .lit (.bool b) => .bool b
  | .lit (.int k n) => .int k n
  | .lit (.string l) => .str ⟨l.toArray⟩
  | .nil => .sl []
  | .slice es _ => .sl (davs es)
  | .agg ps => .agg (davf ps)
  | _ => .any
def davs {H : Type} : List (DataW H) → List AV
  | [] => []
  | d :: ds => dav d :: davs ds
def davf {H : Type} : List (DataW H) → List AV
  | [] => []
  | d :: ds => (dav d).cells ++ davf ds
end
theorem davs_map {H : Type} : ∀ (l : List (DataW H)), davs l = l.map dav
  | [] => by simp [davs]
  | d :: l => by simp [davs, davs_map l]
theorem davf_map {H : Type} : ∀ (l : List (DataW H)), davf l = l.flatMap fun d => (dav d).cells
  | [] => by simp [davf]
  | d :: l => by simp [davf, davf_map l]

/-- Fields one behind the other, from a place on. -/
def tiles (P : Program) : Nat → List Field → Option Nat
  | n, [] => some n
  | n, f :: fs => bif Nat.beq f.offset n then tiles P (n + P.cellsOf f.type) fs else none
/-- Is a type one whose data are told, if those of its parts are? -/
def okT (P : Program) (Ts : List TypeId) (t : TypeId) : Bool :=
  match P.underlying t with
  | some .bool | some (.int _) | some .string => Nat.beq (P.cellsOf t) 1
  | some (.slice e) => Nat.beq (P.cellsOf t) 1 && (Ts.contains e && Nat.ble 1 (P.cellsOf e))
  | some (.struct fs) => (match tiles P 0 fs.toList with | some n => Nat.beq n (P.cellsOf t) | none => false) && fs.toList.all fun f => Ts.contains f.type
  | some (.array n e) => Nat.beq (n * P.cellsOf e) (P.cellsOf t) && Ts.contains e
  | _ => false

section
variable {H : Type} {enc : TypeId × Value → H} {P : Program} {S : St} {spare : Nat → Bool} {held : Bool}

/-- What is read of some cells. -/
def Told (S : St) (n : Nat) (cs : List Value) (d : DataW H) : Prop := cs.length = n ∧ RVs S cs (dav d).cells ∧ ∀ y ∈ (dav d).cells, y.one = true

theorem mapM_some {α β : Type} {f : α → Option β} : ∀ {l : List α} {r : List β}, l.mapM f = some r → r.length = l.length ∧ ∀ (i : Nat) (x : α), l[i]? = some x → ∃ y, r[i]? = some y ∧ f x = some y
  | [], r, h => by simp at h; subst h; simp
  | a :: l, r, h => by
    rw [List.mapM_cons] at h
    simp only [Option.bind_eq_bind, Option.pure_def, Option.bind_eq_some_iff] at h
    obtain ⟨b, hb, bs, hbs, h⟩ := h
    cases h
    obtain ⟨h1, h2⟩ := mapM_some hbs
    refine ⟨by simp [h1], fun i x hx => ?_⟩
    cases i with
    | zero => simp at hx; subst hx; exact ⟨b, rfl, hb⟩
    | succ i => simpa using h2 i x (by simpa using hx)

theorem cells?_some {w : World} {base : Nat} {a : Addr} {n : Nat} {cs : List Value} (h : w.cells? base a n = some cs) : cs.length = n ∧ ∀ (i : Nat) (u : Value), cs[i]? = some u → w.cell? (a.add i) = some u := by
  unfold World.cells? at h
  split at h
  · obtain ⟨h1, h2⟩ := mapM_some h
    simp at h1
    refine ⟨h1, fun i u hu => ?_⟩
    have hi : i < n := by have := (List.getElem?_eq_some_iff.1 hu).1; omega
    obtain ⟨y, hy, hc⟩ := h2 i i (by simp [hi])
    rw [hu] at hy
    cases hy
    exact hc
  · cases h

theorem lift_cells {k : Nat} {rs : List Value} {ds : List (DataW H)} (g : Nat → List Value) (hg : ∀ (i : Nat) (d : DataW H), ds[i]? = some d → Told S k (g i) d) :
    RVs S ((List.range ds.length).flatMap g) (ds.flatMap fun d => (dav d).cells) ∧ (∀ y ∈ ds.flatMap (fun d => (dav d).cells), y.one = true) ∧ ∀ d ∈ ds, (dav d).cells.length = k := by
  induction ds generalizing g with
  | nil => exact ⟨by simp; exact .nil, by simp, by simp⟩
  | cons d ds ih =>
    have h0 := hg 0 d rfl
    obtain ⟨i1, i2, i3⟩ := ih (fun i => g (i + 1)) fun i d hd => hg (i + 1) d (by simpa using hd)
    refine ⟨?_, ?_, ?_⟩
    · simp only [List.length_cons, List.range_succ_eq_map, List.flatMap_cons, List.flatMap_map]
      exact h0.2.1.append i1
    · intro y hy
      simp only [List.flatMap_cons, List.mem_append] at hy
      exact hy.elim (h0.2.2 y) (i2 y)
    · intro x hx
      simp only [List.mem_cons] at hx
      rcases hx with rfl | hx
      · rw [← h0.2.1.length]; exact h0.1
      · exact i3 x hx

theorem range_flat {cs : List Value} {k n : Nat} (hl : cs.length = n * k) : (List.range n).flatMap (fun i => (cs.drop (i * k)).take k) = cs := by
  induction n generalizing cs with
  | zero => simp at hl; simp [hl]
  | succ n ih =>
    rw [List.range_succ_eq_map, List.flatMap_cons, List.flatMap_map]
    have := ih (cs := cs.drop k) (by simp [hl, Nat.add_mul])
    simp only [Nat.zero_mul, List.drop_zero]
    have e : (fun a => ((fun i => List.take k (List.drop (i * k) cs)) ∘ Nat.succ) a) = fun i => ((cs.drop k).drop (i * k)).take k := by
      funext i
      simp [List.drop_drop, Nat.succ_eq_add_one, Nat.add_mul, Nat.add_comm]
    simp only [Function.comp_def] at e
    rw [e, this, List.take_append_drop]

theorem flat_index {α : Type} (g : Nat → List α) (k : Nat) : ∀ (n : Nat), (∀ i, i < n → (g i).length = k) → ∀ {j : Nat} {u : α}, ((List.range n).flatMap g)[j]? = some u → ∃ i l, i < n ∧ l < k ∧ j = i * k + l ∧ (g i)[l]? = some u
  | 0, _, j, u, h => by simp at h
  | n + 1, hg, j, u, h => by
    have hl : ((List.range n).flatMap g).length = n * k := by
      clear h
      have hg' : ∀ i, i < n → (g i).length = k := fun i hi => hg i (by omega)
      clear hg
      induction n with
      | zero => simp
      | succ n ih =>
        rw [List.range_succ, List.flatMap_append, List.length_append, ih fun i hi => hg' i (by omega)]
        simp [hg' n (by omega), Nat.add_mul]
    rw [List.range_succ, List.flatMap_append] at h
    rcases Nat.lt_or_ge j (n * k) with hj | hj
    · rw [List.getElem?_append_left (by omega)] at h
      obtain ⟨i, l, h1, h2, h3, h4⟩ := flat_index g k n (fun i hi => hg i (by omega)) h
      exact ⟨i, l, by omega, h2, h3, h4⟩
    · rw [List.getElem?_append_right (by omega), hl] at h
      simp at h
      have hlt := (List.getElem?_eq_some_iff.1 h).1
      have := hg n (by omega)
      exact ⟨n, j - n * k, by omega, by omega, by omega, h⟩

theorem tiles_told {cs : List Value} {F : Field → List Value → Option (DataW H × List MemPlace)} : ∀ (fs : List Field) (o n : Nat), tiles P o fs = some n → cs.length = n → ∀ (xs : List (DataW H × List MemPlace)),
    (fs.mapM fun f => F f ((cs.drop f.offset).take (P.cellsOf f.type))) = some xs → (∀ f ∈ fs, ∀ (cs' : List Value) (x : DataW H × List MemPlace), F f cs' = some x → Told S (P.cellsOf f.type) cs' x.1) →
    RVs S (cs.drop o) ((xs.map (·.1)).flatMap fun d => (dav d).cells) ∧ ∀ y ∈ (xs.map (·.1)).flatMap (fun d => (dav d).cells), y.one = true
  | [], o, n, ht, hl, xs, h, _ => by
    simp only [tiles] at ht
    cases ht
    simp at h
    subst h
    exact ⟨by rw [List.drop_eq_nil_of_le (by omega)]; exact .nil, by simp⟩
  | f :: fs, o, n, ht, hl, xs, h, hF => by
    simp only [tiles] at ht
    obtain ⟨ho, ht⟩ := bif_some ht
    have ho := Nat.eq_of_beq_eq_true ho
    rw [List.mapM_cons] at h
    simp only [Option.bind_eq_bind, Option.pure_def, Option.bind_eq_some_iff] at h
    obtain ⟨x, hx, xs', hxs, h⟩ := h
    cases h
    obtain ⟨i1, i2⟩ := tiles_told fs _ n ht hl xs' hxs fun g hg => hF g (by simp [hg])
    have h0 := hF f (by simp) _ _ hx
    refine ⟨?_, ?_⟩
    · simp only [List.map_cons, List.flatMap_cons]
      rw [← List.take_append_drop (P.cellsOf f.type) (cs.drop o), List.drop_drop]
      refine RVs.append ?_ i1
      rw [← ho]
      exact h0.2.1
    · intro y hy
      simp only [List.map_cons, List.flatMap_cons, List.mem_append] at hy
      exact hy.elim (h0.2.2 y) (i2 y)

theorem trod_rv {Ts : List TypeId} (hTs : ∀ t ∈ Ts, okT P Ts t = true) (hM : ∀ b, ¬ S.M b) : ∀ (fuel : Nat) (t : TypeId), t ∈ Ts → ∀ (cs : List Value) (d : DataW H) (ps : List MemPlace),
    DataW.trod enc P S.w 0 spare held fuel t cs = some (d, ps) → Told S (P.cellsOf t) cs d := by
  intro fuel
  induction fuel with
  | zero => intro t ht cs d ps h; simp [DataW.trod] at h
  | succ fuel ih =>
    intro t ht cs d ps h
    have hok := hTs t ht
    unfold okT at hok
    unfold DataW.trod at h
    cases hu : P.underlying t with
    | none => simp [hu] at hok
    | some td =>
      simp only [hu] at hok h
      cases td <;> simp only at hok <;> try (simp at hok; done)
      case bool =>
        have hc := Nat.eq_of_beq_eq_true hok
        rcases cs with _ | ⟨u, _ | ⟨u2, us⟩⟩ <;> try (simp at h; done)
        cases u <;> try (simp at h; done)
        simp at h
        obtain ⟨rfl, _⟩ := h
        exact ⟨by simp [hc], .single (.bool _), by simp [dav, AV.cells, AV.one]⟩
      case int k =>
        have hc := Nat.eq_of_beq_eq_true hok
        rcases cs with _ | ⟨u, _ | ⟨u2, us⟩⟩ <;> try (simp at h; done)
        cases u <;> try (simp at h; done)
        simp at h
        obtain ⟨⟨rfl, _⟩, rfl, _⟩ := h
        exact ⟨by simp [hc], .single (.int _ _), by simp [dav, AV.cells, AV.one]⟩
      case string =>
        have hc := Nat.eq_of_beq_eq_true hok
        rcases cs with _ | ⟨u, _ | ⟨u2, us⟩⟩ <;> try (simp at h; done)
        cases u <;> try (simp at h; done)
        rename_i s
        simp at h
        obtain ⟨_, rfl, _⟩ := h
        refine ⟨by simp [hc], .single ?_, by simp [dav, AV.cells, AV.one]⟩
        simp only [dav]
        exact .str _
      case slice e =>
        simp only [Bool.and_eq_true] at hok
        have hc := Nat.eq_of_beq_eq_true hok.1
        have hk := Nat.le_of_ble_eq_true hok.2.2
        have he : e ∈ Ts := by simpa using hok.2.1
        rcases cs with _ | ⟨u, _ | ⟨u2, us⟩⟩ <;> try (simp at h; done)
        cases u <;> try (simp at h; done)
        rename_i a len cap
        cases a with
        | none =>
          cases len <;> try (simp at h; done)
          cases cap <;> try (simp at h; done)
          simp at h
          obtain ⟨rfl, _⟩ := h
          refine ⟨by simp [hc], .single ?_, by simp [dav, AV.cells, AV.one]⟩
          exact RV.sl (k := 0) (us := []) rfl ⟨Nat.le_refl _, Nat.zero_le _⟩ .nil (by simp) (by simp) (by simp) (by simp)
        | some a =>
          simp only at h
          split at h <;> try (cases h; done)
          rename_i hb
          simp only [Option.bind_eq_some_iff, Option.map_eq_some_iff] at h
          obtain ⟨elems, hel, rest, hrest, h⟩ := h
          cases h
          obtain ⟨m1, m2⟩ := mapM_some hel
          simp at m1
          have hg : ∀ (i : Nat) (x : DataW H), (elems.map (·.1))[i]? = some x → ∃ cs', S.w.cells? 0 (a.add (i * P.cellsOf e)) (P.cellsOf e) = some cs' ∧ Told S (P.cellsOf e) cs' x := by
            intro i x hx
            rw [List.getElem?_map] at hx
            cases hxe : elems[i]? with
            | none => simp [hxe] at hx
            | some q =>
              simp [hxe] at hx
              have hi : i < len := by have := (List.getElem?_eq_some_iff.1 hxe).1; omega
              obtain ⟨y, hy, hf⟩ := m2 i i (by simp [hi])
              rw [hxe] at hy
              cases hy
              simp only [Option.bind_eq_some_iff] at hf
              obtain ⟨cs', hcs, htr⟩ := hf
              refine ⟨cs', hcs, ?_⟩
              rw [← hx]
              exact ih e he cs' q.1 q.2 (by rw [htr])
          have hlen : (elems.map (·.1)).length = len := by simp [m1]
          obtain ⟨r1, r2, r3⟩ := lift_cells (S := S) (k := P.cellsOf e) (rs := []) (ds := elems.map (·.1)) (fun i => (S.w.cells? 0 (a.add (i * P.cellsOf e)) (P.cellsOf e)).getD []) fun i x hx => by
            obtain ⟨cs', hcs, ht⟩ := hg i x hx
            simp only [hcs, Option.getD_some]
            exact ht
          rw [hlen] at r1
          have hxs : davs (elems.map (·.1)) = (elems.map (·.1)).map dav := davs_map _
          have hflat : ((elems.map (·.1)).map dav).flatMap AV.cells = (elems.map (·.1)).flatMap fun d => (dav d).cells := by rw [List.flatMap_map]
          refine ⟨by simp [hc], .single ?_, by simp [dav, AV.cells, AV.one]⟩
          simp only [dav, hxs]
          refine RV.sl (k := P.cellsOf e) (us := (List.range len).flatMap fun i => (S.w.cells? 0 (a.add (i * P.cellsOf e)) (P.cellsOf e)).getD []) (by simp [m1]) ⟨hb.2.1, hb.2.2⟩ (by rw [hflat]; exact r1) (fun x hx => ?_) (by rw [hflat]; exact r2) (fun _ => ⟨a, rfl⟩) fun j u hu => ?_
          · obtain ⟨d', hd', rfl⟩ := List.mem_map.1 hx
            exact r3 d' hd'
          · have hpos : ∀ i, i < len → ((S.w.cells? 0 (a.add (i * P.cellsOf e)) (P.cellsOf e)).getD []).length = P.cellsOf e := fun i hi => by
              obtain ⟨cs', hcs, ht⟩ := hg i ((elems.map (·.1))[i]'(by omega)) (List.getElem?_eq_getElem (by omega))
              simp only [hcs, Option.getD_some]
              exact ht.1
            obtain ⟨i, l, hi, hl, hj, hu'⟩ := flat_index (fun i => (S.w.cells? 0 (a.add (i * P.cellsOf e)) (P.cellsOf e)).getD []) (P.cellsOf e) len hpos hu
            obtain ⟨cs', hcs, ht⟩ := hg i ((elems.map (·.1))[i]'(by omega)) (List.getElem?_eq_getElem (by omega))
            simp only [hcs, Option.getD_some] at hu'
            have hcell := (cells?_some hcs).2 l u hu'
            have hsp : a.spot = none := by
              obtain ⟨cs0, hcs0, ht0⟩ := hg 0 ((elems.map (·.1))[0]'(by omega)) (List.getElem?_eq_getElem (by omega))
              have hl0 := (cells?_some hcs0).1
              have := (cells?_some hcs0).2 0 (cs0[0]'(by omega)) (by simp)
              have := spot_of_cell this
              simpa [Addr.add] using this
            rw [add_add _ _ _ hsp] at hcell
            refine ⟨a, rfl, .inl ⟨?_, hM _⟩, by rw [hj]; exact hcell⟩
            have := World.block_lt_of_cell? S.w _ hcell
            rwa [add_block] at this ⊢
      case struct fs =>
        simp only [Bool.and_eq_true] at hok
        obtain ⟨hok1, hok2⟩ := hok
        have hft : ∀ f ∈ fs.toList, f.type ∈ Ts := fun f hf => by
          have := List.all_eq_true.1 hok2 f hf
          simpa using this
        cases htl : tiles P 0 fs.toList with
        | none => simp [htl] at hok1
        | some n =>
          simp only [htl] at hok1
          have hn := Nat.eq_of_beq_eq_true hok1
          have h' : (if cs.length = P.cellsOf t then (fs.toList.mapM fun f => DataW.trod enc P S.w 0 spare held fuel f.type ((cs.drop f.offset).take (P.cellsOf f.type))).map fun xs => ((.agg (xs.map (·.1)) : DataW H), xs.flatMap (·.2)) else none) = some (d, ps) := by
            rcases cs with _ | ⟨u, _ | ⟨u2, us⟩⟩ <;> exact h
          split at h' <;> try (cases h'; done)
          rename_i hcl
          simp only [Option.map_eq_some_iff] at h'
          obtain ⟨xs, hxs, hd⟩ := h'
          cases hd
          obtain ⟨q1, q2⟩ := tiles_told (S := S) (cs := cs) (P := P) fs.toList 0 n htl (by omega) xs hxs fun f hf cs' x hx => ih f.type (hft f hf) cs' x.1 x.2 (by rw [hx])
          simp only [List.drop_zero] at q1
          refine ⟨hcl, ?_, ?_⟩
          · simp only [dav, AV.cells, davf_map]; exact q1
          · simp only [dav, AV.cells, davf_map]; exact q2
      case array n e =>
        simp only [Bool.and_eq_true] at hok
        have hn := Nat.eq_of_beq_eq_true hok.1
        have he : e ∈ Ts := by simpa using hok.2
        have h' : (if cs.length = P.cellsOf t then ((List.range n).mapM fun i => DataW.trod enc P S.w 0 spare held fuel e ((cs.drop (i * P.cellsOf e)).take (P.cellsOf e))).map fun xs => ((.agg (xs.map (·.1)) : DataW H), xs.flatMap (·.2)) else none) = some (d, ps) := by
          rcases cs with _ | ⟨u, _ | ⟨u2, us⟩⟩ <;> exact h
        split at h' <;> try (cases h'; done)
        rename_i hcl
        simp only [Option.map_eq_some_iff] at h'
        obtain ⟨xs, hxs, hd⟩ := h'
        cases hd
        obtain ⟨m1, m2⟩ := mapM_some hxs
        simp at m1
        obtain ⟨r1, r2, r3⟩ := lift_cells (S := S) (k := P.cellsOf e) (rs := []) (ds := xs.map (·.1)) (fun i => (cs.drop (i * P.cellsOf e)).take (P.cellsOf e)) fun i x hx => by
          rw [List.getElem?_map] at hx
          cases hxe : xs[i]? with
          | none => simp [hxe] at hx
          | some q =>
            simp [hxe] at hx
            have hi : i < n := by have := (List.getElem?_eq_some_iff.1 hxe).1; omega
            obtain ⟨y, hy, hf⟩ := m2 i i (by simp [hi])
            rw [hxe] at hy
            cases hy
            rw [← hx]
            exact ih e he _ q.1 q.2 (by rw [hf])
        have hlen : (xs.map (·.1)).length = n := by simp [m1]
        rw [hlen, range_flat (by omega)] at r1
        exact ⟨hcl, by simp only [dav, AV.cells, davf_map]; exact r1, by simp only [dav, AV.cells, davf_map]; exact r2⟩
end
end Go.Vm
