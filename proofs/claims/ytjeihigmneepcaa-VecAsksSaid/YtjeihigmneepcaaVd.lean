/- The operations: structs and rows that are built; what grows; the operations' abstract meaning, as a function. -/
import Derived.Test.YtjeihigmneepcaaVc
set_option linter.unusedVariables false
set_option linter.unusedSectionVars false
set_option linter.unusedSimpArgs false
namespace Go.Vm
variable [Glob]

/-! ### structs and rows that are built -/
theorem fill_fold (off : Nat) : ∀ (vs : List Value) (n : Nat) (C : Array Value), off + n + vs.length ≤ C.size →
    ((vs.zipIdx n).foldl (fun cs p => cs.setIfInBounds (off + p.2) p.1) C).toList = C.toList.take (off + n) ++ vs ++ C.toList.drop (off + n + vs.length)
  | [], n, C, _ => by simp
  | v :: vs, n, C, h => by
    simp only [List.zipIdx_cons, List.foldl_cons]
    rw [fill_fold off vs (n + 1) _ (by simp at h ⊢; omega)]
    simp at h
    simp only [Array.toList_setIfInBounds]
    have e := list_seg_step C.toList (off + n) v vs (by simp; omega)
    simpa [Nat.add_assoc] using e
theorem fill_one {place : Nat → Option (Nat × Nat)} {C : Array Value} {i : Nat} {v : Value} {off size : Nat} (hp : place i = some (off, size)) (hs : v.cells.size = size) (ho : off + size ≤ C.size) (rest : List (Nat × Value)) :
    Instr.fill place C ((i, v) :: rest) = Instr.fill place (C.toList.take off ++ v.cells.toList ++ C.toList.drop (off + size)).toArray rest := by
  have e : (v.cells.zipIdx.foldl (fun cs (c, j) => cs.setIfInBounds (off + j) c) C) = (C.toList.take off ++ v.cells.toList ++ C.toList.drop (off + size)).toArray := by
    apply Array.ext'
    have := fill_fold off v.cells.toList 0 C (by simp; omega)
    simp only [Nat.add_zero, Array.length_toList, hs] at this
    simp only [← this]
    rw [← Array.foldl_toList, Array.toList_zipIdx]
  simp only [Instr.fill, hp, hs]
  rw [if_neg (by simp; omega), e]

def afill (place : Nat → Option (Nat × Nat)) : List AV → List (Nat × AV) → Option (List AV)
  | cells, [] => some cells
  | cells, (i, v) :: rest => match place i with
    | none => none
    | some (off, size) => bif (Nat.beq v.cells.length size && Nat.ble (off + size) cells.length) && v.cells.all AV.one then afill place (putAt cells off v.cells) rest else none

theorem afill_sound {S : St} {place : Nat → Option (Nat × Nat)} : ∀ {parts : List (Nat × AV)} {cparts : List (Nat × Value)} {cells out : List AV} {C : Array Value},
    RVs S C.toList cells → (∀ c ∈ cells, c.one = true) → cparts.map (·.1) = parts.map (·.1) → RVs S (cparts.map (·.2)) (parts.map (·.2)) → afill place cells parts = some out →
    ∃ C', Instr.fill place C cparts = some C' ∧ RVs S C'.toList out ∧ (∀ c ∈ out, c.one = true)
  | [], [], cells, out, C, hC, h1, _, _, h => by simp [afill] at h; subst h; exact ⟨C, rfl, hC, h1⟩
  | [], _ :: _, _, _, _, _, _, h, _, _ => by simp at h
  | _ :: _, [], _, _, _, _, _, h, _, _ => by simp at h
  | (i, v) :: rest, (i', u) :: crest, cells, out, C, hC, h1, hi, hv, h => by
    simp at hi
    obtain ⟨rfl, hi⟩ := hi
    cases hv with
    | cons hu hvs =>
      simp only [afill] at h
      cases hp : place i' with
      | none => simp [hp] at h
      | some os =>
        obtain ⟨off, size⟩ := os
        simp only [hp] at h
        obtain ⟨hb, h⟩ := bif_some h
        simp only [Bool.and_eq_true] at hb
        have b1 := Nat.eq_of_beq_eq_true hb.1.1
        have b2 := Nat.le_of_ble_eq_true hb.1.2
        have b3 : ∀ c ∈ v.cells, c.one = true := by simpa using hb.2
        have hcu := hu.cells b3
        have hl := hC.length
        have hul := hcu.length
        simp at hul hl
        rw [fill_one hp (by omega) (by omega)]
        refine afill_sound (C := (C.toList.take off ++ u.cells.toList ++ C.toList.drop (off + size)).toArray) ?_ (fun c hc => (mem_putAt hc).elim (h1 c) (b3 c)) hi hvs h
        have := hC.putAt hcu off
        simpa [hul, b1] using this

def places (tab : TypeId → Option TI) : List Field → Option (List (Nat × Nat))
  | [] => some []
  | f :: fs => match tab f.type, places tab fs with
    | some i, some r => some ((f.offset, i.size) :: r)
    | _, _ => none
theorem places_sound {P : Program} {tab : TypeId → Option TI} (hT : TabOk P tab) : ∀ {fs : List Field} {r : List (Nat × Nat)}, places tab fs = some r → fs.mapM (fun f => (P.info? f.type).map fun i => (f.offset, i.size)) = some r
  | [], r, h => by simp [places] at h; subst h; simp
  | f :: fs, r, h => by
    simp only [places] at h
    split at h
    · rename_i i q hi hq
      cases h
      obtain ⟨_, ti, h1, h2, _⟩ := hT _ _ hi
      simp [List.mapM_cons, h1, h2, places_sound hT hq]
    · cases h

def abuild (tab : TypeId → Option TI) (t : TypeId) (parts : List (Nat × AV)) : Option AV :=
  match tab t with
  | some i =>
    let z := i.zero.cells.toList.map AV.lit
    bif z.all AV.one then
      (match i.desc with
      | .struct fields => match places tab fields.toList with
        | some pl => (afill (pl[·]?) z parts).map .agg
        | none => none
      | .array _ e => match tab e with
        | some ie => (afill (fun j => some (j * ie.size, ie.size)) z parts).map .agg
        | none => none
      | _ => none)
    else none
  | none => none
theorem abuild_sound {P : Program} {tab : TypeId → Option TI} (hT : TabOk P tab) {S : St} {t : TypeId} {parts : List (Nat × AV)} {cparts : List (Nat × Value)} {v : AV}
    (hi : cparts.map (·.1) = parts.map (·.1)) (hv : RVs S (cparts.map (·.2)) (parts.map (·.2))) (h : abuild tab t parts = some v) :
    ∃ u, P.built t cparts = some u ∧ RV S (.agg u) v := by
  unfold abuild at h
  cases ht : tab t with
  | none => simp [ht] at h
  | some i =>
    simp only [ht] at h
    obtain ⟨hz, h⟩ := bif_some h
    obtain ⟨hd, ti, h1, h2, h3, h4⟩ := hT t i ht
    have hz1 : ∀ c ∈ i.zero.cells.toList.map AV.lit, c.one = true := fun c hc => by
      simp only [List.all_eq_true] at hz
      exact hz c hc
    have hzr := lit_cells (S := S) i.zero hz1
    unfold Program.built
    cases hdd : i.desc <;> simp only [hdd] at h hd <;> try (cases h; done)
    · rename_i n e
      cases hte : tab e with
      | none => simp [hte] at h
      | some ie =>
        obtain ⟨_, tie, g1, g2, _⟩ := hT e ie hte
        simp only [hte, Option.map_eq_some_iff] at h
        obtain ⟨out, ho, rfl⟩ := h
        obtain ⟨C', hC', hr, hr1⟩ := afill_sound hzr hz1 hi hv ho
        refine ⟨C', by simp [h1, hd, h4, g1, g2, hC'], ?_⟩
        simpa using RV.agg hr hr1
    · rename_i fields
      cases hp : places tab fields.toList with
      | none => simp [hp] at h
      | some pl =>
        simp only [hp, Option.map_eq_some_iff] at h
        obtain ⟨out, ho, rfl⟩ := h
        obtain ⟨C', hC', hr, hr1⟩ := afill_sound hzr hz1 hi hv ho
        refine ⟨C', by simp [h1, hd, h4, places_sound hT hp, hC'], ?_⟩
        simpa using RV.agg hr hr1

/-! ### a row of the call's own -/
theorem arr_ok {S : St} (hI : Inv S) {C : Array Value} {e : TypeId} {k cap : Nat} {xs : List AV} (hC : C.size = cap * k) (hn : xs.length ≤ cap) (hm : cap ≤ maxLen)
    (hr : RVs S (C.toList.take (xs.length * k)) (xs.flatMap AV.cells)) (hk : ∀ x ∈ xs, x.cells.length = k) (h1 : ∀ y ∈ xs.flatMap AV.cells, y.one = true) (h0 : 0 < k) :
    let S' := S.push (.cells C e) (.arr false 0 e k xs) cap
    Inv S' ∧ Le S S' ∧ RV S' (.slice (some ⟨S.w.heap.size, 0, none⟩) xs.length cap) (.own S.σ.length 0) ∧ S'.σ = S.σ ++ [.arr false 0 e k xs] := by
  intro S'
  have hle : Le S S' := push_le hI ..
  have hh := heap_alloc_new S.w (.cells C e)
  refine ⟨push_inv hI ⟨C, by simpa [S', St.push] using hh, by simpa [S', St.push] using hn, by simpa [S', St.push] using hm, by simpa [S', St.push] using hC, hr.mono hle, hk, h1, by simp, h0⟩, hle, ?_, rfl⟩
  exact .own (fr := false) (e := e) (k := k) (xs := xs) (ver0 := 0) (by simp [S', St.push]) (Nat.le_refl _) fun _ => by simp [S', St.push]

theorem fill_seq {k : Nat} : ∀ (vs : List Value) (i : Nat) (C : Array Value), (∀ v ∈ vs, v.cells.size = k) → C.size = (i + vs.length) * k →
    ∃ C', Instr.fill (fun j => some (j * k, k)) C ((List.range' i vs.length).zip vs) = some C' ∧ C'.size = C.size ∧ C'.toList = C.toList.take (i * k) ++ vs.flatMap (fun v => v.cells.toList)
  | [], i, C, _, hC => ⟨C, rfl, rfl, by simp at hC ⊢; rw [List.take_of_length_le (by simp; omega)]⟩
  | v :: vs, i, C, hv, hC => by
    have hv0 := hv v (by simp)
    have e1 : (i + (v :: vs).length) * k = i * k + k + vs.length * k := by simp [Nat.add_mul]; omega
    obtain ⟨C', h1, h2, h3⟩ := fill_seq vs (i + 1) (C.toList.take (i * k) ++ v.cells.toList ++ C.toList.drop (i * k + k)).toArray (fun x hx => hv x (by simp [hx])) (by simp [Nat.add_mul]; omega)
    refine ⟨C', ?_, ?_, ?_⟩
    · simp only [List.length_cons, List.range'_succ, List.zip_cons_cons]
      rw [fill_one (place := fun j => some (j * k, k)) rfl hv0 (by omega)]
      exact h1
    · rw [h2]; simp; omega
    · rw [h3]
      have e2 : (i + 1) * k = i * k + k := by rw [Nat.add_mul, Nat.one_mul]
      simp only [List.flatMap_cons, List.toList_toArray, e2, ← List.append_assoc]
      congr 1
      rw [List.take_append_of_le_length (by simp; omega), List.take_of_length_le (by simp; omega)]

theorem flatMap_cells {S : St} : ∀ {us : List Value} {xs : List AV}, RVs S us xs → (∀ y ∈ xs.flatMap AV.cells, y.one = true) → RVs S (us.flatMap fun v => v.cells.toList) (xs.flatMap AV.cells)
  | _, _, .nil, _ => .nil
  | _, _, .cons hu hs, h => by
    simp only [List.flatMap_cons]
    exact (hu.cells fun c hc => h c (by simp [hc])).append (flatMap_cells hs fun c hc => h c (by simp only [List.flatMap_cons, List.mem_append]; exact .inr hc))

def abuildSlice (tab : TypeId → Option TI) (L : List AObj) (t : TypeId) (len : Nat) (parts : List (Nat × AV)) : Option (AV × List AObj) :=
  match (tab t).map TI.desc with
  | some (.slice e) => match tab e with
    | some ie =>
      let xs := parts.map (·.2)
      bif (Nat.ble (len * ie.size) 16777216 && Nat.ble 1 ie.size) && (decide (parts.map (·.1) = List.range' 0 len) && (xs.all (fun x => Nat.beq x.cells.length ie.size) && (xs.flatMap AV.cells).all AV.one)) then
        some (.own L.length 0, L ++ [.arr false 0 e ie.size xs]) else none
    | none => none
  | _ => none

theorem zip_fst_snd {α β : Type} : ∀ (l : List (α × β)), l = (l.map (·.1)).zip (l.map (·.2))
  | [] => rfl
  | (a, b) :: l => by simp; exact zip_fst_snd l

theorem abuildSlice_run {P : Program} {tab : TypeId → Option TI} (hT : TabOk P tab) {S : St} (hI : Inv S) {t : TypeId} {len : Nat} {parts : List (Nat × AV)} {cparts : Array (Nat × Value)} {v : AV} {L' : List AObj}
    (hi : cparts.toList.map (·.1) = parts.map (·.1)) (hv : RVs S (cparts.toList.map (·.2)) (parts.map (·.2))) (h : abuildSlice tab S.σ t len parts = some (v, L')) :
    ∃ C e k, (Instr.buildSlice t len cparts).run P S.w = .ok (.slice (some ⟨S.w.heap.size, 0, none⟩) len len) (S.w.alloc (.cells C e)) ∧ v = .own S.σ.length 0 ∧ L' = S.σ ++ [.arr false 0 e k (parts.map (·.2))] ∧
      C.size = len * k ∧ (parts.map (·.2)).length = len ∧ len ≤ maxLen ∧ RVs S (C.toList.take ((parts.map (·.2)).length * k)) ((parts.map (·.2)).flatMap AV.cells) ∧ (∀ x ∈ parts.map (·.2), x.cells.length = k) ∧
      (∀ y ∈ (parts.map (·.2)).flatMap AV.cells, y.one = true) ∧ 0 < k := by
  unfold abuildSlice at h
  cases ht : tab t with
  | none => simp [ht] at h
  | some i =>
    simp only [ht, Option.map_some] at h
    obtain ⟨hd, _⟩ := hT t i ht
    cases hdd : i.desc <;> simp only [hdd] at h hd <;> try (cases h; done)
    rename_i e
    cases hte : tab e with
    | none => simp [hte] at h
    | some ie =>
      simp only [hte] at h
      obtain ⟨hb, h⟩ := bif_some h
      cases h
      simp only [Bool.and_eq_true, decide_eq_true_eq, List.all_eq_true] at hb
      obtain ⟨⟨b1, b2⟩, b3, b4, b5⟩ := hb
      have b1 := Nat.le_of_ble_eq_true b1
      have b2 := Nat.le_of_ble_eq_true b2
      obtain ⟨_, tie, g1, g2, g3, g4⟩ := hT e ie hte
      have hk : ∀ x ∈ parts.map (·.2), x.cells.length = ie.size := fun x hx => Nat.eq_of_beq_eq_true (b4 x hx)
      have hone : ∀ y ∈ (parts.map (·.2)).flatMap AV.cells, y.one = true := b5
      have hlen : parts.length = len := by have := congrArg List.length b3; simpa using this
      have hcl : cparts.toList.length = len := by have := congrArg List.length hi; simp at this; simp; omega
      have hcv : ∀ u ∈ cparts.toList.map (·.2), u.cells.size = ie.size := by
        intro u hu
        obtain ⟨j, hj⟩ := List.getElem?_of_mem hu
        obtain ⟨x, hx, hr⟩ := hv.get' hj
        have hxm := List.mem_of_getElem? hx
        have := (hr.cells fun c hc => hone c (List.mem_flatMap.2 ⟨x, hxm, hc⟩)).length
        simp at this
        rw [this, hk x hxm]
      let Z : Array Value := (Array.range (len * ie.size)).map (((if len * ie.size = 0 then #[] else ie.zero.cells))[· % ((if len * ie.size = 0 then #[] else ie.zero.cells)).size]!)
      have hZ : Z.size = (0 + (cparts.toList.map (·.2)).length) * ie.size := by simp [Z] at hcl ⊢; rw [hcl]
      obtain ⟨C', f1, f2, f3⟩ := fill_seq (k := ie.size) (cparts.toList.map (·.2)) 0 Z hcv hZ
      have hzip : (List.range' 0 (cparts.toList.map (·.2)).length).zip (cparts.toList.map (·.2)) = cparts.toList := by
        rw [List.length_map, hcl, ← b3, ← hi]
        exact (zip_fst_snd _).symm
      rw [hzip] at f1
      have hC's : C'.size = len * ie.size := by rw [f2, hZ]; simp at hcl ⊢; rw [hcl]
      have hC't : RVs S (C'.toList.take ((parts.map (·.2)).length * ie.size)) ((parts.map (·.2)).flatMap AV.cells) := by
        rw [List.length_map, hlen, List.take_of_length_le (by simp [hC's]), f3]
        simpa using flatMap_cells hv hone
      have hmax : len ≤ maxLen := by
        have : len * 1 ≤ len * ie.size := Nat.mul_le_mul_left len b2
        simp only [maxLen]; omega
      refine ⟨C', e, ie.size, ?_, rfl, rfl, hC's, by simp [hlen], hmax, hC't, hk, hone, b2⟩
      have hnb : ¬ (16777216 < len * ie.size) := by omega
      have hzl : (parts.map (·.2)).length = len := by simp [hlen]
      by_cases hz0 : len * ie.size = 0
      · have f1' := f1
        simp only [Z, hz0] at f1'
        simp [Instr.buildSlice, run_underlying hd, sizeOf, typeInfo, g1, g2, hnb, hz0]
        try simp at f1'
        simp [f1', newRow, hlen]
      · have f1' := f1
        simp only [Z, hz0, if_false] at f1'
        simp [Instr.buildSlice, run_underlying hd, sizeOf, typeInfo, g1, g2, hnb, hz0, zeroValue, g4]
        try simp at f1'
        simp [f1', newRow, hlen]
theorem abuildSlice_sound {P : Program} {tab : TypeId → Option TI} (hT : TabOk P tab) {S : St} (hI : Inv S) {t : TypeId} {len : Nat} {parts : List (Nat × AV)} {cparts : Array (Nat × Value)} {v : AV} {L' : List AObj}
    (hi : cparts.toList.map (·.1) = parts.map (·.1)) (hv : RVs S (cparts.toList.map (·.2)) (parts.map (·.2))) (h : abuildSlice tab S.σ t len parts = some (v, L')) :
    ∃ u S', (Instr.buildSlice t len cparts).run P S.w = .ok u S'.w ∧ S'.σ = L' ∧ Inv S' ∧ Le S S' ∧ RV S' u v := by
  obtain ⟨C, e, k, h1, rfl, rfl, h2, h3, h4, h5, h6, h7, h8⟩ := abuildSlice_run (P := P) hT hI hi hv h
  have harr := arr_ok (e := e) (k := k) (cap := len) (xs := parts.map (·.2)) hI h2 (by omega) h4 h5 h6 h7 h8
  exact ⟨_, _, h1, harr.2.2.2, harr.1, harr.2.1, by rw [← h3]; exact h3 ▸ harr.2.2.1⟩
end Go.Vm
