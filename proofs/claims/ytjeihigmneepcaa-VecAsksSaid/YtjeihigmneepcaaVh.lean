/- A call knows a part of the store only, by names of its own. -/
import Derived.Test.YtjeihigmneepcaaVg
set_option linter.unusedVariables false
set_option linter.unusedSectionVars false
set_option linter.unusedSimpArgs false
namespace Go.Vm
variable [Glob]

mutual
def AV.ren (f : Nat → Nat) : AV → AV
  | .agg cs => .agg (AV.rens f cs)
  | .tup cs => .tup (AV.rens f cs)
  | .sl cs => .sl (AV.rens f cs)
  | .rp cs => .rp (AV.rens f cs)
  | .fn g cs ds => .fn g (AV.rens f cs) (AV.rens f ds)
  | .own r v => .own (f r) v
  | .op r v i o => .op (f r) v i o
  | .gr r n => .gr (f r) n
  | .gp r n i o => .gp (f r) n i o
  | .ptr r o => .ptr (f r) o
  | .map r => .map (f r)
  | .any => .any
  | .bool b => .bool b
  | .int k n => .int k n
  | .str s => .str s
  | .nil => .nil
  | .nilptr => .nilptr
  | .nilmap => .nilmap
def AV.rens (f : Nat → Nat) : List AV → List AV
  | [] => []
  | x :: xs => AV.ren f x :: AV.rens f xs
end
theorem rens_map {f : Nat → Nat} : ∀ {xs : List AV}, AV.rens f xs = xs.map (AV.ren f)
  | [] => rfl
  | x :: xs => by simp [AV.rens, rens_map (xs := xs)]
theorem ren_one {f : Nat → Nat} (x : AV) : (x.ren f).one = x.one := by cases x <;> rfl
theorem ren_cells {f : Nat → Nat} (x : AV) : (x.ren f).cells = x.cells.map (AV.ren f) := by cases x <;> simp [AV.ren, AV.cells, rens_map]
theorem ren_flat {f : Nat → Nat} (xs : List AV) : (xs.map (AV.ren f)).flatMap AV.cells = (xs.flatMap AV.cells).map (AV.ren f) := by
  induction xs with
  | nil => rfl
  | cons x xs ih => simp [ih, ren_cells]
mutual
theorem ren_low0 {f : Nat → Nat} : ∀ {x : AV}, x.low 0 = true → x.ren f = x
  | .agg cs, h => by simp only [AV.low] at h; simp [AV.ren, rens_low0 h]
  | .tup cs, h => by simp only [AV.low] at h; simp [AV.ren, rens_low0 h]
  | .sl cs, h => by simp only [AV.low] at h; simp [AV.ren, rens_low0 h]
  | .rp cs, h => by simp only [AV.low] at h; simp [AV.ren, rens_low0 h]
  | .fn g cs ds, h => by simp only [AV.low, Bool.and_eq_true] at h; simp [AV.ren, rens_low0 h.1, rens_low0 h.2]
  | .own r v, h => by simp [AV.low, Nat.blt] at h
  | .op r v i o, h => by simp [AV.low, Nat.blt] at h
  | .gr r n, h => by simp [AV.low, Nat.blt] at h
  | .gp r n i o, h => by simp [AV.low, Nat.blt] at h
  | .ptr r o, h => by simp [AV.low, Nat.blt] at h
  | .map r, h => by simp [AV.low, Nat.blt] at h
  | .any, _ => rfl
  | .bool b, _ => rfl
  | .int k n, _ => rfl
  | .str s, _ => rfl
  | .nil, _ => rfl
  | .nilptr, _ => rfl
  | .nilmap, _ => rfl
theorem rens_low0 {f : Nat → Nat} : ∀ {xs : List AV}, AV.lows 0 xs = true → AV.rens f xs = xs
  | [], _ => rfl
  | x :: xs, h => by simp only [AV.lows, Bool.and_eq_true] at h; simp [AV.rens, ren_low0 h.1, rens_low0 h.2]
end
def AObj.ren (f : Nat → Nat) : AObj → AObj
  | .cells cs => .cells (cs.map (AV.ren f))
  | .arr fr v e k xs => .arr fr v e k (xs.map (AV.ren f))
  | .map es => .map (es.map fun p => (p.1.ren f, p.2.ren f))
  | .row mu e k xs => .row mu e k (xs.map (AV.ren f))
  | .dead => .dead
theorem ren_mut {f : Nat → Nat} (o : AObj) : (o.ren f).mut = o.mut := by cases o <;> simp [AObj.ren, AObj.mut]
theorem ren_blk {f : Nat → Nat} (o : AObj) : (o.ren f).blk = o.blk := by cases o <;> simp [AObj.ren, AObj.blk]

theorem RVs.split {T : St} : ∀ {xs ys : List AV} {us : List Value}, RVs T us (xs ++ ys) → ∃ u1 u2, us = u1 ++ u2 ∧ RVs T u1 xs ∧ RVs T u2 ys
  | [], ys, us, h => ⟨[], us, rfl, .nil, h⟩
  | x :: xs, ys, us, h => by
    cases h with
    | cons hx hs =>
      obtain ⟨u1, u2, rfl, h1, h2⟩ := RVs.split hs
      exact ⟨_ :: u1, u2, rfl, .cons hx h1, h2⟩

/-- The same world, seen with other names. -/
structure Seen (T T' : St) (g : Nat → Nat) : Prop where
  w : T'.w = T.w
  obj : ∀ (r : Nat) (o : AObj), T.σ[r]? = some o → T'.σ[g r]? = some (o.ren g) ∧ T'.ρ (g r) = T.ρ r ∧ T'.κ (g r) = T.κ r
  imm : ∀ b, T'.Imm b ↔ T.Imm b
  fil : ∀ b o, T'.Fil b o ↔ T.Fil b o
theorem Seen.rdo {T T' : St} {g : Nat → Nat} (h : Seen T T' g) (p : Addr) : T'.Rdo p ↔ T.Rdo p := by
  unfold St.Rdo
  rw [h.imm, h.fil]

mutual
theorem RV.ren {T T' : St} {g : Nat → Nat} (h : Seen T T' g) : ∀ {v : Value} {x : AV}, RV T v x → RV T' v (x.ren g)
  | _, _, .any v => .any v
  | _, _, .bool b => .bool b
  | _, _, .int k n => .int k n
  | _, _, .str s => .str s
  | _, _, .agg hr h1 => .agg (by rw [rens_map]; exact RVs.ren h hr) (by rw [rens_map]; intro c hc; obtain ⟨c', hc', rfl⟩ := List.mem_map.1 hc; rw [ren_one]; exact h1 c' hc')
  | _, _, .tup hr => .tup (by rw [rens_map]; exact RVs.ren h hr)
  | _, _, .nil => .nil
  | _, _, .sl (us := us) (k := k) hn hcm hr hk h1 hs hc => by
      simp only [AV.ren, rens_map]
      refine .sl (us := us) (k := k) (by simp [hn]) hcm (by rw [ren_flat]; exact RVs.ren h hr) (fun x hx => ?_) (fun y hy => ?_) (fun e => hs (by simpa using e)) fun j u hu => ?_
      · obtain ⟨x', hx', rfl⟩ := List.mem_map.1 hx; rw [ren_cells, List.length_map]; exact hk x' hx'
      · rw [ren_flat] at hy; obtain ⟨y', hy', rfl⟩ := List.mem_map.1 hy; rw [ren_one]; exact h1 y' hy'
      · obtain ⟨ad, e, hi, hcell⟩ := hc j u hu
        exact ⟨ad, e, (h.rdo _).2 hi, by rw [h.w]; exact hcell⟩
  | _, _, .own ho hv he => by
      obtain ⟨g1, g2, g3⟩ := h.obj _ _ ho
      exact .own g1 hv fun e => by rw [g2, g3, List.length_map]; exact he e
  | _, _, .rp hr h1 hc => by
      simp only [AV.ren, rens_map]
      refine .rp (RVs.ren h hr) (fun y hy => ?_) fun j u hu => ⟨(h.rdo _).2 (hc j u hu).1, by rw [h.w]; exact (hc j u hu).2⟩
      obtain ⟨y', hy', rfl⟩ := List.mem_map.1 hy; rw [ren_one]; exact h1 y' hy'
  | _, _, .op ho hv he => by
      obtain ⟨g1, g2, g3⟩ := h.obj _ _ ho
      exact .op g1 hv fun e => by rw [g2]; exact he e
  | _, _, .gr (o := o) ho hn he => by
      obtain ⟨g1, g2, g3⟩ := h.obj _ _ ho
      refine .gr g1 hn fun mu e k xs eo => ?_
      cases o <;> simp only [AObj.ren] at eo <;> cases eo
      obtain ⟨hv, he⟩ := he _ _ _ _ rfl
      exact ⟨by simpa using hv, fun e => by rw [g2, g3]; exact he (by simpa using e)⟩
  | _, _, .gp (o := o) ho h0 he => by
      obtain ⟨g1, g2, g3⟩ := h.obj _ _ ho
      refine .gp g1 h0 fun mu e k xs eo => ?_
      cases o <;> simp only [AObj.ren] at eo <;> cases eo
      obtain ⟨hv, he⟩ := he _ _ _ _ rfl
      exact ⟨by simpa using hv, fun e => by rw [g2]; exact he (by simpa using e)⟩
  | _, _, .ptr (r := r) (off := off) ho => by
      obtain ⟨g1, g2, g3⟩ := h.obj _ _ ho
      rw [← g2]
      exact .ptr g1
  | _, _, .nilptr => .nilptr
  | _, _, .map ho => by
      obtain ⟨g1, g2, g3⟩ := h.obj _ _ ho
      rw [← g2]
      exact .map g1
  | _, _, .nilmap => .nilmap
  | _, _, .fn hr hr' => .fn (by rw [rens_map]; exact RVs.ren h hr) (by rw [rens_map]; exact RVs.ren h hr')
theorem RVs.ren {T T' : St} {g : Nat → Nat} (h : Seen T T' g) : ∀ {us : List Value} {xs : List AV}, RVs T us xs → RVs T' us (xs.map (AV.ren g))
  | _, _, .nil => .nil
  | _, _, .cons hx hs => .cons (RV.ren h hx) (RVs.ren h hs)
end

mutual
theorem RV.unren {T T' : St} {g : Nat → Nat} (h : Seen T T' g) : ∀ (x : AV) {v : Value}, x.low T.σ.length = true → RV T' v (x.ren g) → RV T v x
  | .any, v, _, _ => .any v
  | .bool b, _, _, hr => by cases hr; exact .bool b
  | .int k n, _, _, hr => by cases hr; exact .int k n
  | .str s, _, _, hr => by cases hr; exact .str s
  | .agg cs, _, hl, hr => by
      simp only [AV.ren, rens_map] at hr
      simp only [AV.low] at hl
      cases hr with
      | agg hrs h1 => exact .agg (RVs.unren h cs hl hrs) fun c hc => by have := h1 _ (List.mem_map_of_mem hc); rwa [ren_one] at this
  | .tup cs, _, hl, hr => by
      simp only [AV.ren, rens_map] at hr
      simp only [AV.low] at hl
      cases hr with
      | tup hrs => exact .tup (RVs.unren h cs hl hrs)
  | .nil, _, _, hr => by cases hr; exact .nil
  | .sl xs, _, hl, hr => by
      simp only [AV.ren, rens_map] at hr
      simp only [AV.low] at hl
      cases hr with
      | sl hn hcm hrs hk h1 hs hc =>
        rename_i k
        refine .sl (k := k) (by simpa using hn) hcm (RVs.unflat h xs hl hrs) (fun x hx => ?_) (fun y hy => ?_) (fun e => hs (by simpa using e)) fun j u hu => ?_
        · have := hk _ (List.mem_map_of_mem hx); rwa [ren_cells, List.length_map] at this
        · have := h1 (y.ren g) (by rw [ren_flat]; exact List.mem_map_of_mem hy); rwa [ren_one] at this
        · obtain ⟨ad, e, hi, hcell⟩ := hc j u hu
          exact ⟨ad, e, (h.rdo _).1 hi, by rw [← h.w]; exact hcell⟩
  | .own r ver, _, hl, hr => by
      simp only [AV.low, Nat.blt] at hl
      simp only [AV.ren] at hr
      cases hr with
      | own ho hv he =>
        obtain ⟨o, hro⟩ : ∃ o, T.σ[r]? = some o := ⟨T.σ[r]'(by simp at hl; omega), by simp⟩
        obtain ⟨g1, g2, g3⟩ := h.obj _ _ hro
        rw [g1] at ho
        cases o <;> simp only [AObj.ren, Option.some.injEq] at ho <;> cases ho
        exact .own hro hv fun e => by have := he e; rwa [g2, g3, List.length_map] at this
  | .rp cs, _, hl, hr => by
      simp only [AV.ren, rens_map] at hr
      simp only [AV.low] at hl
      cases hr with
      | rp hrs h1 hc => exact .rp (RVs.unren h cs hl hrs) (fun y hy => by have := h1 _ (List.mem_map_of_mem hy); rwa [ren_one] at this) fun j u hu => ⟨(h.rdo _).1 (hc j u hu).1, by rw [← h.w]; exact (hc j u hu).2⟩
  | .op r ver i off, _, hl, hr => by
      simp only [AV.low, Nat.blt] at hl
      simp only [AV.ren] at hr
      cases hr with
      | op ho hv he =>
        obtain ⟨o, hro⟩ : ∃ o, T.σ[r]? = some o := ⟨T.σ[r]'(by simp at hl; omega), by simp⟩
        obtain ⟨g1, g2, g3⟩ := h.obj _ _ hro
        rw [g1] at ho
        cases o <;> simp only [AObj.ren, Option.some.injEq] at ho <;> cases ho
        exact .op hro hv fun e => by have := he e; rwa [g2] at this
  | .gr r m, _, hl, hr => by
      simp only [AV.low, Nat.blt] at hl
      simp only [AV.ren] at hr
      cases hr with
      | gr ho hn he =>
        obtain ⟨o, hro⟩ : ∃ o, T.σ[r]? = some o := ⟨T.σ[r]'(by simp at hl; omega), by simp⟩
        obtain ⟨g1, g2, g3⟩ := h.obj _ _ hro
        rw [g1] at ho
        injection ho with ho
        refine .gr hro hn fun mu e k xs eo => ?_
        subst eo
        obtain ⟨hv, he⟩ := he mu e k (xs.map (AV.ren g)) ho.symm
        exact ⟨by simpa using hv, fun e => by have := he (by simpa using e); rwa [g2, g3] at this⟩
  | .gp r m i off, _, hl, hr => by
      simp only [AV.low, Nat.blt] at hl
      simp only [AV.ren] at hr
      cases hr with
      | gp ho h0 he =>
        obtain ⟨o, hro⟩ : ∃ o, T.σ[r]? = some o := ⟨T.σ[r]'(by simp at hl; omega), by simp⟩
        obtain ⟨g1, g2, g3⟩ := h.obj _ _ hro
        rw [g1] at ho
        injection ho with ho
        refine .gp hro h0 fun mu e k xs eo => ?_
        subst eo
        obtain ⟨hv, he⟩ := he mu e k (xs.map (AV.ren g)) ho.symm
        exact ⟨by simpa using hv, fun e => by have := he (by simpa using e); rwa [g2] at this⟩
  | .ptr r off, _, hl, hr => by
      simp only [AV.low, Nat.blt] at hl
      simp only [AV.ren] at hr
      cases hr with
      | ptr ho =>
        obtain ⟨o, hro⟩ : ∃ o, T.σ[r]? = some o := ⟨T.σ[r]'(by simp at hl; omega), by simp⟩
        obtain ⟨g1, g2, g3⟩ := h.obj _ _ hro
        rw [g1] at ho
        cases o <;> simp only [AObj.ren, Option.some.injEq] at ho <;> cases ho
        rw [g2]
        exact .ptr hro
  | .nilptr, _, _, hr => by cases hr; exact .nilptr
  | .map r, _, hl, hr => by
      simp only [AV.low, Nat.blt] at hl
      simp only [AV.ren] at hr
      cases hr with
      | map ho =>
        obtain ⟨o, hro⟩ : ∃ o, T.σ[r]? = some o := ⟨T.σ[r]'(by simp at hl; omega), by simp⟩
        obtain ⟨g1, g2, g3⟩ := h.obj _ _ hro
        rw [g1] at ho
        cases o <;> simp only [AObj.ren, Option.some.injEq] at ho <;> cases ho
        rw [g2]
        exact .map hro
  | .nilmap, _, _, hr => by cases hr; exact .nilmap
  | .fn f cs ds, _, hl, hr => by
      simp only [AV.ren, rens_map] at hr
      simp only [AV.low, Bool.and_eq_true] at hl
      cases hr with
      | fn h1 h2 => exact .fn (RVs.unren h cs hl.1 h1) (RVs.unren h ds hl.2 h2)
theorem RVs.unren {T T' : St} {g : Nat → Nat} (h : Seen T T' g) : ∀ (xs : List AV) {us : List Value}, AV.lows T.σ.length xs = true → RVs T' us (xs.map (AV.ren g)) → RVs T us xs
  | [], _, _, hr => by cases hr; exact .nil
  | x :: xs, _, hl, hr => by
      simp only [AV.lows, Bool.and_eq_true] at hl
      cases hr with
      | cons h1 h2 => exact .cons (RV.unren h x hl.1 h1) (RVs.unren h xs hl.2 h2)
theorem RVs.unflat {T T' : St} {g : Nat → Nat} (h : Seen T T' g) : ∀ (xs : List AV) {us : List Value}, AV.lows T.σ.length xs = true → RVs T' us ((xs.map (AV.ren g)).flatMap AV.cells) → RVs T us (xs.flatMap AV.cells)
  | [], _, _, hr => by cases hr; exact .nil
  | x :: xs, us, hl, hr => by
      simp only [AV.lows, Bool.and_eq_true] at hl
      simp only [List.map_cons, List.flatMap_cons] at hr
      obtain ⟨u1, u2, rfl, h1, h2⟩ := hr.split
      refine RVs.append ?_ (RVs.unflat h xs hl.2 h2)
      have hx := fun v hv => RV.unren (v := v) h x hl.1 hv
      rw [ren_cells] at h1
      cases x with
      | agg cs => exact RVs.unren h cs (by simpa [AV.low] using hl.1) (by simpa [AV.cells] using h1)
      | _ =>
        simp only [AV.cells, List.map_cons, List.map_nil] at h1 ⊢
        cases h1 with
        | cons q qs => cases qs; exact .single (hx _ q)
end
end Go.Vm
