/- The frame rule: what a call of a part of the store comes to, for a caller with more. -/
import Derived.Test.YtjeihigmneepcaaVh
set_option linter.unusedVariables false
set_option linter.unusedSectionVars false
set_option linter.unusedSimpArgs false
namespace Go.Vm
variable [Glob]

def putBack (L : List AObj) : List Nat → List AObj → List AObj
  | r :: ν, o :: os => putBack (L.set r o) ν os
  | _, _ => L
def gname (n : Nat) (ν : List Nat) (i : Nat) : Nat := match ν[i]? with
  | some r => r
  | none => n + (i - ν.length)

theorem putBack_length : ∀ (ν : List Nat) (os L : List AObj), (putBack L ν os).length = L.length
  | [], os, L => by simp [putBack]
  | r :: ν, [], L => by simp [putBack]
  | r :: ν, o :: os, L => by simp [putBack, putBack_length ν os]
theorem putBack_other {r : Nat} : ∀ (ν : List Nat) (os L : List AObj), r ∉ ν → (putBack L ν os)[r]? = L[r]?
  | [], os, L, h => by simp [putBack]
  | q :: ν, [], L, h => by simp [putBack]
  | q :: ν, o :: os, L, h => by
    simp at h
    rw [putBack, putBack_other ν os _ h.2, List.getElem?_set_ne (by omega)]
theorem putBack_at : ∀ (ν : List Nat) (os L : List AObj), ν.Nodup → os.length = ν.length → ∀ {i r : Nat}, ν[i]? = some r → r < L.length → (putBack L ν os)[r]? = os[i]?
  | [], os, L, _, _, i, r, h, _ => by simp at h
  | q :: ν, [], L, _, hl, i, r, h, _ => by simp at hl
  | q :: ν, o :: os, L, hn, hl, 0, r, h, hr => by
    simp at h; subst h
    rw [List.nodup_cons] at hn
    rw [putBack, putBack_other ν os _ hn.1]
    simp [hr]
  | q :: ν, o :: os, L, hn, hl, i + 1, r, h, hr => by
    rw [List.nodup_cons] at hn
    rw [putBack, putBack_at ν os _ hn.2 (by simpa using hl) (i := i) (by simpa using h) (by simpa using hr)]
    simp

theorem lows_flat {n : Nat} {xs : List AV} (h : AV.lows n xs = true) : AV.lows n (xs.flatMap AV.cells) = true :=
  lows_iff.2 fun c hc => by
    obtain ⟨x, hx, hcx⟩ := List.mem_flatMap.1 hc
    exact low_cells (lows_iff.1 h x hx) c hcx

theorem ObjR.ren {T T' : St} {g : Nat → Nat} (h : Seen T T' g) (hM : ∀ b, T'.M b → T.M b) {r : Nat} {o : AObj} (ho : T.σ[r]? = some o) (hr : ObjR T r o) : ObjR T' (g r) (o.ren g) := by
  obtain ⟨g1, g2, g3⟩ := h.obj r o ho
  cases o with
  | cells cs =>
    obtain ⟨C, t, h1, h2, h3⟩ := hr
    exact ⟨C, t, by rw [g2, h.w]; exact h1, h2.ren h, fun c hc => by obtain ⟨c', hc', rfl⟩ := List.mem_map.1 hc; rw [ren_one]; exact h3 c' hc'⟩
  | arr fr ver e k xs =>
    obtain ⟨C, h1, h2, h3, h4, h5, h6, h7, h8, h9⟩ := hr
    refine ⟨C, by rw [g2, h.w]; exact h1, by rw [g3, List.length_map]; exact h2, by rw [g3]; exact h3, by rw [g3]; exact h4, ?_, fun x hx => ?_, fun y hy => ?_, fun e hm => ?_, h9⟩
    · rw [ren_flat, List.length_map]; exact h5.ren h
    · obtain ⟨x', hx', rfl⟩ := List.mem_map.1 hx; rw [ren_cells, List.length_map]; exact h6 x' hx'
    · rw [ren_flat] at hy; obtain ⟨y', hy', rfl⟩ := List.mem_map.1 hy; rw [ren_one]; exact h7 y' hy'
    · rw [g2] at hm; exact h8 e (hM _ hm)
  | map es =>
    obtain ⟨E, clock, h1, h2, h3⟩ := hr
    refine ⟨E, clock, by rw [g2, h.w]; exact h1, by simpa using h2, fun j e p he hp => ?_⟩
    rw [List.getElem?_map] at hp
    cases hq : es[j]? with
    | none => simp [hq] at hp
    | some q =>
      simp [hq] at hp
      subst hp
      exact ⟨(h3 j e q he hq).1.ren h, (h3 j e q he hq).2.ren h⟩
  | row mu e k xs =>
    obtain ⟨h1, h2, h3, h4⟩ := hr
    refine ⟨h1, fun x hx => ?_, fun y hy => ?_, fun hne => ?_⟩
    · obtain ⟨x', hx', rfl⟩ := List.mem_map.1 hx; rw [ren_cells, List.length_map]; exact h2 x' hx'
    · rw [ren_flat] at hy; obtain ⟨y', hy', rfl⟩ := List.mem_map.1 hy; rw [ren_one]; exact h3 y' hy'
    · obtain ⟨C, q1, q2, q3, q4, q5⟩ := h4 (by simpa using hne)
      exact ⟨C, by rw [g2, h.w]; exact q1, by rw [g3, List.length_map]; exact q2, by rw [g3]; exact q3, by rw [g3]; exact q4, by rw [ren_flat, List.length_map]; exact q5.ren h⟩
  | dead => trivial
theorem ObjR.unren {T T' : St} {g : Nat → Nat} (h : Seen T T' g) (hM : ∀ b, T.M b → T'.M b) {r : Nat} {o : AObj} (ho : T.σ[r]? = some o) (hl : o.low T.σ.length = true) (hr : ObjR T' (g r) (o.ren g)) : ObjR T r o := by
  obtain ⟨g1, g2, g3⟩ := h.obj r o ho
  cases o with
  | cells cs =>
    obtain ⟨C, t, h1, h2, h3⟩ := hr
    exact ⟨C, t, by rw [← g2, ← h.w]; exact h1, h2.unren h cs (by simpa [AObj.low] using hl), fun c hc => by have := h3 _ (List.mem_map_of_mem hc); rwa [ren_one] at this⟩
  | arr fr ver e k xs =>
    obtain ⟨C, h1, h2, h3, h4, h5, h6, h7, h8, h9⟩ := hr
    refine ⟨C, by rw [← g2, ← h.w]; exact h1, by rw [← g3]; simpa using h2, by rw [← g3]; exact h3, by rw [← g3]; exact h4, ?_, fun x hx => ?_, fun y hy => ?_, fun e hm => ?_, h9⟩
    · rw [List.length_map] at h5; exact h5.unflat h xs (by simpa [AObj.low] using hl)
    · have := h6 _ (List.mem_map_of_mem hx); rwa [ren_cells, List.length_map] at this
    · have := h7 (y.ren g) (by rw [ren_flat]; exact List.mem_map_of_mem hy); rwa [ren_one] at this
    · exact h8 e (by rw [g2]; exact hM _ hm)
  | map es =>
    obtain ⟨E, clock, h1, h2, h3⟩ := hr
    refine ⟨E, clock, by rw [← g2, ← h.w]; exact h1, by simpa using h2, fun j e p he hp => ?_⟩
    have := h3 j e (p.1.ren g, p.2.ren g) he (by simp [hp])
    simp only [AObj.low, List.all_eq_true, Bool.and_eq_true] at hl
    have hb := hl p (List.mem_of_getElem? hp)
    exact ⟨RV.unren h _ hb.1 this.1, RV.unren h _ hb.2 this.2⟩
  | row mu e k xs =>
    obtain ⟨h1, h2, h3, h4⟩ := hr
    refine ⟨h1, fun x hx => ?_, fun y hy => ?_, fun hne => ?_⟩
    · have := h2 _ (List.mem_map_of_mem hx); rwa [ren_cells, List.length_map] at this
    · have := h3 (y.ren g) (by rw [ren_flat]; exact List.mem_map_of_mem hy); rwa [ren_one] at this
    · obtain ⟨C, q1, q2, q3, q4, q5⟩ := h4 (by simpa using hne)
      refine ⟨C, by rw [← g2, ← h.w]; exact q1, by rw [← g3]; simpa using q2, by rw [← g3]; exact q3, by rw [← g3]; exact q4, ?_⟩
      rw [List.length_map] at q5; exact q5.unflat h xs (by simpa [AObj.low] using hl)
  | dead => trivial

theorem Fn_frame {P : Program} {f : FuncId} {args : List AV} {L0 L0' L : List AObj} {res : AV} {ν : List Nat} (h : Fn P f args L0 res L0') (hν : ν.length = L0.length) (hnd : ν.Nodup)
    (hL : ∀ (i r : Nat) (o : AObj), ν[i]? = some r → L0[i]? = some o → L[r]? = some (o.ren (gname L.length ν))) (hla : AV.lows L0.length args = true) (hlo : (L0.all fun o => o.low L0.length) = true) (hlen : L0.length ≤ L0'.length) :
    Fn P f (args.map (AV.ren (gname L.length ν))) L (res.ren (gname L.length ν))
      (putBack L ν ((L0'.take ν.length).map (AObj.ren (gname L.length ν))) ++ (L0'.drop ν.length).map (AObj.ren (gname L.length ν))) := by
  intro S hσ hI us hus
  subst hσ
  generalize hg : gname S.σ.length ν = g at *
  have gin : ∀ {i r}, ν[i]? = some r → g i = r := fun {i r} e => by rw [← hg]; simp [gname, e]
  have gout : ∀ {i}, ν.length ≤ i → g i = S.σ.length + (i - ν.length) := fun {i} e => by rw [← hg]; simp [gname, List.getElem?_eq_none e]
  have νin : ∀ {i}, i < ν.length → ∃ r o, ν[i]? = some r ∧ L0[i]? = some o ∧ S.σ[r]? = some (o.ren g) ∧ g i = r := fun {i} hi => by
    have h1 : ν[i]? = some ν[i] := by simp
    have h2 : L0[i]? = some (L0[i]'(by omega)) := by simp
    exact ⟨_, _, h1, h2, hL i _ _ h1 h2, gin h1⟩
  let S0 : St := { w := S.w, σ := L0, ρ := fun i => S.ρ (g i), κ := fun i => S.κ (g i), out := fun b => S.out b ∨ ∃ r o, S.σ[r]? = some o ∧ o.mut = true ∧ r ∉ ν ∧ S.ρ r = b, oim := S.Fil }
  have hobj0 : ∀ (r : Nat) (o : AObj), S0.σ[r]? = some o → S.σ[g r]? = some (o.ren g) ∧ S.ρ (g r) = S0.ρ r ∧ S.κ (g r) = S0.κ r := fun r o ho => by
    have hr : r < L0.length := (List.getElem?_eq_some_iff.1 ho).1
    obtain ⟨q, o', h1, h2, h3, h4⟩ := νin (i := r) (by omega)
    have : o' = o := by have := h2.symm.trans ho; injection this
    subst this
    exact ⟨by rw [h4]; exact h3, rfl, rfl⟩
  have hM0 : ∀ b, S0.M b ↔ S.M b := fun b => by
    constructor
    · rintro (⟨r, o, ho, hm, hb⟩ | hb | ⟨r, o, ho, hm, hn, hb⟩)
      · exact .inl ⟨g r, _, (hobj0 r o ho).1, by rw [ren_mut]; exact hm, hb⟩
      · exact .inr hb
      · exact .inl ⟨r, o, ho, hm, hb⟩
    · rintro (⟨r, o, ho, hm, hb⟩ | hb)
      · by_cases hr : r ∈ ν
        · obtain ⟨i, hi⟩ := List.getElem?_of_mem hr
          obtain ⟨q, o', h1, h2, h3, h4⟩ := νin (List.getElem?_eq_some_iff.1 hi).1
          have e1 : q = r := by have := h1.symm.trans hi; injection this
          subst e1
          have e2 : o = o'.ren g := by have := ho.symm.trans h3; injection this
          subst e2
          exact .inl ⟨i, o', h2, by rw [← ren_mut (f := g)]; exact hm, by show S.ρ (g i) = b; rw [h4]; exact hb⟩
        · exact .inr (.inr ⟨r, o, ho, hm, hr, hb⟩)
      · exact .inr (.inl hb)
  have hF0 : ∀ b o, S.Fil b o ↔ S0.Fil b o := fun b o => by
    constructor
    · intro hf
      have hf' := hf
      rcases hf with ⟨r, e, k, xs, h, h1, h2⟩ | ⟨h, h2⟩
      · have hmut : (AObj.row false e k xs).mut = true := by cases xs <;> simp_all [AObj.mut]
        by_cases hr : r ∈ ν
        · obtain ⟨i, hi⟩ := List.getElem?_of_mem hr
          obtain ⟨q, o', k1, k2, k3, k4⟩ := νin (List.getElem?_eq_some_iff.1 hi).1
          have e1 : q = r := by have := k1.symm.trans hi; injection this
          subst e1
          have e2 : AObj.row false e k xs = o'.ren g := by have := h.symm.trans k3; injection this
          cases o' <;> simp only [AObj.ren] at e2 <;> cases e2
          exact .inl ⟨i, _, _, _, k2, by show S.ρ (g i) = b; rw [k4]; exact h1, by simpa using h2⟩
        · exact .inr ⟨.inr ⟨r, _, h, hmut, hr, h1⟩, hf'⟩
      · exact .inr ⟨.inl h, hf'⟩
    · rintro (⟨r, e, k, xs, h, h1, h2⟩ | ⟨_, h⟩)
      · exact .inl ⟨g r, e, k, _, (hobj0 r _ h).1, h1, by simpa using h2⟩
      · exact h
  have hseen0 : Seen S0 S g := ⟨rfl, hobj0, fun b => ⟨fun hb => ⟨hb.1, fun hm => hb.2 ((hM0 b).1 hm)⟩, fun hb => ⟨hb.1, fun hm => hb.2 ((hM0 b).2 hm)⟩⟩, hF0⟩
  have hI0 : Inv S0 := {
    gl := ⟨hI.gl.1, fun b hb => (hseen0.imm b).1 (hI.gl.2 b hb)⟩
    obj := fun r o ho => (hI.obj _ _ (hobj0 r o ho).1).unren hseen0 (fun b hb => (hM0 b).1 hb) ho (by simp only [List.all_eq_true] at hlo; exact hlo o (List.mem_of_getElem? ho))
    inj := fun r r' o o' ho ho' hm hm' e => by
      have := hI.inj _ _ _ _ (hobj0 r o ho).1 (hobj0 r' o' ho').1 (by rw [ren_mut]; exact hm) (by rw [ren_mut]; exact hm') e
      have hr : r < L0.length := (List.getElem?_eq_some_iff.1 ho).1
      have hr' : r' < L0.length := (List.getElem?_eq_some_iff.1 ho').1
      obtain ⟨q, _, h1, _, _, h4⟩ := νin (i := r) (by omega)
      obtain ⟨q', _, h1', _, _, h4'⟩ := νin (i := r') (by omega)
      rw [h4, h4'] at this
      subst this
      exact (List.getElem?_inj (i := r) (by omega) hnd).1 (h1.trans h1'.symm)
    outl := fun b hb => by
      rcases hb with hb | ⟨r, o, ho, hm, hn, rfl⟩
      · exact hI.outl b hb
      · exact (hI.obj r o ho).lt (AObj.blk_of_mut hm)
    outr := fun r o ho hm hb => by
      obtain ⟨h1, _⟩ := hobj0 r o ho
      have hm' : (o.ren g).mut = true := by rw [ren_mut]; exact hm
      rcases hb with hb | ⟨r', o', ho', hm2, hn, hb⟩
      · exact hI.outr _ _ h1 hm' hb
      · have := hI.inj _ _ _ _ ho' h1 hm2 hm' hb
        have hr : r < L0.length := (List.getElem?_eq_some_iff.1 ho).1
        obtain ⟨q, _, k1, _, _, k4⟩ := νin (i := r) (by omega)
        rw [this, k4] at hn
        exact hn (List.mem_of_getElem? k1) }
  refine Calls.mono (h S0 rfl hI0 us (RVs.unren hseen0 args hla hus)) fun e w' hq => ?_
  obtain ⟨v, S1, rfl, rfl, hσ1, hI1, hle, hres⟩ := hq
  subst hσ1
  let L' := putBack S.σ ν ((S1.σ.take ν.length).map (AObj.ren g)) ++ (S1.σ.drop ν.length).map (AObj.ren g)
  let inv : Nat → Nat := fun r => if r ∈ ν then ν.idxOf r else ν.length + (r - S.σ.length)
  let S' : St := { w := S1.w, σ := L', ρ := fun r => if r < S.σ.length ∧ r ∉ ν then S.ρ r else S1.ρ (inv r), κ := fun r => if r < S.σ.length ∧ r ∉ ν then S.κ r else S1.κ (inv r), out := S.out, oim := S.oim }
  have νlt : ∀ {i r}, ν[i]? = some r → r < S.σ.length := fun {i r} e => by
    obtain ⟨q, o, h1, h2, h3, h4⟩ := νin (List.getElem?_eq_some_iff.1 e).1
    have e1 : q = r := by have := h1.symm.trans e; injection this
    subst e1
    exact (List.getElem?_eq_some_iff.1 h3).1
  have invg : ∀ i, inv (g i) = i ∧ ¬ (g i < S.σ.length ∧ g i ∉ ν) := fun i => by
    rcases Nat.lt_or_ge i ν.length with hi | hi
    · obtain ⟨q, o, h1, h2, h3, h4⟩ := νin hi
      have hmem := List.mem_of_getElem? h1
      rw [h4]
      have hq : q = ν[i] := by rw [List.getElem?_eq_getElem hi] at h1; injection h1 with h1; exact h1.symm
      refine ⟨?_, fun hc => hc.2 hmem⟩
      simp only [inv, if_pos hmem]
      rw [hq]
      exact hnd.idxOf_getElem i hi
    · rw [gout hi]
      have hnot : S.σ.length + (i - ν.length) ∉ ν := fun hm => by
        obtain ⟨j, hj⟩ := List.getElem?_of_mem hm
        have := νlt hj
        omega
      refine ⟨by simp only [inv, if_neg hnot]; omega, fun hc => by omega⟩
  have L'g : ∀ (i : Nat) (o : AObj), S1.σ[i]? = some o → L'[g i]? = some (o.ren g) := fun i o ho => by
    rcases Nat.lt_or_ge i ν.length with hi | hi
    · obtain ⟨q, o', h1, h2, h3, h4⟩ := νin hi
      rw [h4]
      have hql := νlt h1
      rw [List.getElem?_append_left (by rw [putBack_length]; exact hql), putBack_at ν _ S.σ hnd (by simp; omega) h1 hql]
      simp [hi, ho]
    · rw [gout hi, List.getElem?_append_right (by rw [putBack_length]; omega), putBack_length]
      have e1 : ν.length + (i - ν.length) = i := by omega
      simp [e1, ho]
  have L'o : ∀ {r}, r < S.σ.length → r ∉ ν → L'[r]? = S.σ[r]? := fun {r} hr hn => by
    rw [List.getElem?_append_left (by rw [putBack_length]; exact hr), putBack_other ν _ _ hn]
  have L'c : ∀ {r o}, L'[r]? = some o → (r < S.σ.length ∧ r ∉ ν ∧ S.σ[r]? = some o) ∨ ∃ i o1, r = g i ∧ S1.σ[i]? = some o1 ∧ o = o1.ren g := fun {r o} ho => by
    have hrl : r < L'.length := (List.getElem?_eq_some_iff.1 ho).1
    have hl' : L'.length = S.σ.length + (S1.σ.length - ν.length) := by simp [L', putBack_length]
    by_cases hr : r < S.σ.length
    · by_cases hn : r ∈ ν
      · right
        obtain ⟨i, hi⟩ := List.getElem?_of_mem hn
        have hil := (List.getElem?_eq_some_iff.1 hi).1
        have h1 : S1.σ[i]? = some (S1.σ[i]'(by omega)) := by simp
        refine ⟨i, _, (gin hi).symm, h1, ?_⟩
        have := L'g i _ h1
        rw [gin hi, ho] at this
        injection this
      · left
        exact ⟨hr, hn, by rw [← L'o hr hn]; exact ho⟩
    · right
      have hil : ν.length + (r - S.σ.length) < S1.σ.length := by omega
      have h1 : S1.σ[ν.length + (r - S.σ.length)]? = some (S1.σ[ν.length + (r - S.σ.length)]'hil) := by simp
      have hgr : g (ν.length + (r - S.σ.length)) = r := by rw [gout (by omega)]; omega
      refine ⟨_, _, hgr.symm, h1, ?_⟩
      have := L'g _ _ h1
      rw [hgr, ho] at this
      injection this
  have ρg : ∀ i, S'.ρ (g i) = S1.ρ i ∧ S'.κ (g i) = S1.κ i := fun i => by
    obtain ⟨h1, h2⟩ := invg i
    simp only [S', if_neg h2, h1, and_self]
  have ρo : ∀ {r}, r < S.σ.length → r ∉ ν → S'.ρ r = S.ρ r ∧ S'.κ r = S.κ r := fun {r} hr hn => by simp only [S', if_pos (And.intro hr hn), and_self]
  have hM1 : ∀ b, S'.M b ↔ S1.M b := fun b => by
    have ho1 := hle.outs
    constructor
    · rintro (⟨r, o, ho, hm, hb⟩ | hb)
      · rcases L'c ho with ⟨hr, hn, hs⟩ | ⟨i, o1, rfl, h1, rfl⟩
        · refine .inr ?_
          rw [ho1]
          exact .inr ⟨r, o, hs, hm, hn, by rw [← (ρo hr hn).1]; exact hb⟩
        · exact .inl ⟨i, o1, h1, by rw [← ren_mut (f := g)]; exact hm, by rw [← (ρg i).1]; exact hb⟩
      · exact .inr (by rw [ho1]; exact .inl hb)
    · rintro (⟨i, o, ho, hm, hb⟩ | hb)
      · exact .inl ⟨g i, _, L'g i o ho, by rw [ren_mut]; exact hm, by rw [(ρg i).1]; exact hb⟩
      · rw [ho1] at hb
        rcases hb with hb | ⟨r, o, ho, hm, hn, hb⟩
        · exact .inr hb
        · have hr := (List.getElem?_eq_some_iff.1 ho).1
          exact .inl ⟨r, o, by show L'[r]? = _; rw [L'o hr hn]; exact ho, hm, by rw [(ρo hr hn).1]; exact hb⟩
  have hF1 : ∀ b o, S'.Fil b o ↔ S1.Fil b o := fun b o => by
    have ho1 := hle.outs
    have hi1 := hle.oims
    constructor
    · rintro (⟨r, e, k, xs, h, h1, h2⟩ | ⟨h, h2⟩)
      · rcases L'c h with ⟨hr, hn, hs⟩ | ⟨i, o1, rfl, k1, k2⟩
        · have hmut : (AObj.row false e k xs).mut = true := by cases xs <;> simp_all [AObj.mut]
          rw [(ρo hr hn).1] at h1
          refine .inr ⟨by rw [ho1]; exact .inr ⟨r, _, hs, hmut, hn, h1⟩, by rw [hi1]; exact .inl ⟨r, e, k, xs, hs, h1, h2⟩⟩
        · cases o1 <;> simp only [AObj.ren] at k2 <;> cases k2
          exact .inl ⟨i, _, _, _, k1, by rw [← (ρg i).1]; exact h1, by simpa using h2⟩
      · exact .inr ⟨by rw [ho1]; exact .inl h, by rw [hi1]; exact .inr ⟨h, h2⟩⟩
    · rintro (⟨i, e, k, xs, h, h1, h2⟩ | ⟨h, h2⟩)
      · exact .inl ⟨g i, e, k, _, L'g i _ h, by rw [(ρg i).1]; exact h1, by simpa using h2⟩
      · rw [ho1] at h
        rw [hi1] at h2
        rcases h2 with ⟨r, e, k, xs, k1, k2, k3⟩ | h2
        · have hmut : (AObj.row false e k xs).mut = true := by cases xs <;> simp_all [AObj.mut]
          have hn : r ∉ ν := fun hn => by
            rcases h with h | ⟨r', o', q1, q2, q3, q4⟩
            · exact hI.outr r _ k1 hmut (by rw [k2]; exact h)
            · have := hI.inj _ _ _ _ q1 k1 q2 hmut (q4.trans k2.symm)
              rw [this] at q3
              exact q3 hn
          have hr := (List.getElem?_eq_some_iff.1 k1).1
          exact .inl ⟨r, e, k, xs, by show L'[r]? = _; rw [L'o hr hn]; exact k1, by rw [(ρo hr hn).1]; exact k2, k3⟩
        · exact .inr h2
  have hseen1 : Seen S1 S' g := ⟨rfl, fun r o ho => ⟨L'g r o ho, ρg r⟩, fun b => ⟨fun hb => ⟨hb.1, fun hm => hb.2 ((hM1 b).2 hm)⟩, fun hb => ⟨hb.1, fun hm => hb.2 ((hM1 b).1 hm)⟩⟩, hF1⟩
  have hleS : Le S S' := {
    os := hle.os
    tape := hle.tape
    output := hle.output
    size := hle.size
    outs := rfl
    oims := rfl
    outh := fun b hb => hle.outh b (.inl hb)
    fil := fun b o hb => by
      have h1 := hle.fil b o ((hF0 b o).1 hb)
      exact ⟨h1.1.elim (fun q => .inl ((hseen1.imm b).2 q)) fun q => .inr ((hF1 b o).2 q), h1.2⟩
    imm := fun b hb => by
      have h1 := hle.imm b ((hseen0.imm b).1 hb)
      exact ⟨(hseen1.imm b).2 h1.1, h1.2⟩
    obj := fun r o ho => by
      have hr := (List.getElem?_eq_some_iff.1 ho).1
      by_cases hn : r ∈ ν
      · obtain ⟨i, hi⟩ := List.getElem?_of_mem hn
        obtain ⟨q, o', h1, h2, h3, h4⟩ := νin (List.getElem?_eq_some_iff.1 hi).1
        have e1 : q = r := by have := h1.symm.trans hi; injection this
        subst e1
        have e2 : o = o'.ren g := by have := ho.symm.trans h3; injection this
        subst e2
        obtain ⟨o2, k1, k2⟩ := hle.obj i o' h2
        refine ⟨o2.ren g, by have := L'g i o2 k1; rwa [h4] at this, ?_⟩
        obtain ⟨r1, r2⟩ := ρg i
        rw [h4] at r1 r2
        have r3 : S0.ρ i = S.ρ q := by show S.ρ (g i) = _; rw [h4]
        have r4 : S0.κ i = S.κ q := by show S.κ (g i) = _; rw [h4]
        cases o' <;> cases o2 <;> simp only [ObjLe, AObj.ren, List.length_map] at k2 ⊢
        · rw [r1, ← r3]; exact k2
        · rw [r1, r2, ← r3, ← r4]; exact k2
        · rw [r1, ← r3]; exact k2
        · rw [r1, r2, ← r3, ← r4]; exact k2
      · obtain ⟨r1, r2⟩ := ρo hr hn
        refine ⟨o, by show L'[r]? = _; rw [L'o hr hn]; exact ho, by cases o <;> simp [ObjLe, r1, r2]⟩ }
  refine ⟨v, S', rfl, rfl, rfl, ?_, hleS, hres.ren hseen1⟩
  exact {
    gl := hI.gl.le hleS
    obj := fun r o ho => by
      rcases L'c ho with ⟨hr, hn, hs⟩ | ⟨i, o1, rfl, h1, rfl⟩
      · have hr0 := hI.obj r o hs
        refine hr0.keep hleS (ρo hr hn).1 (ρo hr hn).2 (fun hbk => ?_) fun b hb => ?_
        · rcases o.mut_cases with hm | ⟨ver, e', k, xs, rfl⟩ | hbk'
          · exact hle.outh _ (.inr ⟨r, o, hs, hm, hn, rfl⟩)
          · obtain ⟨_, _, _, _, _, _, _, _, h8, _⟩ := hr0
            exact (hle.imm _ ((hseen0.imm _).1 ⟨(hI.obj r _ hs).lt rfl, h8 rfl⟩)).2
          · rw [hbk'] at hbk; cases hbk
        · have hb1 := (hM1 b).1 hb
          rcases Nat.lt_or_ge b S.w.heap.size with g1 | g1
          · left
            refine Classical.byContradiction fun hnm => ?_
            exact (hle.imm b ((hseen0.imm b).1 ⟨g1, hnm⟩)).1.2 hb1
          · exact .inr g1
      · exact (hI1.obj i o1 h1).ren hseen1 (fun b hb => (hM1 b).1 hb) h1
    inj := fun r r' o o' ho ho' hm hm' e => by
      rcases L'c ho with ⟨hr, hn, hs⟩ | ⟨i, o1, rfl, h1, rfl⟩ <;> rcases L'c ho' with ⟨hr', hn', hs'⟩ | ⟨i', o1', rfl, h1', rfl⟩
      · rw [(ρo hr hn).1, (ρo hr' hn').1] at e; exact hI.inj _ _ _ _ hs hs' hm hm' e
      · exfalso
        rw [(ρo hr hn).1, (ρg i').1] at e
        rw [ren_mut] at hm'
        refine hI1.outr i' o1' h1' hm' ?_
        rw [hle.outs, ← e]
        exact .inr ⟨r, o, hs, hm, hn, rfl⟩
      · exfalso
        rw [(ρo hr' hn').1, (ρg i).1] at e
        rw [ren_mut] at hm
        refine hI1.outr i o1 h1 hm ?_
        rw [hle.outs, e]
        exact .inr ⟨r', o', hs', hm', hn', rfl⟩
      · rw [(ρg i).1, (ρg i').1] at e
        rw [ren_mut] at hm hm'
        rw [hI1.inj _ _ _ _ h1 h1' hm hm' e]
    outl := fun b hb => Nat.lt_of_lt_of_le (hI.outl b hb) hle.size
    outr := fun r o ho hm hb => by
      rcases L'c ho with ⟨hr, hn, hs⟩ | ⟨i, o1, rfl, h1, rfl⟩
      · rw [(ρo hr hn).1] at hb; exact hI.outr r o hs hm hb
      · rw [(ρg i).1] at hb
        rw [ren_mut] at hm
        refine hI1.outr i o1 h1 hm ?_
        rw [hle.outs]
        exact .inl hb }
end Go.Vm
