/- TreeBares' plain law: depths agree, and a program without places is told alike. -/
import Derived.Test.YtafpcogpabnjmaaBaB
set_option linter.unusedVariables false
set_option linter.unusedSimpArgs false
set_option linter.unusedSectionVars false
namespace Go.Vm

def dep : Nat → List T69 → Int
  | 0, _ => 0
  | m + 1, l => l.foldl (fun n s => max n (1 + max (dep m s.f4) (dep m s.f5))) 0
theorem fold_bound {m : Nat} {f : T69 → Int} (hf : ∀ s, 0 ≤ f s ∧ f s ≤ m) : ∀ (l : List T69) (n : Int), 0 ≤ n → n ≤ m → 0 ≤ l.foldl (fun n s => max n (f s)) n ∧ l.foldl (fun n s => max n (f s)) n ≤ m
  | [], n, h0, h1 => ⟨h0, h1⟩
  | s :: r, n, h0, h1 => by
    have := hf s
    exact fold_bound hf r (max n (f s)) (by omega) (by omega)
theorem dep_bound : ∀ (m : Nat) (l : List T69), 0 ≤ dep m l ∧ dep m l ≤ m
  | 0, _ => by simp [dep]
  | m + 1, l => by
    simp only [dep]
    refine fold_bound (m := m + 1) (f := fun s => 1 + max (dep m s.f4) (dep m s.f5)) (fun s => ?_) l 0 (by omega) (by omega)
    have := dep_bound m s.f4
    have := dep_bound m s.f5
    omega
theorem wrap_small {x : Int} (h0 : -1000000 ≤ x) (h1 : x ≤ 1000000) : IntKind.wrap .i64 x = x := by rw [IntKind.wrap_i64]; omega
theorem gt_max (a b : Int) : (if b > a then b else a) = max a b := by
  rw [Int.max_def]
  split <;> split <;> omega

theorem F40_ev : ∀ (m : Nat), m ≤ 100 → ∀ (l : List T69), ws69 l → l.length ≤ maxLen → Ev (fun k => F40 k l (m : Int)) (dep m l)
  | 0, hm, l, h, hl => Ev.succ (by simp only [F40, dep]; exact Ev.pure)
  | m + 1, hm, l, h, hl => by
    have ls : ∀ (rest : List T69), ws69 rest → ∀ (xs : List T69) (i : Nat) (n : Int), xs.drop i = rest → xs.length ≤ maxLen → 0 ≤ n → n ≤ m + 1 →
        Ev (fun k => F40_l0 k ((m + 1 : Nat) : Int) xs n (i : Int)) (rest.foldl (fun n s => max n (1 + max (dep m s.f4) (dep m s.f5))) n) := by
      intro rest
      induction rest with
      | nil =>
        intro h xs i n hd hl h0 h1
        refine Ev.succ ?_
        simp only [F40_l0, l69_len, ge_dec (drop_end hd), cond_false]
        exact Ev.pure
      | cons e rest ih =>
        intro h xs i n hd hl h0 h1
        obtain ⟨g1, g2, g3⟩ := idx_drop hd
        obtain ⟨a, b, c, d, e4, e5, g⟩ := e
        have hw := h.1
        simp only [w69] at hw
        have e1 := F40_ev m (by omega) e4 hw.2.2.2.2.1.2 hw.2.2.2.2.1.1
        have e2 := F40_ev m (by omega) e5 hw.2.2.2.2.2.1.2 hw.2.2.2.2.2.1.1
        have b1 := dep_bound m e4
        have b2 := dep_bound m e5
        have hr := ih h.2 xs (i + 1) (max n (1 + max (dep m e4) (dep m e5))) g3 hl (by omega) (by omega)
        have hm1 : IntKind.wrap .i64 (((m + 1 : Nat) : Int) - 1) = (m : Int) := by rw [wrap_small (by omega) (by omega)]; omega
        refine Ev.succ ?_
        simp only [F40_l0, l69_len, lt_dec g2, cond_true, g1, Option.bind_some, wrap_nat g2 hl, hm1]
        refine Ev.bind e1 (Ev.bind e2 ?_)
        simp only [gt_max]
        rw [wrap_small (x := 1 + max (dep m e4) (dep m e5)) (by omega) (by omega)]
        exact hr
    have hz : ((((m + 1 : Nat) : Int)) == 0) = false := by simp; omega
    refine Ev.succ ?_
    simp only [F40, hz, cond_false, dep]
    exact ls l h l 0 0 rfl hl (by omega) (by omega)
theorem F16_ev : ∀ (m : Nat), m ≤ 100 → ∀ (l : List T69), ws69 l → l.length ≤ maxLen → Ev (fun k => F16 k l (m : Int)) (dep m l)
  | 0, hm, l, h, hl => by
    refine Ev.succ ?_
    simp only [F16, dep]
    refine Ev.succ ?_
    simp only [F16_l0]
    have : decide (((0 : Nat) : Int) > 0) = false := by decide
    simp only [this]
    cases decide ((0 : Int) < ((l69 l).length : Int)) <;> exact Ev.succ (by simp only [F16_j1, cond_false]; exact Ev.pure)
  | m + 1, hm, l, h, hl => by
    have hz : decide ((((m + 1 : Nat) : Int)) > 0) = true := by simp
    have ls : ∀ (rest : List T69), ws69 rest → ∀ (xs : List T69) (i : Nat) (n : Int), xs.drop i = rest → xs.length ≤ maxLen → 0 ≤ n → n ≤ m + 1 →
        Ev (fun k => F16_l0 k xs ((m + 1 : Nat) : Int) n (i : Int)) (rest.foldl (fun n s => max n (1 + max (dep m s.f4) (dep m s.f5))) n) := by
      intro rest
      induction rest with
      | nil =>
        intro h xs i n hd hl h0 h1
        refine Ev.succ ?_
        simp only [F16_l0, l69_len, ge_dec (drop_end hd), cond_false]
        exact Ev.succ (by simp only [F16_j1, cond_false]; exact Ev.pure)
      | cons e rest ih =>
        intro h xs i n hd hl h0 h1
        obtain ⟨g1, g2, g3⟩ := idx_drop hd
        obtain ⟨a, b, c, d, e4, e5, g⟩ := e
        have hw := h.1
        simp only [w69] at hw
        have e1 := F16_ev m (by omega) e4 hw.2.2.2.2.1.2 hw.2.2.2.2.1.1
        have e2 := F16_ev m (by omega) e5 hw.2.2.2.2.2.1.2 hw.2.2.2.2.2.1.1
        have b1 := dep_bound m e4
        have b2 := dep_bound m e5
        have hr := ih h.2 xs (i + 1) (max n (1 + max (dep m e4) (dep m e5))) g3 hl (by omega) (by omega)
        have hm1 : IntKind.wrap .i64 (((m + 1 : Nat) : Int) - 1) = (m : Int) := by rw [wrap_small (by omega) (by omega)]; omega
        have j3 : ∀ z : Int, z = max (dep m e4) (dep m e5) → Ev (fun k => F16_j3 k xs ((m + 1 : Nat) : Int) n (i : Int) z) (rest.foldl (fun n s => max n (1 + max (dep m s.f4) (dep m s.f5))) (max n (1 + max (dep m e4) (dep m e5)))) := by
          intro z hz'
          refine Ev.succ ?_
          simp only [F16_j3]
          rw [wrap_small (x := z + 1) (by omega) (by omega)]
          refine Ev.bif (fun hb => ?_) fun hb => ?_
          · refine Ev.succ ?_
            simp only [F16_j2, wrap_nat g2 hl]
            have : z + 1 = max n (1 + max (dep m e4) (dep m e5)) := by simp at hb; omega
            rw [this]; exact hr
          · refine Ev.succ ?_
            simp only [F16_j2, wrap_nat g2 hl]
            have : n = max n (1 + max (dep m e4) (dep m e5)) := by simp at hb; omega
            rw [← this] at hr ⊢; exact hr
        refine Ev.succ ?_
        simp only [F16_l0, l69_len, lt_dec g2, cond_true, hz]
        refine Ev.succ ?_
        simp only [F16_j1, cond_true, g1, Option.bind_some, hm1]
        refine Ev.bind e1 (Ev.bind e2 ?_)
        refine Ev.bif (fun hb => ?_) fun hb => ?_
        · exact j3 _ (by simp at hb; omega)
        · exact j3 _ (by simp at hb; omega)
    refine Ev.succ ?_
    simp only [F16, dep]
    exact ls l h l 0 0 rfl hl (by omega) (by omega)

theorem F14_of (y : T24) (h : w24 y) : ∃ b : Bool, (b = true ↔ (!(headB y.f0 (y.f1.length : Int) (y.f2.length : Int)) && (y.f1.all okD && okP y.f2)) = true ∧ (cP y.f2 : Int) ≤ 200 ∧ (mP y.f2 : Int) ≤ 8192) ∧ Ev (fun k => F14 k y.f0 y.f1 y.f2) (bif b then 0 else 1) := by
  obtain ⟨b, st, ex, p1, p2, p3⟩ := F37_ev y h
  refine ⟨b, by simpa using p2, ?_⟩
  simp only [F14]
  refine Ev.bind p1 ?_
  cases b <;> exact Ev.pure
theorem F14_zero (y : T24) (h : w24 y) (h1 : (!(headB y.f0 (y.f1.length : Int) (y.f2.length : Int)) && (y.f1.all okD && okP y.f2)) = true) (h2 : (cP y.f2 : Int) ≤ 200) (h3 : (mP y.f2 : Int) ≤ 8192) : Ev (fun k => F14 k y.f0 y.f1 y.f2) 0 := by
  obtain ⟨b, e1, e2⟩ := F14_of y h
  have := e1.2 ⟨h1, h2, h3⟩
  subst this
  exact e2

theorem plainB (y : T24) (at_ : Int) (h : w24 y) (ha : w2 at_) : ∃ k, F4 k y.f0 y.f1 y.f2 at_ = some true := by
  obtain ⟨r, hr⟩ := light_ev y h
  have haw := awake_ev
  refine Ev.get (f := fun k => F4 k y.f0 y.f1 y.f2 at_) ?_
  simp only [F4]
  refine Ev.bind hr ?_
  cases r with
  | false => exact Ev.bind haw Ev.pure
  | true =>
    simp only [Bool.not_true, cond_false]
    obtain ⟨b, p2, f14⟩ := F14_of y h
    obtain ⟨N, M, r1, r2, r3, r4⟩ := F13_ev y h
    obtain ⟨w, ds, ps⟩ := y
    have hw := h
    simp only [w24] at hw
    dsimp only at *
    have f18 : Ev (fun k => F18 k w ds ps) b := by
      simp only [F18]
      refine Ev.bind r1 ?_
      have : decide (N ≥ 0) = b := by
        cases b with
        | false =>
          have : ¬ 0 ≤ N := fun g => by
            obtain ⟨x, a1, a2⟩ := r2 g
            have := p2.2 ⟨x, by omega, by omega⟩
            cases this
          simp; omega
        | true =>
          obtain ⟨x, y', z⟩ := p2.1 rfl
          have := r3 x (by omega) (by omega)
          simp; omega
      simp only [this]
      exact Ev.pure
    -- the depths
    have loop : ∀ (R : Bool), Ev (fun k => F4_l0 k at_ w ds ps (ps.length : Int)) R → ∀ (rest : List T34) (i : Nat), ws34 rest → ps.drop i = rest → Ev (fun k => F4_l0 k at_ w ds ps (i : Int)) R := by
      intro R hR rest
      induction rest with
      | nil =>
        intro i _ hd
        have hz : ∀ k : Nat, F4_l0 k at_ w ds ps (i : Int) = F4_l0 k at_ w ds ps (ps.length : Int) := fun k => by
          cases k with
          | zero => rfl
          | succ k => simp only [F4_l0, l34_len, ge_dec (drop_end hd), ge_dec (Nat.le_refl ps.length), cond_false]
        exact hR.congr hz
      | cons e rest ih =>
        intro i hws hd
        obtain ⟨g1, g2, g3⟩ := idx_drop hd
        have hr := ih (i + 1) hws.2 g3
        obtain ⟨a, b', c⟩ := e
        have hwe := hws.1
        simp only [w34] at hwe
        have e1 := F40_ev 13 (by omega) b' hwe.2.1.2 hwe.2.1.1
        have e2 := F16_ev 13 (by omega) b' hwe.2.1.2 hwe.2.1.1
        refine Ev.succ ?_
        simp only [F4_l0, l34_len, lt_dec g2, cond_true, g1, Option.bind_some, wrap_nat g2 hw.2.2.1]
        refine Ev.bind (a := dep 13 b') ?_ ?_
        · simp only [F15]
          exact Ev.bind e1 Ev.pure
        refine Ev.bind e2 ?_
        simp only [bne_self_eq_false, cond_false]
        exact hr
    refine loop true ?_ ps 0 hw.2.2.2 rfl
    refine Ev.succ ?_
    simp only [F4_l0, l34_len, ge_dec (Nat.le_refl ps.length), cond_false]
    cases b with
    | false =>
      simp only [cond_false] at f14
      refine Ev.bind (a := (0, [], [])) ?_ ?_
      · simp only [F17]
        refine Ev.bind f14 ?_
        exact Ev.pure
      refine Ev.bind f18 ?_
      simp only [Bool.not_false, cond_true, l34_len, l76_len, List.length_nil]
      refine Ev.bind (a := false) ?_ ?_
      · simp only [F19]
        refine Ev.bind f14 ?_
        exact Ev.pure
      simp only [Bool.not_false, cond_true]
      exact Ev.bind haw Ev.pure
    | true =>
      simp only [cond_true] at f14
      obtain ⟨k1, k2, k3⟩ := p2.1 rfl
      have hhead : headB w (ds.length : Int) (ps.length : Int) = false := by
        cases hh : headB w (ds.length : Int) (ps.length : Int) with
        | false => rfl
        | true => rw [hh] at k1; simp at k1
      have hds : ds.length ≤ 12 ∧ 1 ≤ ps.length ∧ ps.length ≤ 6 := by
        simp only [headB, Bool.or_eq_false_iff, decide_eq_false_iff_not] at hhead
        omega
      have f17 : Ev (fun k => F17 k w ds ps) (w, ds.map bD, ps.map bP) := by
        simp only [F17]
        refine Ev.bind f14 ?_
        simp only [bne_self_eq_false, cond_false]
        refine F17_l0_ev w (all := ds.map bD) ?_ ds ds 0 [] rfl hw.2.1.1 (by simp; omega) rfl
        have := F17_l1_ev w (ds.map bD) ps hw.2.2.2 (by omega) (by omega) ps 0 [] rfl hw.2.2.1 (by simp; omega)
        simpa using this
      refine Ev.bind f17 (Ev.bind f18 ?_)
      simp only [Bool.not_true, cond_false]
      have self := F19_same w ds ds ps ps rfl rfl hw.2.2.2 hw.2.2.2 hw.2.1.1 hw.2.2.1 f14 f14
      refine Ev.bind self ?_
      simp only [Bool.not_true, cond_false]
      have wb : w24 ⟨w, ds.map bD, ps.map bP⟩ := by
        simp only [w24, List.length_map]
        exact ⟨hw.1, ⟨hw.2.1.1, ws76_b ds hw.2.1.2⟩, hw.2.2.1, ws34_b ps hw.2.2.2⟩
      obtain ⟨c1, c2⟩ := cP_b ps
      have f14b : Ev (fun k => F14 k w (ds.map bD) (ps.map bP)) 0 :=
        F14_zero ⟨w, ds.map bD, ps.map bP⟩ wb (by simp only [List.length_map, okD_b, okP_b]; exact k1) (by simp only [c1]; exact k2) (by simp only [c2]; exact k3)
      have bdd : (ds.map bD).map bD = ds.map bD := by rw [List.map_map]; exact List.map_congr_left fun x _ => bD_bD x
      have bpp : (ps.map bP).map bP = ps.map bP := by rw [List.map_map]; exact List.map_congr_left fun x _ => bP_bP x
      have toB := F19_same w ds (ds.map bD) ps (ps.map bP) bdd.symm bpp.symm hw.2.2.2 (ws34_b ps hw.2.2.2) hw.2.1.1 hw.2.2.1 f14 f14b
      refine Ev.bind toB ?_
      simp only [Bool.not_true, cond_false]
      have f20 : Ev (fun k => F20 k w (ds.map bD) (ps.map bP)) true := by
        simp only [F20]
        refine F20_l0_ev (F20_l1_ev ps hw.2.2.2 (ps.map bP) 0 rfl (by simpa using hw.2.2.1)) ds (ds.map bD) 0 rfl (by simpa using hw.2.1.1)
      refine Ev.bind f20 ?_
      simp only [F4_j1, Bool.not_true, cond_false]
      refine Ev.some_bind (appL_small (by omega) (by simp; omega)) ?_
      obtain ⟨p0, pr, rfl⟩ : ∃ p0 pr, ps = p0 :: pr := by
        cases ps with
        | nil => simp at hds
        | cons a b => exact ⟨a, b, rfl⟩
      obtain ⟨n0, b0, a0⟩ := p0
      have hi : idx ([] ++ (⟨n0, b0, a0⟩ :: pr) : List T34) 0 = some ⟨n0, b0, a0⟩ := rfl
      refine Ev.some_bind hi ?_
      have hset : List.set ([] ++ (⟨n0, b0, a0⟩ :: pr) : List T34) (Int.toNat 0) ⟨n0, b0, at_⟩ = ⟨n0, b0, at_⟩ :: pr := rfl
      simp only [hset]
      have hw0 := hw.2.2.2.1
      simp only [w34] at hw0
      have ws' : ws34 (⟨n0, b0, at_⟩ :: pr) := ⟨by simp only [w34]; exact ⟨hw0.1, hw0.2.1, ha⟩, hw.2.2.2.2⟩
      have wset : w24 ⟨w, ds, ⟨n0, b0, at_⟩ :: pr⟩ := by
        simp only [w24]
        exact ⟨hw.1, hw.2.1, by simpa using hw.2.2.1, ws'⟩
      have f14s : Ev (fun k => F14 k w ds (⟨n0, b0, at_⟩ :: pr)) 0 :=
        F14_zero ⟨w, ds, ⟨n0, b0, at_⟩ :: pr⟩ wset (by simpa only [List.length_cons, okP] using k1) (by simpa only [cP] using k2) (by simpa only [mP] using k3)
      have e1 : (T34.mk n0 b0 at_ :: pr).map bP = ((T34.mk n0 b0 a0 :: pr).map bP).map bP := by rw [bpp]; simp only [List.map_cons, bP]
      have e2 : ws34 ((T34.mk n0 b0 a0 :: pr).map bP) := ws34_b _ hw.2.2.2
      have e3 : (T34.mk n0 b0 at_ :: pr).length ≤ maxLen := by
        have := hw.2.2.1
        rw [List.length_cons] at this ⊢
        exact this
      have last := F19_same w ds (ds.map bD) (T34.mk n0 b0 at_ :: pr) ((T34.mk n0 b0 a0 :: pr).map bP) bdd.symm e1 ws' e2 hw.2.1.1 e3 f14s f14b
      refine Ev.bind last ?_
      simp only [cond_true]
      exact Ev.bind haw Ev.pure
end Go.Vm
