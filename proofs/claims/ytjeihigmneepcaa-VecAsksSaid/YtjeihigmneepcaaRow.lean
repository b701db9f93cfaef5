/- The row of VecAsks, out of its plain law. -/
import Derived.Test.YtjeihigmneepcaaWx
import Derived.Test.YtjeihigmneepcaaRows
import Derived.WalkKit
import Derived.ProofKit
import Derived.OpenShut
import Derived.ShutString
import Derived.ChangeOld
import Derived.Below
import Derived.Carry
import Derived.SizedLaws
import Derived.HandedShaped
set_option linter.unusedVariables false
set_option linter.unusedSectionVars false
set_option maxRecDepth 100000
namespace Go.Vm
open Go.ChangeShapes Go.WideShapes Go.ChangeAt Go.RowKit
theorem Le.below {S S' : St} (hM : ∀ b, ¬ S.M b) (l : Le S S') : Below S.w.heap.size S.w S'.w :=
  ⟨l.os, l.tape, l.output, l.size, fun k hk => (l.imm k ⟨hk, hM k⟩).2⟩
def St.first (W : World) : St := { w := W, σ := [], ρ := fun _ => 0, κ := fun _ => 0, out := fun _ => False, oim := fun _ _ => False }
theorem first_M (W : World) (b : Nat) : ¬ (St.first W).M b := by
  rintro (⟨r, o, ho, _⟩ | h)
  · simp [St.first] at ho
  · exact h
theorem first_inv {W : World} : Inv (St.first W) where
  gl := ⟨trivial, fun b hb => absurd hb (Nat.not_lt_zero _)⟩
  obj r o ho := by simp [St.first] at ho
  inj r r' o o' ho := by simp [St.first] at ho
  outl b h := h.elim
  outr r o ho := by simp [St.first] at ho
theorem trod_val {H : Type} {enc : TypeId × Value → H} {P : Program} {W : World} {t : TypeId} {v : Value} {d : DataW H} {p : List MemPlace} {Ts : List TypeId} (hTs : ∀ t ∈ Ts, okT P Ts t = true) (ht : t ∈ Ts)
    (h : DataW.Trod enc P W 0 (fun _ => true) true t v d p) : TA P t (dav d) := by
  obtain ⟨fuel, hf⟩ := h
  exact trod_ta hTs fuel t ht _ _ _ hf
theorem arg_rv {H : Type} {enc : TypeId × Value → H} {P : Program} {S : St} {spare : Nat → Bool} {held : Bool} {base : Nat} {t : TypeId} {v : Value} {d : DataW H} {p : List MemPlace} {Ts : List TypeId} (hTs : ∀ t ∈ Ts, okT P Ts t = true) (ht : t ∈ Ts)
    (hM : ∀ b, ¬ S.M b) (hok : Value.okWide P S.w .any base t v) (h : DataW.Trod enc P S.w 0 spare held t v d p) : RV S v (dav d) := by
  obtain ⟨fuel, hf⟩ := h
  obtain ⟨t1, t2, t3⟩ := trod_rv hTs hM fuel t ht _ _ _ hf
  have ta := trod_ta hTs fuel t ht _ _ _ hf
  generalize dav d = x at t2 t3 ta ⊢
  cases ta with
  | bool h =>
    obtain ⟨b, rfl⟩ := okWide_bool h hok
    cases (show RVs S [.bool b] [_] from t2) with
    | cons h1 _ => exact h1
  | int h _ =>
    obtain ⟨b, rfl⟩ := okWide_int h hok
    cases (show RVs S [.int _ b] [_] from t2) with
    | cons h1 _ => exact h1
  | str h _ =>
    obtain ⟨b, rfl⟩ := okWide_string h hok
    cases (show RVs S [.string b] [_] from t2) with
    | cons h1 _ => exact h1
  | sl h _ _ =>
    obtain ⟨a, l, c, rfl⟩ := okWide_slice h hok
    cases (show RVs S [.slice a l c] [_] from t2) with
    | cons h1 _ => exact h1
  | agg h _ _ =>
    obtain ⟨cs, rfl, _⟩ := okWide_struct h hok
    have := RV.agg (S := S) (us := cs.toList) t2 t3
    rw [Array.toArray_toList] at this
    exact this
  | arr h _ _ =>
    unfold Value.okWide at hok
    rw [h] at hok
    obtain ⟨cs, rfl, _⟩ := hok
    have := RV.agg (S := S) (us := cs.toList) t2 t3
    rw [Array.toArray_toList] at this
    exact this

namespace VecAsks
theorem own : ownKnob Go.Proofs.Try.prog.godebug = none := by kernel_rfl
theorem laidOut : laidOutB Go.Proofs.Try.prog = true := by kernel_rfl
def Ts : List TypeId := lawTypes
theorem hTs : ∀ t ∈ Ts, okT Go.Proofs.Try.prog Ts t = true := by
  have h : Ts.all (okT Go.Proofs.Try.prog Ts) = true := by kernel_rfl
  exact fun t ht => List.all_eq_true.1 h t ht
theorem walked (plain : ∀ (y0 : T24) (y1 : Int) (y2 : Bool), w24 y0 → w5 y1 → w4 y2 → ∃ k, F3 k y0.f0 y0.f1 y0.f2 y1 y2 = some true) {H : Type} {enc : TypeId × Value → H} {W : World} {base : Nat} (hsh : W.ShapedOpen Go.Proofs.Try.prog) {v0 : Value} {d0 : DataW H} {p0 : List MemPlace} {v1 : Value} {d1 : DataW H} {p1 : List MemPlace} {v2 : Value} {d2 : DataW H} {p2 : List MemPlace}
    (hval0 : Value.okWide Go.Proofs.Try.prog W .any base 25 v0) (h0 : DataW.Trod enc Go.Proofs.Try.prog W 0 (fun _ => true) true 25 v0 d0 p0) (hval1 : Value.okWide Go.Proofs.Try.prog W .any base 5 v1) (h1 : DataW.Trod enc Go.Proofs.Try.prog W 0 (fun _ => true) true 5 v1 d1 p1) (hval2 : Value.okWide Go.Proofs.Try.prog W .any base 4 v2) (h2 : DataW.Trod enc Go.Proofs.Try.prog W 0 (fun _ => true) true 4 v2 d2 p2) :
    Calls Go.Proofs.Try.prog 3 #[v0, v1, v2] W fun e W' => e = .returned (.bool true) ∧ Below W.heap.size W W' := by
  have hr0 := arg_rv (S := St.first W) hTs (t := 25) (by decide) (first_M W) hval0 h0
  have ht0 := trod_val hTs (t := 25) (by decide) h0
  obtain ⟨y0, hy0, hw0⟩ := of25 _ _ (Nat.lt_succ_self _) ht0
  have hr1 := arg_rv (S := St.first W) hTs (t := 5) (by decide) (first_M W) hval1 h1
  have ht1 := trod_val hTs (t := 5) (by decide) h1
  obtain ⟨y1, hy1, hw1⟩ := of5 _ _ (Nat.lt_succ_self _) ht1
  have hr2 := arg_rv (S := St.first W) hTs (t := 4) (by decide) (first_M W) hval2 h2
  have ht2 := trod_val hTs (t := 4) (by decide) h2
  obtain ⟨y2, hy2, hw2⟩ := of4 _ _ (Nat.lt_succ_self _) ht2
  obtain ⟨k, hk⟩ := plain y0 y1 y2 hw0 hw1 hw2
  obtain ⟨z1, z2, z3⟩ := y0
  rw [hy0] at hr0
  obtain ⟨z4, rfl⟩ : ∃ z, z = y1 := ⟨y1, rfl⟩
  rw [hy1] at hr1
  obtain ⟨z5, rfl⟩ : ∃ z, z = y2 := ⟨y2, rfl⟩
  rw [hy2] at hr2
  refine Calls.mono (F3_ok k z1 z2 z3 z4 z5 true hk (St.first W) rfl first_inv [v0, v1, v2] (.cons hr0 (.cons hr1 (.cons hr2 .nil)))) fun e W' hq => ?_
  obtain ⟨v, S', rfl, rfl, _, _, hle, hv⟩ := hq
  cases hv
  exact ⟨rfl, hle.below (first_M W)⟩
theorem lifted (plain : ∀ (y0 : T24) (y1 : Int) (y2 : Bool), w24 y0 → w5 y1 → w4 y2 → ∃ k, F3 k y0.f0 y0.f1 y0.f2 y1 y2 = some true) (os : Os) (started : os.Started) (H : Type) (enc : TypeId × Value → H) :
    ReturnsInHanded {} Go.Proofs.Try.checked os 3 .any (Go.Proofs.Ytjeihigmneepcaa.Rows.vecAsksSpec.pre6 enc Go.Proofs.Try.prog Go.Proofs.Try.f3 Go.Proofs.Ytjeihigmneepcaa.Rows.vecAsksRow.domain false) (Go.Proofs.Ytjeihigmneepcaa.Rows.vecAsksSpec.post enc Go.Proofs.Try.prog Go.Proofs.Try.f3 false true false false) := by
  refine returnsInHanded_of_change_shaped (C := Go.Proofs.Try.checked) own started (by kernel_rfl) Go.Proofs.Try.func3
    (ChangeSpec.witness6 (enc := enc) (C := Go.Proofs.Try.checked) false ⟨#[], #[.agg #[.int .u16 0, .int .u16 0, .int .u32 0], .int .u8 0, .bool false], []⟩ 8 (by kernel_rfl) (by kernel_rfl) (by kernel_rfl) (by kernel_rfl)) ?_
  intro W base args ds gs before hval0 hW hcnd hsz0 hsh _
  have hval : ∀ (j : Nat) t v, Go.Proofs.Try.f3.params[j]? = some t → args[j]? = some v → Value.okWide Go.Proofs.Try.prog W .any base t v := hval0
  have hW' := hW
  obtain ⟨p, q, hA0, hV, rfl, hfz, hnd⟩ := hW
  have hA : DataW.TrodAll enc Go.Proofs.Try.prog W 0 (fun _ => true) true Go.Proofs.Try.f3.params.toList args.toList ds p := hA0
  rw [Go.Proofs.Try.params3] at hA hval
  obtain ⟨v0, vs0, d0, ds0, p0, q0, hargs0, rfl, rfl, h0, r0⟩ := trodAll_cons hA
  obtain ⟨v1, vs1, d1, ds1, p1, q1, hargs1, rfl, rfl, h1, r1⟩ := trodAll_cons r0
  obtain ⟨v2, vs2, d2, ds2, p2, q2, hargs2, rfl, rfl, h2, r2⟩ := trodAll_cons r1
  obtain ⟨rfl, rfl, rfl⟩ := trodAll_nil r2
  obtain rfl : args = #[v0, v1, v2] := by cases args; simp_all
  obtain ⟨rfl, rfl⟩ := trodVars_none hV
  have k0 := h0
  have lt0 : ∀ x ∈ p0, x.block < W.heap.size := by obtain ⟨m, hm⟩ := k0; exact DataW.trod_lt m _ _ _ hm
  have k1 := h1
  have lt1 : ∀ x ∈ p1, x.block < W.heap.size := by obtain ⟨m, hm⟩ := k1; exact DataW.trod_lt m _ _ _ hm
  have k2 := h2
  have lt2 : ∀ x ∈ p2, x.block < W.heap.size := by obtain ⟨m, hm⟩ := k2; exact DataW.trod_lt m _ _ _ hm
  refine (walked plain hsh (hval 0 25 v0 rfl rfl) h0 (hval 1 5 v1 rfl rfl) h1 (hval 2 4 v2 rfl rfl) h2).mono fun e W' ⟨he, bel⟩ => ?_
  subst he
  exact ⟨_, rfl, _, _, _, [], _, [], hW', trodAll_mk1 (shut_bool Go.Proofs.Try.underlying4 _), (trodAll_cons_mk (Below.trod laidOut (by kernel_rfl) (of_decide_eq_true (by kernel_rfl)) k0 bel lt0) (trodAll_cons_mk (Below.trod laidOut (by kernel_rfl) (of_decide_eq_true (by kernel_rfl)) k1 bel lt1) (trodAll_cons_mk (Below.trod laidOut (by kernel_rfl) (of_decide_eq_true (by kernel_rfl)) k2 bel lt2) trodAll_mk0))), rfl, bel.frame _, fun h => by cases h⟩
theorem over (plain : ∀ (y0 : T24) (y1 : Int) (y2 : Bool), w24 y0 → w5 y1 → w4 y2 → ∃ k, F3 k y0.f0 y0.f1 y0.f2 y1 y2 = some true) : Go.Proofs.Ytjeihigmneepcaa.Rows.vecAsksRow.holds Go.Proofs.Ytjeihigmneepcaa.Try.pinned (Go.OpenSpec.ofChange Go.Proofs.Ytjeihigmneepcaa.Rows.vecAsksSpec) :=
  OpenClaim.holds_of_wide 3 Go.Proofs.Try.f3 rfl rfl rfl rfl rfl rfl rfl ⟨rfl, rfl, rfl, rfl, rfl⟩ rfl rfl rfl rfl rfl (by kernel_rfl) Go.Proofs.Try.func3 (by kernel_rfl)
    (of_decide_eq_true (by kernel_rfl)) (by unfold Func.isWrapper; first | (rw [if_pos (by decide +kernel)]; kernel_rfl) | (rw [if_neg (by decide +kernel)]; exact ⟨rfl, rfl⟩))
    (fun os started H enc _ => lifted plain os started H enc)
theorem said (plain : ∀ (y0 : T24) (y1 : Int) (y2 : Bool), w24 y0 → w5 y1 → w4 y2 → ∃ k, F3 k y0.f0 y0.f1 y0.f2 y1 y2 = some true) : Go.Proofs.Ytjeihigmneepcaa.Rows.VecAsksSaid := over plain
end VecAsks
end Go.Vm
