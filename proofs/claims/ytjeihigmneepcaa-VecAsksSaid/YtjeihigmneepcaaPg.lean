/- Words that all plain laws use. -/
import Derived.Test.YtjeihigmneepcaaWx
import Derived.IntWalk
set_option linter.unusedVariables false
set_option linter.unusedSimpArgs false
set_option linter.unusedSectionVars false
namespace Go.Vm

theorem Ev.some_bind {α β : Type} {o : Option α} {g : Nat → α → Option β} {a : α} {r : β} (h : o = some a) (k : Ev (fun n => g n a) r) : Ev (fun n => o.bind (fun x => g n x)) r := by
  subst h; exact k
theorem Ev.bif {α : Type} {c : Bool} {f g : Nat → Option α} {r : α} (ht : c = true → Ev f r) (hf : c = false → Ev g r) : Ev (fun n => bif c then f n else g n) r := by
  cases c
  · exact hf rfl
  · exact ht rfl
theorem idx_drop {α : Type} {xs : List α} {i : Nat} {x : α} {r : List α} (h : xs.drop i = x :: r) : idx xs (i : Int) = some x ∧ i < xs.length ∧ xs.drop (i + 1) = r := by
  have hl : i < xs.length := by
    rcases Nat.lt_or_ge i xs.length with g | g
    · exact g
    · rw [List.drop_eq_nil_of_le g] at h; cases h
  rw [List.drop_eq_getElem_cons hl] at h
  injection h with h1 h2
  refine ⟨?_, hl, h2⟩
  have : (0 : Int) ≤ (i : Int) := Int.natCast_nonneg i
  simp [idx, hl, h1]
theorem drop_end {α : Type} {xs : List α} {i : Nat} (h : xs.drop i = []) : xs.length ≤ i := List.drop_eq_nil_iff.1 h
theorem wrap_small {x : Int} (h0 : -1000000000 ≤ x) (h1 : x ≤ 1000000000) : IntKind.wrap .i64 x = x := by rw [IntKind.wrap_i64]; omega
theorem wrap_nat {i n : Nat} (h : i < n) (hn : n ≤ maxLen) : IntKind.wrap .i64 ((i : Int) + 1) = ((i + 1 : Nat) : Int) := by
  have : n ≤ 9223372036854775807 := hn
  rw [IntKind.wrap_i64]
  omega
theorem lt_dec {i n : Nat} (h : i < n) : decide ((i : Int) < (n : Int)) = true := by simp [h]
theorem ge_dec {i n : Nat} (h : n ≤ i) : decide ((i : Int) < (n : Int)) = false := by simp; omega
theorem appL_small {α : Type} {b : Nat} {xs ys : List α} (hb : b ≤ 1000) (h : xs.length + ys.length ≤ 1000000) : appL b xs ys = some (xs ++ ys) := by
  unfold appL
  have : (xs.length + ys.length) * b ≤ 1000000 * 1000 := Nat.mul_le_mul h hb
  rw [if_pos ⟨by omega, by omega⟩]
theorem idx_nat {α : Type} {xs : List α} {i : Int} {x : α} (h0 : 0 ≤ i) (h : xs[i.toNat]? = some x) : idx xs i = some x := by simp [idx, h0, h]
theorem getM_mem {K V : Type} {q : K → K → Bool} {xs : List (K × V)} {k : K} {v : V} (h : getM q xs k = some v) : ∃ p ∈ xs, q k p.1 = true ∧ p.2 = v := by
  unfold getM at h
  rw [Option.map_eq_some_iff] at h
  obtain ⟨p, hp, rfl⟩ := h
  exact ⟨p, List.mem_of_find?_eq_some hp, by simpa using List.find?_some hp, rfl⟩
theorem putM_mem {K V : Type} {q : K → K → Bool} {xs : List (K × V)} {k : K} {v : V} {p : K × V} (h : p ∈ putM q xs k v) : p ∈ xs ∨ p = (k, v) := by
  unfold putM at h
  split at h
  · exact List.mem_or_eq_of_mem_set h
  · simpa using h

/-- A literal turned. -/
def fl (l : Int) : Int := if l % 2 = 0 then l + 1 else l - 1
theorem xor_one {l : Int} (h0 : 0 ≤ l) (h1 : l < 1000000000) : bits .xor .i64 l 1 = fl l := by
  obtain ⟨a, rfl⟩ := Int.eq_ofNat_of_zero_le h0
  have e1 : (BitVec.ofInt 64 (a : Int)).toNat = a := by rw [BitVec.ofInt_natCast, BitVec.toNat_ofNat]; exact Nat.mod_eq_of_lt (by omega)
  have e : bits .xor .i64 (a : Int) 1 = IntKind.i64.wrap ((a ^^^ 1 : Nat) : Int) := by
    show IntKind.i64.wrap ((BitVec.ofInt 64 (a : Int) ^^^ BitVec.ofInt 64 1).toNat : Int) = _
    rw [BitVec.toNat_xor, e1]
    rfl
  have h2 : (a ^^^ 1) / 2 = a / 2 := by rw [Nat.xor_div_two]; simp
  have h3 : (a ^^^ 1) % 2 = 1 ↔ ¬ (a % 2 = 1) := by rw [Nat.xor_mod_two_eq_one]; simp
  have hfl : ((a ^^^ 1 : Nat) : Int) = fl (a : Int) := by
    unfold fl
    rcases Nat.mod_two_eq_zero_or_one a with g | g
    · have := h3.2 (by omega)
      split <;> omega
    · have : ¬ (a ^^^ 1) % 2 = 1 := fun h => h3.1 h g
      split <;> omega
  rw [e, hfl]
  have : -1 ≤ fl (a : Int) ∧ fl (a : Int) ≤ a + 1 := by unfold fl; split <;> omega
  exact wrap_small (by omega) (by omega)
theorem fl_range {l : Int} (h0 : 0 ≤ l) : 0 ≤ fl l ∧ fl l / 2 = l / 2 := by unfold fl; split <;> omega
theorem fl_fl {l : Int} (h0 : 0 ≤ l) : fl (fl l) = l := by unfold fl; split <;> split <;> omega
end Go.Vm
