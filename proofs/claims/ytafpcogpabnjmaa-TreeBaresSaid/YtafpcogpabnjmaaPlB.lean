/- Plain laws of the tree's functions: names. -/
import Derived.Test.YtafpcogpabnjmaaPlA
set_option linter.unusedVariables false
set_option linter.unusedSimpArgs false
set_option linter.unusedSectionVars false
namespace Go.Vm

def isL (v : Int) : Bool := decide (v ≥ 97) && decide (v ≤ 122)
def isD (v : Int) : Bool := decide (v ≥ 48) && decide (v ≤ 57)
theorem F116_eq (k : Nat) (v : Int) : F116 k v = some (isL v) := by
  unfold F116 isL; by_cases h : v ≥ 97 <;> simp [h]
theorem F77_eq (k : Nat) (v : Int) : F77 k v = some (isL v) := by
  unfold F77 isL; by_cases h : v ≥ 97 <;> simp [h]
theorem F128_eq (k : Nat) (v : Int) : F128 k v = some (isD v) := by
  unfold F128 isD; by_cases h : v ≥ 48 <;> simp [h]
theorem F78_eq (k : Nat) (v : Int) : F78 k v = some (isD v) := by
  unfold F78 isD; by_cases h : v ≥ 48 <;> simp [h]
theorem bytesL_length (s : ByteArray) : (bytesL s).length = s.size := by simp only [bytesL, List.length_map]; rfl
theorem bidx_eq (s : ByteArray) (i : Nat) : bidx s (i : Int) = (bytesL s)[i]? := by
  unfold bidx sbyte
  have hs := bytesL_length s
  by_cases h : i < s.size
  · have h2 : (0 : Int) ≤ i ∧ (i : Int) < s.size := by omega
    rw [if_pos h2]
    simp only [Int.toNat_natCast, h, dite_true]
    rw [List.getElem?_eq_getElem (by omega)]
    simp only [bytesL, List.getElem_map, Array.getElem_toList]
    rfl
  · have h2 : ¬ ((0 : Int) ≤ i ∧ (i : Int) < s.size) := by omega
    rw [if_neg h2, List.getElem?_eq_none (by omega)]
theorem get_drop {α : Type} {xs : List α} {i : Nat} {x : α} {r : List α} (h : xs.drop i = x :: r) : xs[i]? = some x := by
  have := (idx_drop h).1
  simpa [idx] using this

/-! ### key words -/
def words : List UInt8 → List (List UInt8)
  | [] => []
  | b :: l => if b = 32 ∧ 32 ∈ l then l.takeWhile (· != 32) :: words l else words l
theorem prefix_word : ∀ (s l : List UInt8), (∀ c ∈ s, c ≠ 32) → ((s ++ [32]).isPrefixOf l = true ↔ (32 ∈ l ∧ s = l.takeWhile (· != 32)))
  | [], [], h => by simp
  | [], b :: l, h => by
    by_cases e : b = 32
    · subst e; simp
    · have : ¬ ((32 : UInt8) = b) := fun g => e g.symm
      simp [List.isPrefixOf, e, this]
  | c :: s, [], h => by simp
  | c :: s, b :: l, h => by
    have hc := h c (by simp)
    have ih := prefix_word s l fun x hx => h x (by simp [hx])
    by_cases e : b = 32
    · subst e; simp [List.isPrefixOf, hc]
    · have : ¬ ((32 : UInt8) = b) := fun g => e g.symm
      simp only [List.cons_append, List.isPrefixOf, Bool.and_eq_true, beq_iff_eq, ih, List.mem_cons, this, false_or, List.takeWhile_cons, bne_iff_ne, ne_eq, e, not_false_eq_true, if_true, List.cons.injEq]
      constructor
      · rintro ⟨a, b, c⟩; exact ⟨b, a, c⟩
      · rintro ⟨a, b, c⟩; exact ⟨b, a, c⟩
theorem contains_cons (b : UInt8) (l sub : List UInt8) : Go.Lib.contains (b :: l) sub = (sub.isPrefixOf (b :: l) || Go.Lib.contains l sub) := by
  have hg := Go.Lib.index_ge l sub
  unfold Go.Lib.contains
  rw [Go.Lib.index]
  by_cases h : sub.isPrefixOf (b :: l) = true
  · simp [h]
  · simp only [h, Bool.false_eq_true, if_false, Bool.false_or]
    by_cases e : Go.Lib.index l sub = -1
    · simp [e]
    · have : (Go.Lib.index l sub == -1) = false := by simpa using e
      rw [this]
      simp only [Bool.false_eq_true, if_false]
      have h1 : 0 ≤ Go.Lib.index l sub := by omega
      have h2 : 0 ≤ Go.Lib.index l sub + 1 := by omega
      simp [h1, h2]
theorem contains_words (s : List UInt8) (h : ∀ c ∈ s, c ≠ 32) : ∀ K : List UInt8, Go.Lib.contains K (32 :: (s ++ [32])) = (words K).any (fun w => w == s)
  | [] => by simp [Go.Lib.contains, Go.Lib.index, words]
  | b :: l => by
    rw [contains_cons, contains_words s h l]
    have hp := prefix_word s l h
    have hw : words (b :: l) = if b = 32 ∧ 32 ∈ l then l.takeWhile (· != 32) :: words l else words l := rfl
    have hq : (32 :: (s ++ [32])).isPrefixOf (b :: l) = ((32 == b) && (s ++ [32]).isPrefixOf l) := rfl
    rw [hw, hq]
    by_cases hb : b = 32
    · subst hb
      have h1 : ((32 : UInt8) == 32) = true := by decide
      rw [h1, Bool.true_and]
      by_cases hl : (32 : UInt8) ∈ l
      · rw [if_pos ⟨rfl, hl⟩, List.any_cons]
        congr 1
        rw [Bool.eq_iff_iff, hp]
        constructor
        · rintro ⟨_, e⟩; rw [← e]; exact beq_self_eq_true s
        · intro e; exact ⟨hl, (eq_of_beq e).symm⟩
      · have : ((s ++ [32]).isPrefixOf l) = false := by
          cases e : (s ++ [32]).isPrefixOf l with
          | false => rfl
          | true => exact absurd (hp.1 e).1 hl
        rw [if_neg (fun g => hl g.2), this, Bool.false_or]
    · have : ((32 : UInt8) == b) = false := by
        cases e : ((32 : UInt8) == b) with
        | false => rfl
        | true => exact absurd (eq_of_beq e).symm hb
      rw [if_neg (fun g => hb g.1), this, Bool.false_and, Bool.false_or]
def keyL : List ByteArray := (F121 0).getD []
theorem key_words : words str1.data.toList = keyL.map (·.data.toList) := by kernel_rfl
def isKey (s : ByteArray) : Bool := keyL.any fun w => w.toList == s.toList

theorem F79_ls (s : ByteArray) : ∀ (rest xs : List ByteArray) (i : Nat), xs.drop i = rest → xs.length ≤ maxLen → Ev (fun k => F79_l0 k s xs (i : Int)) (rest.any fun w => w.toList == s.toList)
  | [], xs, i, hd, hl => by
    refine Ev.succ ?_
    simp only [F79_l0, l9_len, ge_dec (drop_end hd), cond_false]
    exact Ev.pure
  | w :: rest, xs, i, hd, hl => by
    obtain ⟨h1, h2, h3⟩ := idx_drop hd
    have ih := F79_ls s rest xs (i + 1) h3 hl
    refine Ev.succ ?_
    simp only [F79_l0, l9_len, lt_dec h2, cond_true, h1, Option.bind_some, wrap_nat h2 hl, List.any_cons]
    cases hw : (w.toList == s.toList) with
    | true => simp only [cond_true, Bool.true_or]; exact Ev.pure
    | false => simp only [cond_false, Bool.false_or]; exact ih
theorem F79_ev (s : ByteArray) : Ev (fun k => F79 k s) (isKey s) := by
  have := F79_ls s keyL keyL 0 rfl (by decide)
  simp only [F79]
  exact Ev.some_bind (g := fun k x => F79_l0 k s x 0) rfl this
end Go.Vm
