/- Plain laws of the tree's functions: both ask the same of a name. -/
import Derived.Test.YtafpcogpabnjmaaPlB
set_option linter.unusedVariables false
set_option linter.unusedSimpArgs false
set_option linter.unusedSectionVars false
namespace Go.Vm

def badAt (j : Nat) (b : Int) : Bool := !isL b && (decide (j = 0) || !isD b)
def scan : Nat → List Int → Bool
  | _, [] => true
  | j, b :: r => !badAt j b && scan (j + 1) r
def nm (s : ByteArray) : Bool := scan 0 (bytesL s) && (decide ((s.size : Int) ≥ 1) && (decide ((s.size : Int) ≤ 12) && !isKey s))

theorem F38_ls (s : ByteArray) (hl : s.size ≤ maxLen) : ∀ (rest : List Int) (i : Nat), (bytesL s).drop i = rest → Ev (fun k => F38_l0 k s (i : Int)) (scan i rest && (decide ((s.size : Int) ≥ 1) && (decide ((s.size : Int) ≤ 12) && !isKey s)))
  | [], i, hd => by
    have he := drop_end hd
    rw [bytesL_length] at he
    refine Ev.succ ?_
    simp only [F38_l0, ge_dec he, cond_false, scan, Bool.true_and]
    cases h1 : decide ((s.size : Int) ≥ 1) with
    | false => simp only [cond_false, Bool.false_and]; exact Ev.pure
    | true =>
      cases h2 : decide ((s.size : Int) ≤ 12) with
      | false => simp only [cond_true, cond_false, Bool.false_and, Bool.true_and]; exact Ev.pure
      | true =>
        simp only [cond_true, Bool.true_and]
        exact Ev.bind (F79_ev s) Ev.pure
  | b :: rest, i, hd => by
    obtain ⟨h1, h2, h3⟩ := idx_drop hd
    have hb : bidx s (i : Int) = some b := by rw [bidx_eq]; exact get_drop hd
    rw [bytesL_length] at h2
    have ih := F38_ls s hl rest (i + 1) h3
    refine Ev.succ ?_
    simp only [F38_l0, lt_dec h2, cond_true, hb, Option.bind_some, F77_eq, F78_eq, scan]
    cases hL : isL b with
    | true =>
      simp only [Bool.not_true, cond_false, badAt, hL, Bool.false_and, Bool.not_false, Bool.true_and]
      refine Ev.succ ?_
      simp only [F38_j1, cond_false, wrap_nat h2 hl]
      exact ih
    | false =>
      by_cases h0 : i = 0
      · subst h0
        simp only [Bool.not_false, cond_true, badAt, hL, Bool.true_and, decide_true, Bool.true_or, Bool.not_true, Bool.false_and, show (((0 : Nat) : Int) == 0) = true from rfl]
        refine Ev.succ ?_
        simp only [F38_j1, cond_true]
        exact Ev.pure
      · have hz : ((i : Int) == 0) = false := by
          cases e : ((i : Int) == 0) with
          | false => rfl
          | true => have := eq_of_beq e; omega
        simp only [Bool.not_false, cond_true, badAt, hL, Bool.true_and, h0, decide_false, Bool.false_or, hz, cond_false, Bool.not_not]
        refine Ev.succ ?_
        cases hD : isD b with
        | true => simp only [F38_j1, Bool.not_true, cond_false, Bool.true_and, wrap_nat h2 hl]; exact ih
        | false => simp only [F38_j1, Bool.not_false, cond_true, Bool.false_and]; exact Ev.pure
theorem F38_ev (s : ByteArray) (hl : s.size ≤ maxLen) : Ev (fun k => F38 k s) (nm s) := F38_ls s hl (bytesL s) 0 rfl

def an (b : Int) : Bool := isL b || isD b
theorem F117_ls : ∀ (rest xs : List Int) (i : Nat), xs.drop i = rest → xs.length ≤ maxLen → Ev (fun k => F117_l0 k xs (i : Int)) (((i + (rest.takeWhile an).length : Nat) : Int))
  | [], xs, i, hd, hl => by
    refine Ev.succ ?_
    simp only [F117_l0, l5_len, ge_dec (drop_end hd), cond_false]
    refine Ev.succ ?_
    simp only [F117_j1, cond_false, List.takeWhile_nil, List.length_nil, Nat.add_zero]
    exact Ev.pure
  | b :: rest, xs, i, hd, hl => by
    obtain ⟨h1, h2, h3⟩ := idx_drop hd
    have ih := F117_ls rest xs (i + 1) h3 hl
    have go : an b = true → Ev (fun k => F117_j1 k xs (i : Int) true) (((i + ((b :: rest).takeWhile an).length : Nat) : Int)) := fun hb => by
      refine Ev.succ ?_
      simp only [F117_j1, cond_true, wrap_nat h2 hl]
      have : i + ((b :: rest).takeWhile an).length = i + 1 + (rest.takeWhile an).length := by simp [List.takeWhile_cons, hb]; omega
      rw [this]
      exact ih
    refine Ev.succ ?_
    simp only [F117_l0, l5_len, lt_dec h2, cond_true, h1, Option.bind_some, F116_eq, F128_eq]
    cases hL : isL b with
    | true => simp only [cond_true]; exact go (by simp [an, hL])
    | false =>
      simp only [cond_false]
      cases hD : isD b with
      | true => exact go (by simp [an, hD])
      | false =>
        refine Ev.succ ?_
        have hb : an b = false := by simp [an, hL, hD]
        simp only [F117_j1, cond_false, List.takeWhile_cons, hb, Bool.false_eq_true, if_false, List.length_nil, Nat.add_zero]
        exact Ev.pure

theorem no_byte {c : UInt8} : ∀ {l : List UInt8}, (∀ b ∈ l, b ≠ c) → Go.Lib.indexByte l c = -1
  | [], _ => rfl
  | b :: l, h => by
    have hb : (b == c) = false := by
      cases e : (b == c) with
      | false => rfl
      | true => exact absurd (eq_of_beq e) (h b (by simp))
    have ih := no_byte (c := c) (l := l) fun x hx => h x (List.mem_cons_of_mem _ hx)
    simp [Go.Lib.indexByte, hb, ih]
theorem F118_ev (s : ByteArray) (he : (s.toList == (ByteArray.mk #[]).toList) = false) (h : ∀ c ∈ s.data.toList, c ≠ 32) (hs : s.size ≤ 12) : Ev (fun k => F118 k s) (isKey s) := by
  have hi : Go.Lib.indexByte s.data.toList (32 : Int).toNat.toUInt8 = -1 := no_byte h
  have c1 : catS (ByteArray.mk #[32]) s = some (ByteArray.mk #[32] ++ s) := by
    unfold catS
    rw [if_pos (by show 1 + s.size ≤ _; omega)]
  have c2 : catS (ByteArray.mk #[32] ++ s) (ByteArray.mk #[32]) = some (ByteArray.mk #[32] ++ s ++ ByteArray.mk #[32]) := by
    unfold catS
    rw [if_pos (by rw [ByteArray.size_append]; show 1 + s.size + 1 ≤ _; omega)]
  have hd : (ByteArray.mk #[32] ++ s ++ ByteArray.mk #[32]).data.toList = 32 :: (s.data.toList ++ [32]) := by simp
  have hk : Go.Lib.contains str1.data.toList (32 :: (s.data.toList ++ [32])) = isKey s := by
    rw [contains_words _ h, key_words, isKey, List.any_map]
    congr 1
    funext w
    simp [ByteArray.toList_eq]
  refine Ev.of fun k => ?_
  simp only [F118, F146, F147, he, Bool.not_false, cond_true, hi, Option.bind_some, c1, c2, hd, hk, show (str1.size < 4294967281) = True from by simp; decide, if_true, show decide ((-1 : Int) < 0) = true from rfl]
theorem scan_an : ∀ (r : List Int) (j : Nat), scan (j + 1) r = r.all an
  | [], _ => rfl
  | b :: r, j => by
    simp only [scan, scan_an r (j + 1), List.all_cons]
    congr 1
    simp only [badAt, an, show (j + 1 = 0) = False from by simp, decide_false, Bool.false_or]
    cases isL b <;> cases isD b <;> rfl
theorem take_all {p : Int → Bool} : ∀ (l : List Int), (((l.takeWhile p).length : Nat) = l.length) ↔ l.all p = true
  | [] => by simp
  | b :: l => by
    have ih := take_all (p := p) l
    cases h : p b with
    | true => simp [List.takeWhile_cons, h, ih]
    | false => simp [List.takeWhile_cons, h]
theorem F75_ev (s : ByteArray) (hl : s.size ≤ maxLen) : Ev (fun k => F75 k s) (nm s) := by
  have hsz := bytesL_length s
  cases he : (s.toList == (ByteArray.mk #[]).toList) with
  | true =>
    have e0 := eq_of_beq he
    rw [ByteArray.toList_eq, ByteArray.toList_eq] at e0
    have : s.size = 0 := by show s.data.size = 0; rw [← Array.length_toList, e0]; rfl
    have hn : nm s = false := by simp [nm, this]
    rw [hn]
    refine Ev.of fun k => ?_
    simp only [F75, he, Bool.not_true, cond_false]
  | false =>
    have hpos : 1 ≤ s.size := by
      rcases Nat.eq_zero_or_pos s.size with g | g
      · exfalso
        have : s.data.toList = [] := List.length_eq_zero_iff.1 (by rw [Array.length_toList]; exact g)
        have : (s.toList == (ByteArray.mk #[]).toList) = true := by rw [ByteArray.toList_eq, ByteArray.toList_eq, this]; rfl
        rw [he] at this; cases this
      · exact g
    by_cases h12 : s.size ≤ 12
    · have d12 : decide ((s.size : Int) ≤ 12) = true := by simp; omega
      have d1 : decide ((s.size : Int) ≥ 1) = true := by simp; omega
      obtain ⟨b, r, hB⟩ : ∃ b r, bytesL s = b :: r := by
        cases h : bytesL s with
        | nil => rw [h] at hsz; simp at hsz; omega
        | cons b r => exact ⟨b, r, rfl⟩
      have hb0 : bidx s 0 = some b := by have := bidx_eq s 0; rw [hB] at this; exact this
      have hnm : nm s = (isL b && (r.all an && !isKey s)) := by
        simp only [nm, hB, scan, scan_an, d1, d12, Bool.true_and, badAt, decide_true, Bool.true_or, Bool.and_true, Bool.not_not, Bool.and_assoc]
      rw [hnm]
      cases hL : isL b with
      | false =>
        refine Ev.of fun k => ?_
        simp only [F75, he, Bool.not_false, cond_true, d12, hb0, Option.bind_some, F116_eq, hL, cond_false, Bool.false_and]
      | true =>
        have hp : bytesP s = some (bytesL s) := by unfold bytesP; rw [if_pos hl]
        have run := F117_ls (bytesL s) (bytesL s) 0 rfl (by omega)
        rw [Nat.zero_add] at run
        simp only [F75, he, Bool.not_false, cond_true, d12, hb0, Option.bind_some, F116_eq, hL, hp, Bool.true_and]
        refine Ev.bind run ?_
        have hall : (bytesL s).all an = r.all an := by rw [hB, List.all_cons]; simp [an, hL]
        cases ha : r.all an with
        | false =>
          have : ((((bytesL s).takeWhile an).length : Nat) : Int) ≠ (s.size : Int) := by
            intro e
            have e2 : ((bytesL s).takeWhile an).length = (bytesL s).length := by omega
            have := (take_all (p := an) (bytesL s)).1 e2
            rw [hall, ha] at this; cases this
          have hz : (((((bytesL s).takeWhile an).length : Nat) : Int) == (s.size : Int)) = false := by
            cases e : (((((bytesL s).takeWhile an).length : Nat) : Int) == (s.size : Int)) with
            | false => rfl
            | true => exact absurd (eq_of_beq e) this
          refine Ev.of fun k => ?_
          simp only [hz, cond_false, Bool.false_and]
        | true =>
          have e2 := (take_all (p := an) (bytesL s)).2 (by rw [hall, ha])
          have hz : (((((bytesL s).takeWhile an).length : Nat) : Int) == (s.size : Int)) = true := by rw [e2, hsz]; exact beq_self_eq_true _
          simp only [hz, cond_true, Bool.true_and]
          refine Ev.bind (F118_ev s he ?_ h12) Ev.pure
          intro c hc e
          subst e
          have hm : (32 : Int) ∈ bytesL s := List.mem_map.2 ⟨32, hc, rfl⟩
          have := List.all_eq_true.1 (by rw [hall, ha] : (bytesL s).all an = true) 32 hm
          revert this
          decide
    · have d12 : decide ((s.size : Int) ≤ 12) = false := by simp; omega
      have hn : nm s = false := by simp only [nm, d12, Bool.false_and, Bool.and_false]
      rw [hn]
      refine Ev.of fun k => ?_
      simp only [F75, he, Bool.not_false, cond_true, d12, cond_false]
end Go.Vm
