/- Printed by gen.py: the functions of the program as Lean functions, and that they do what these say. -/
import Derived.Test.YtafpcogpabnjmaaVt
import Derived.Test.YtafpcogpabnjmaaShelf
import Derived.Test.YtafpcogpabnjmaaChecked
set_option linter.unusedVariables false
set_option linter.unusedSimpArgs false
set_option linter.unusedSectionVars false
set_option maxRecDepth 20000
namespace Go.Vm
instance glob : Glob where
  low := 1
  ok w := ∃ m, w.cell? ⟨0, 0, none⟩ = some (.int .i64 m)
  keep w w' h := fun ⟨m, hm⟩ => ⟨m, by rw [← hm]; exact World.cell?_of_block (h 0 (by decide))⟩
noncomputable abbrev prog : Program := Go.Proofs.Try.prog
noncomputable def tab : TypeId → Option TI := tabOf prog
theorem hT : TabOk prog tab := tabOf_ok prog
theorem hmix : prog.follows .mixedOrders = true := Go.Proofs.Try.checked.mixed
structure T76 where
  f0 : Int
  f1 : ByteArray
  f2 : Int
  f3 : Int

def e76 : T76 → AV
  | ⟨x0, x1, x2, x3⟩ => .agg ([(aI x0), (.str x1), (aI x2), (aI x3)])
def l76 : List T76 → List AV
  | [] => []
  | x :: xs => e76 x :: l76 xs

@[simp] theorem low_e76 (n : Nat) (x : T76) : (e76 x).low n = true := by
  obtain ⟨x0, x1, x2, x3⟩ := x
  simp [AV.low, AV.lows, e76, lows_append]
@[simp] theorem low_l76 (n : Nat) : ∀ xs : List T76, AV.lows n (l76 xs) = true
  | [] => rfl
  | x :: xs => by simp [AV.lows, l76, low_e76 n x, low_l76 n xs]

@[simp] theorem lows_e76 (n : Nat) (x : T76) : AV.lows n (e76 x).cells = true := lows_cells (low_e76 n x)

@[simp] theorem rens_l76 (g : Nat → Nat) (xs : List T76) : AV.rens g (l76 xs) = l76 xs := rens_low0 (low_l76 0 xs)

theorem l76_map : ∀ xs : List T76, l76 xs = xs.map e76
  | [] => rfl
  | x :: xs => by simp [l76, l76_map xs]

theorem l76_len (xs : List T76) : (l76 xs).length = xs.length := by simp [l76_map]

@[simp] theorem mren_l76 (g : Nat → Nat) (xs : List T76) : (l76 xs).map (AV.ren g) = l76 xs := by rw [← rens_map, rens_l76]

theorem e76_k (x : T76) : (e76 x).cells.length = 4 := by obtain ⟨x0, x1, x2, x3⟩ := x; simp [e76, AV.cells]

theorem e76_one (x : T76) : ∀ z ∈ (e76 x).cells, z.one = true := by obtain ⟨x0, x1, x2, x3⟩ := x; intro z hz; simp [e76, AV.cells] at hz; rcases hz with rfl | rfl | rfl | rfl <;> rfl

theorem i76 {xs : List T76} {i : Int} {x : T76} (h : idx xs i = some x) : 0 ≤ i ∧ (l76 xs)[i.toNat]? = some (e76 x) := by rw [l76_map]; exact idx_enc h

structure T57 where
  f0 : Int
  f1 : ByteArray
  f2 : Int
  f3 : ByteArray
  f4 : (List T57)
  f5 : Int

mutual
def e57 : T57 → AV
  | ⟨x0, x1, x2, x3, x4, x5⟩ => .agg ([(aI x0), (.str x1), (aI x2), (.str x3), (.sl (l57 x4)), (aI x5)])
def l57 : List T57 → List AV
  | [] => []
  | x :: xs => e57 x :: l57 xs
end

mutual
@[simp] theorem low_e57 (n : Nat) : ∀ x : T57, (e57 x).low n = true
  | ⟨x0, x1, x2, x3, x4, x5⟩ => by simp [AV.low, AV.lows, e57, low_l57 n, lows_append]
@[simp] theorem low_l57 (n : Nat) : ∀ xs : List T57, AV.lows n (l57 xs) = true
  | [] => rfl
  | x :: xs => by simp [AV.lows, l57, low_e57 n x, low_l57 n xs]
end

@[simp] theorem lows_e57 (n : Nat) (x : T57) : AV.lows n (e57 x).cells = true := lows_cells (low_e57 n x)

@[simp] theorem rens_l57 (g : Nat → Nat) (xs : List T57) : AV.rens g (l57 xs) = l57 xs := rens_low0 (low_l57 0 xs)

theorem l57_map : ∀ xs : List T57, l57 xs = xs.map e57
  | [] => rfl
  | x :: xs => by simp [l57, l57_map xs]

theorem l57_len (xs : List T57) : (l57 xs).length = xs.length := by simp [l57_map]

@[simp] theorem mren_l57 (g : Nat → Nat) (xs : List T57) : (l57 xs).map (AV.ren g) = l57 xs := by rw [← rens_map, rens_l57]

theorem e57_k (x : T57) : (e57 x).cells.length = 6 := by obtain ⟨x0, x1, x2, x3, x4, x5⟩ := x; simp [e57, AV.cells]

theorem e57_one (x : T57) : ∀ z ∈ (e57 x).cells, z.one = true := by obtain ⟨x0, x1, x2, x3, x4, x5⟩ := x; intro z hz; simp [e57, AV.cells] at hz; rcases hz with rfl | rfl | rfl | rfl | rfl | rfl <;> rfl

theorem i57 {xs : List T57} {i : Int} {x : T57} (h : idx xs i = some x) : 0 ≤ i ∧ (l57 xs)[i.toNat]? = some (e57 x) := by rw [l57_map]; exact idx_enc h

structure T69 where
  f0 : Int
  f1 : ByteArray
  f2 : ByteArray
  f3 : (List T57)
  f4 : (List T69)
  f5 : (List T69)
  f6 : Int

mutual
def e69 : T69 → AV
  | ⟨x0, x1, x2, x3, x4, x5, x6⟩ => .agg ([(aI x0), (.str x1), (.str x2), (.sl (l57 x3)), (.sl (l69 x4)), (.sl (l69 x5)), (aI x6)])
def l69 : List T69 → List AV
  | [] => []
  | x :: xs => e69 x :: l69 xs
end

mutual
@[simp] theorem low_e69 (n : Nat) : ∀ x : T69, (e69 x).low n = true
  | ⟨x0, x1, x2, x3, x4, x5, x6⟩ => by simp [AV.low, AV.lows, e69, low_l69 n, low_l57, lows_append]
@[simp] theorem low_l69 (n : Nat) : ∀ xs : List T69, AV.lows n (l69 xs) = true
  | [] => rfl
  | x :: xs => by simp [AV.lows, l69, low_e69 n x, low_l69 n xs]
end

@[simp] theorem lows_e69 (n : Nat) (x : T69) : AV.lows n (e69 x).cells = true := lows_cells (low_e69 n x)

@[simp] theorem rens_l69 (g : Nat → Nat) (xs : List T69) : AV.rens g (l69 xs) = l69 xs := rens_low0 (low_l69 0 xs)

theorem l69_map : ∀ xs : List T69, l69 xs = xs.map e69
  | [] => rfl
  | x :: xs => by simp [l69, l69_map xs]

theorem l69_len (xs : List T69) : (l69 xs).length = xs.length := by simp [l69_map]

@[simp] theorem mren_l69 (g : Nat → Nat) (xs : List T69) : (l69 xs).map (AV.ren g) = l69 xs := by rw [← rens_map, rens_l69]

theorem e69_k (x : T69) : (e69 x).cells.length = 7 := by obtain ⟨x0, x1, x2, x3, x4, x5, x6⟩ := x; simp [e69, AV.cells]

theorem e69_one (x : T69) : ∀ z ∈ (e69 x).cells, z.one = true := by obtain ⟨x0, x1, x2, x3, x4, x5, x6⟩ := x; intro z hz; simp [e69, AV.cells] at hz; rcases hz with rfl | rfl | rfl | rfl | rfl | rfl | rfl <;> rfl

theorem i69 {xs : List T69} {i : Int} {x : T69} (h : idx xs i = some x) : 0 ≤ i ∧ (l69 xs)[i.toNat]? = some (e69 x) := by rw [l69_map]; exact idx_enc h

structure T34 where
  f0 : ByteArray
  f1 : (List T69)
  f2 : Int

def e34 : T34 → AV
  | ⟨x0, x1, x2⟩ => .agg ([(.str x0), (.sl (l69 x1)), (aI x2)])
def l34 : List T34 → List AV
  | [] => []
  | x :: xs => e34 x :: l34 xs

@[simp] theorem low_e34 (n : Nat) (x : T34) : (e34 x).low n = true := by
  obtain ⟨x0, x1, x2⟩ := x
  simp [AV.low, AV.lows, e34, lows_append, low_l69]
@[simp] theorem low_l34 (n : Nat) : ∀ xs : List T34, AV.lows n (l34 xs) = true
  | [] => rfl
  | x :: xs => by simp [AV.lows, l34, low_e34 n x, low_l34 n xs]

@[simp] theorem lows_e34 (n : Nat) (x : T34) : AV.lows n (e34 x).cells = true := lows_cells (low_e34 n x)

@[simp] theorem rens_l34 (g : Nat → Nat) (xs : List T34) : AV.rens g (l34 xs) = l34 xs := rens_low0 (low_l34 0 xs)

theorem l34_map : ∀ xs : List T34, l34 xs = xs.map e34
  | [] => rfl
  | x :: xs => by simp [l34, l34_map xs]

theorem l34_len (xs : List T34) : (l34 xs).length = xs.length := by simp [l34_map]

@[simp] theorem mren_l34 (g : Nat → Nat) (xs : List T34) : (l34 xs).map (AV.ren g) = l34 xs := by rw [← rens_map, rens_l34]

theorem e34_k (x : T34) : (e34 x).cells.length = 3 := by obtain ⟨x0, x1, x2⟩ := x; simp [e34, AV.cells]

theorem e34_one (x : T34) : ∀ z ∈ (e34 x).cells, z.one = true := by obtain ⟨x0, x1, x2⟩ := x; intro z hz; simp [e34, AV.cells] at hz; rcases hz with rfl | rfl | rfl <;> rfl

theorem i34 {xs : List T34} {i : Int} {x : T34} (h : idx xs i = some x) : 0 ≤ i ∧ (l34 xs)[i.toNat]? = some (e34 x) := by rw [l34_map]; exact idx_enc h

structure T24 where
  f0 : Int
  f1 : (List T76)
  f2 : (List T34)

def e24 : T24 → AV
  | ⟨x0, x1, x2⟩ => .agg ([(aI x0), (.sl (l76 x1)), (.sl (l34 x2))])
def l24 : List T24 → List AV
  | [] => []
  | x :: xs => e24 x :: l24 xs

@[simp] theorem low_e24 (n : Nat) (x : T24) : (e24 x).low n = true := by
  obtain ⟨x0, x1, x2⟩ := x
  simp [AV.low, AV.lows, e24, lows_append, low_l34, low_l76]
@[simp] theorem low_l24 (n : Nat) : ∀ xs : List T24, AV.lows n (l24 xs) = true
  | [] => rfl
  | x :: xs => by simp [AV.lows, l24, low_e24 n x, low_l24 n xs]

@[simp] theorem lows_e24 (n : Nat) (x : T24) : AV.lows n (e24 x).cells = true := lows_cells (low_e24 n x)

@[simp] theorem rens_l24 (g : Nat → Nat) (xs : List T24) : AV.rens g (l24 xs) = l24 xs := rens_low0 (low_l24 0 xs)

theorem l24_map : ∀ xs : List T24, l24 xs = xs.map e24
  | [] => rfl
  | x :: xs => by simp [l24, l24_map xs]

theorem l24_len (xs : List T24) : (l24 xs).length = xs.length := by simp [l24_map]

@[simp] theorem mren_l24 (g : Nat → Nat) (xs : List T24) : (l24 xs).map (AV.ren g) = l24 xs := by rw [← rens_map, rens_l24]

theorem e24_k (x : T24) : (e24 x).cells.length = 3 := by obtain ⟨x0, x1, x2⟩ := x; simp [e24, AV.cells]

theorem e24_one (x : T24) : ∀ z ∈ (e24 x).cells, z.one = true := by obtain ⟨x0, x1, x2⟩ := x; intro z hz; simp [e24, AV.cells] at hz; rcases hz with rfl | rfl | rfl <;> rfl

theorem i24 {xs : List T24} {i : Int} {x : T24} (h : idx xs i = some x) : 0 ≤ i ∧ (l24 xs)[i.toNat]? = some (e24 x) := by rw [l24_map]; exact idx_enc h

def e2 (x : Int) : AV := (aI x)
def l2 : List Int → List AV
  | [] => []
  | x :: xs => e2 x :: l2 xs

@[simp] theorem low_e2 (n : Nat) (x : Int) : (e2 x).low n = true := by simp [AV.low, e2]
@[simp] theorem low_l2 (n : Nat) : ∀ xs : List Int, AV.lows n (l2 xs) = true
  | [] => rfl
  | x :: xs => by simp [AV.lows, l2, low_e2 n x, low_l2 n xs]

@[simp] theorem rens_l2 (g : Nat → Nat) (xs : List Int) : AV.rens g (l2 xs) = l2 xs := rens_low0 (low_l2 0 xs)

theorem l2_map : ∀ xs : List Int, l2 xs = xs.map e2
  | [] => rfl
  | x :: xs => by simp [l2, l2_map xs]

theorem l2_len (xs : List Int) : (l2 xs).length = xs.length := by simp [l2_map]

@[simp] theorem mren_l2 (g : Nat → Nat) (xs : List Int) : (l2 xs).map (AV.ren g) = l2 xs := by rw [← rens_map, rens_l2]

theorem e2_k (x : Int) : (e2 x).cells.length = 1 := by simp [e2, AV.cells]

theorem e2_one (x : Int) : ∀ z ∈ (e2 x).cells, z.one = true := by intro z hz; simp [e2, AV.cells] at hz; subst hz; rfl

theorem i2 {xs : List Int} {i : Int} {x : Int} (h : idx xs i = some x) : 0 ≤ i ∧ (l2 xs)[i.toNat]? = some (e2 x) := by rw [l2_map]; exact idx_enc h

def e5 (x : Int) : AV := (.int .u8 x)
def l5 : List Int → List AV
  | [] => []
  | x :: xs => e5 x :: l5 xs

@[simp] theorem low_e5 (n : Nat) (x : Int) : (e5 x).low n = true := by simp [AV.low, e5]
@[simp] theorem low_l5 (n : Nat) : ∀ xs : List Int, AV.lows n (l5 xs) = true
  | [] => rfl
  | x :: xs => by simp [AV.lows, l5, low_e5 n x, low_l5 n xs]

@[simp] theorem rens_l5 (g : Nat → Nat) (xs : List Int) : AV.rens g (l5 xs) = l5 xs := rens_low0 (low_l5 0 xs)

theorem l5_map : ∀ xs : List Int, l5 xs = xs.map e5
  | [] => rfl
  | x :: xs => by simp [l5, l5_map xs]

theorem l5_len (xs : List Int) : (l5 xs).length = xs.length := by simp [l5_map]

@[simp] theorem mren_l5 (g : Nat → Nat) (xs : List Int) : (l5 xs).map (AV.ren g) = l5 xs := by rw [← rens_map, rens_l5]

theorem e5_k (x : Int) : (e5 x).cells.length = 1 := by simp [e5, AV.cells]

theorem e5_one (x : Int) : ∀ z ∈ (e5 x).cells, z.one = true := by intro z hz; simp [e5, AV.cells] at hz; subst hz; rfl

theorem i5 {xs : List Int} {i : Int} {x : Int} (h : idx xs i = some x) : 0 ≤ i ∧ (l5 xs)[i.toNat]? = some (e5 x) := by rw [l5_map]; exact idx_enc h

structure T119 where
  f0 : Int
  f1 : Int
  f2 : Int
  f3 : Int
  f4 : Int

def e119 : T119 → AV
  | ⟨x0, x1, x2, x3, x4⟩ => .agg ([(aI x0), (aI x1), (aI x2), (aI x3), (aI x4)])
def l119 : List T119 → List AV
  | [] => []
  | x :: xs => e119 x :: l119 xs

@[simp] theorem low_e119 (n : Nat) (x : T119) : (e119 x).low n = true := by
  obtain ⟨x0, x1, x2, x3, x4⟩ := x
  simp [AV.low, AV.lows, e119, lows_append]
@[simp] theorem low_l119 (n : Nat) : ∀ xs : List T119, AV.lows n (l119 xs) = true
  | [] => rfl
  | x :: xs => by simp [AV.lows, l119, low_e119 n x, low_l119 n xs]

@[simp] theorem lows_e119 (n : Nat) (x : T119) : AV.lows n (e119 x).cells = true := lows_cells (low_e119 n x)

@[simp] theorem rens_l119 (g : Nat → Nat) (xs : List T119) : AV.rens g (l119 xs) = l119 xs := rens_low0 (low_l119 0 xs)

theorem l119_map : ∀ xs : List T119, l119 xs = xs.map e119
  | [] => rfl
  | x :: xs => by simp [l119, l119_map xs]

theorem l119_len (xs : List T119) : (l119 xs).length = xs.length := by simp [l119_map]

@[simp] theorem mren_l119 (g : Nat → Nat) (xs : List T119) : (l119 xs).map (AV.ren g) = l119 xs := by rw [← rens_map, rens_l119]

theorem e119_k (x : T119) : (e119 x).cells.length = 5 := by obtain ⟨x0, x1, x2, x3, x4⟩ := x; simp [e119, AV.cells]

theorem e119_one (x : T119) : ∀ z ∈ (e119 x).cells, z.one = true := by obtain ⟨x0, x1, x2, x3, x4⟩ := x; intro z hz; simp [e119, AV.cells] at hz; rcases hz with rfl | rfl | rfl | rfl | rfl <;> rfl

theorem i119 {xs : List T119} {i : Int} {x : T119} (h : idx xs i = some x) : 0 ≤ i ∧ (l119 xs)[i.toNat]? = some (e119 x) := by rw [l119_map]; exact idx_enc h

def e9 (x : ByteArray) : AV := (.str x)
def l9 : List ByteArray → List AV
  | [] => []
  | x :: xs => e9 x :: l9 xs

@[simp] theorem low_e9 (n : Nat) (x : ByteArray) : (e9 x).low n = true := by simp [AV.low, e9]
@[simp] theorem low_l9 (n : Nat) : ∀ xs : List ByteArray, AV.lows n (l9 xs) = true
  | [] => rfl
  | x :: xs => by simp [AV.lows, l9, low_e9 n x, low_l9 n xs]

@[simp] theorem rens_l9 (g : Nat → Nat) (xs : List ByteArray) : AV.rens g (l9 xs) = l9 xs := rens_low0 (low_l9 0 xs)

theorem l9_map : ∀ xs : List ByteArray, l9 xs = xs.map e9
  | [] => rfl
  | x :: xs => by simp [l9, l9_map xs]

theorem l9_len (xs : List ByteArray) : (l9 xs).length = xs.length := by simp [l9_map]

@[simp] theorem mren_l9 (g : Nat → Nat) (xs : List ByteArray) : (l9 xs).map (AV.ren g) = l9 xs := by rw [← rens_map, rens_l9]

theorem e9_k (x : ByteArray) : (e9 x).cells.length = 1 := by simp [e9, AV.cells]

theorem e9_one (x : ByteArray) : ∀ z ∈ (e9 x).cells, z.one = true := by intro z hz; simp [e9, AV.cells] at hz; subst hz; rfl

theorem i9 {xs : List ByteArray} {i : Int} {x : ByteArray} (h : idx xs i = some x) : 0 ≤ i ∧ (l9 xs)[i.toNat]? = some (e9 x) := by rw [l9_map]; exact idx_enc h

def e50 (x : (List ByteArray)) : AV := (.sl (l9 x))
def l50 : List (List ByteArray) → List AV
  | [] => []
  | x :: xs => e50 x :: l50 xs

@[simp] theorem low_e50 (n : Nat) (x : (List ByteArray)) : (e50 x).low n = true := by simp [AV.low, e50, low_l9]
@[simp] theorem low_l50 (n : Nat) : ∀ xs : List (List ByteArray), AV.lows n (l50 xs) = true
  | [] => rfl
  | x :: xs => by simp [AV.lows, l50, low_e50 n x, low_l50 n xs]

@[simp] theorem rens_l50 (g : Nat → Nat) (xs : List (List ByteArray)) : AV.rens g (l50 xs) = l50 xs := rens_low0 (low_l50 0 xs)

theorem l50_map : ∀ xs : List (List ByteArray), l50 xs = xs.map e50
  | [] => rfl
  | x :: xs => by simp [l50, l50_map xs]

theorem l50_len (xs : List (List ByteArray)) : (l50 xs).length = xs.length := by simp [l50_map]

@[simp] theorem mren_l50 (g : Nat → Nat) (xs : List (List ByteArray)) : (l50 xs).map (AV.ren g) = l50 xs := by rw [← rens_map, rens_l50]

theorem e50_k (x : (List ByteArray)) : (e50 x).cells.length = 1 := by simp [e50, AV.cells]

theorem e50_one (x : (List ByteArray)) : ∀ z ∈ (e50 x).cells, z.one = true := by intro z hz; simp [e50, AV.cells] at hz; subst hz; rfl

theorem i50 {xs : List (List ByteArray)} {i : Int} {x : (List ByteArray)} (h : idx xs i = some x) : 0 ≤ i ∧ (l50 xs)[i.toNat]? = some (e50 x) := by rw [l50_map]; exact idx_enc h

def str1 : ByteArray := ByteArray.mk #[32, 119, 105, 100, 116, 104, 32, 118, 97, 114, 32, 97, 116, 111, 109, 105, 99, 32, 109, 117, 116, 101, 120, 32, 99, 104, 97, 110, 32, 112, 114, 111, 99, 32, 115, 101, 116, 32, 108, 111, 97, 100, 32, 115, 116, 111, 114, 101, 32, 103, 101, 116, 32, 112, 117, 116, 32, 97, 100, 100, 32, 99, 97, 115, 32, 108, 111, 99, 107, 32, 115, 101, 110, 100, 32, 114, 101, 99, 118, 32, 103, 111, 32, 105, 102, 32, 101, 108, 115, 101, 32, 119, 104, 105, 108, 101, 32, 98, 114, 101, 97, 107, 32, 99, 111, 110, 116, 105, 110, 117, 101, 32, 97, 115, 115, 101, 114, 116, 32]
def w76 : T76 → Prop
  | ⟨x0, x1, x2, x3⟩ => (IntKind.min .i64 ≤ x0 ∧ x0 ≤ IntKind.max .i64) ∧ x1.size ≤ maxLen ∧ (IntKind.min .i64 ≤ x2 ∧ x2 ≤ IntKind.max .i64) ∧ (IntKind.min .i64 ≤ x3 ∧ x3 ≤ IntKind.max .i64)
def ws76 : List T76 → Prop
  | [] => True
  | x :: xs => w76 x ∧ ws76 xs

theorem ws76_of : ∀ {xs : List T76}, (∀ x ∈ xs, w76 x) → ws76 xs
  | [], _ => trivial
  | x :: xs, h => ⟨h x (by simp), ws76_of fun y hy => h y (by simp [hy])⟩

theorem ws76_mem : ∀ {xs : List T76}, ws76 xs → ∀ x ∈ xs, w76 x
  | [], _, y, hy => by simp at hy
  | x :: xs, h, y, hy => by
    simp only [List.mem_cons] at hy
    rcases hy with rfl | hy
    · exact h.1
    · exact ws76_mem h.2 y hy

mutual
def w57 : T57 → Prop
  | ⟨x0, x1, x2, x3, x4, x5⟩ => (IntKind.min .i64 ≤ x0 ∧ x0 ≤ IntKind.max .i64) ∧ x1.size ≤ maxLen ∧ (IntKind.min .i64 ≤ x2 ∧ x2 ≤ IntKind.max .i64) ∧ x3.size ≤ maxLen ∧ (x4.length ≤ maxLen ∧ ws57 x4) ∧ (IntKind.min .i64 ≤ x5 ∧ x5 ≤ IntKind.max .i64)
def ws57 : List T57 → Prop
  | [] => True
  | x :: xs => w57 x ∧ ws57 xs
end

theorem ws57_of : ∀ {xs : List T57}, (∀ x ∈ xs, w57 x) → ws57 xs
  | [], _ => trivial
  | x :: xs, h => ⟨h x (by simp), ws57_of fun y hy => h y (by simp [hy])⟩

theorem ws57_mem : ∀ {xs : List T57}, ws57 xs → ∀ x ∈ xs, w57 x
  | [], _, y, hy => by simp at hy
  | x :: xs, h, y, hy => by
    simp only [List.mem_cons] at hy
    rcases hy with rfl | hy
    · exact h.1
    · exact ws57_mem h.2 y hy

mutual
def w69 : T69 → Prop
  | ⟨x0, x1, x2, x3, x4, x5, x6⟩ => (IntKind.min .i64 ≤ x0 ∧ x0 ≤ IntKind.max .i64) ∧ x1.size ≤ maxLen ∧ x2.size ≤ maxLen ∧ (x3.length ≤ maxLen ∧ ws57 x3) ∧ (x4.length ≤ maxLen ∧ ws69 x4) ∧ (x5.length ≤ maxLen ∧ ws69 x5) ∧ (IntKind.min .i64 ≤ x6 ∧ x6 ≤ IntKind.max .i64)
def ws69 : List T69 → Prop
  | [] => True
  | x :: xs => w69 x ∧ ws69 xs
end

theorem ws69_of : ∀ {xs : List T69}, (∀ x ∈ xs, w69 x) → ws69 xs
  | [], _ => trivial
  | x :: xs, h => ⟨h x (by simp), ws69_of fun y hy => h y (by simp [hy])⟩

theorem ws69_mem : ∀ {xs : List T69}, ws69 xs → ∀ x ∈ xs, w69 x
  | [], _, y, hy => by simp at hy
  | x :: xs, h, y, hy => by
    simp only [List.mem_cons] at hy
    rcases hy with rfl | hy
    · exact h.1
    · exact ws69_mem h.2 y hy

def w34 : T34 → Prop
  | ⟨x0, x1, x2⟩ => x0.size ≤ maxLen ∧ (x1.length ≤ maxLen ∧ ws69 x1) ∧ (IntKind.min .i64 ≤ x2 ∧ x2 ≤ IntKind.max .i64)
def ws34 : List T34 → Prop
  | [] => True
  | x :: xs => w34 x ∧ ws34 xs

theorem ws34_of : ∀ {xs : List T34}, (∀ x ∈ xs, w34 x) → ws34 xs
  | [], _ => trivial
  | x :: xs, h => ⟨h x (by simp), ws34_of fun y hy => h y (by simp [hy])⟩

theorem ws34_mem : ∀ {xs : List T34}, ws34 xs → ∀ x ∈ xs, w34 x
  | [], _, y, hy => by simp at hy
  | x :: xs, h, y, hy => by
    simp only [List.mem_cons] at hy
    rcases hy with rfl | hy
    · exact h.1
    · exact ws34_mem h.2 y hy

def w24 : T24 → Prop
  | ⟨x0, x1, x2⟩ => (IntKind.min .i64 ≤ x0 ∧ x0 ≤ IntKind.max .i64) ∧ (x1.length ≤ maxLen ∧ ws76 x1) ∧ (x2.length ≤ maxLen ∧ ws34 x2)
def ws24 : List T24 → Prop
  | [] => True
  | x :: xs => w24 x ∧ ws24 xs

theorem ws24_of : ∀ {xs : List T24}, (∀ x ∈ xs, w24 x) → ws24 xs
  | [], _ => trivial
  | x :: xs, h => ⟨h x (by simp), ws24_of fun y hy => h y (by simp [hy])⟩

theorem ws24_mem : ∀ {xs : List T24}, ws24 xs → ∀ x ∈ xs, w24 x
  | [], _, y, hy => by simp at hy
  | x :: xs, h, y, hy => by
    simp only [List.mem_cons] at hy
    rcases hy with rfl | hy
    · exact h.1
    · exact ws24_mem h.2 y hy

def w2 (x : Int) : Prop := (IntKind.min .i64 ≤ x ∧ x ≤ IntKind.max .i64)
def ws2 : List Int → Prop
  | [] => True
  | x :: xs => w2 x ∧ ws2 xs

theorem ws2_of : ∀ {xs : List Int}, (∀ x ∈ xs, w2 x) → ws2 xs
  | [], _ => trivial
  | x :: xs, h => ⟨h x (by simp), ws2_of fun y hy => h y (by simp [hy])⟩

theorem ws2_mem : ∀ {xs : List Int}, ws2 xs → ∀ x ∈ xs, w2 x
  | [], _, y, hy => by simp at hy
  | x :: xs, h, y, hy => by
    simp only [List.mem_cons] at hy
    rcases hy with rfl | hy
    · exact h.1
    · exact ws2_mem h.2 y hy

theorem of77 : ∀ (n : Nat) (x : AV), SizeOf.sizeOf x < n → TA prog 77 x → ∃ y : T76, x = e76 y ∧ w76 y
  | 0, _, h, _ => absurd h (Nat.not_lt_zero _)
  | n + 1, x, hn, h => by
    obtain ⟨xs, rfl, hl, hx⟩ := h.agg_inv Go.Proofs.Try.underlying77
    have hl : xs.length = 4 := hl
    obtain ⟨a0, xs0, rfl, hl0⟩ := len_cons hl
    obtain ⟨a1, xs1, rfl, hl1⟩ := len_cons hl0
    obtain ⟨a2, xs2, rfl, hl2⟩ := len_cons hl1
    obtain ⟨a3, xs3, rfl, hl3⟩ := len_cons hl2
    obtain rfl := len_nil hl3
    have g0 : TA prog 3 a0 := hx (_, a0) (List.mem_of_getElem? (i := 0) rfl)
    have g1 : TA prog 9 a1 := hx (_, a1) (List.mem_of_getElem? (i := 1) rfl)
    have g2 : TA prog 3 a2 := hx (_, a2) (List.mem_of_getElem? (i := 2) rfl)
    have g3 : TA prog 3 a3 := hx (_, a3) (List.mem_of_getElem? (i := 3) rfl)
    clear hx
    obtain ⟨b0, rfl, q0⟩ := g0.int_inv Go.Proofs.Try.underlying3
    obtain ⟨b1, rfl, q1⟩ := g1.str_inv Go.Proofs.Try.underlying9
    obtain ⟨b2, rfl, q2⟩ := g2.int_inv Go.Proofs.Try.underlying3
    obtain ⟨b3, rfl, q3⟩ := g3.int_inv Go.Proofs.Try.underlying3
    refine ⟨⟨b0, b1, b2, b3⟩, by simp [e76, AV.cells], ?_⟩
    simp only [w76]
    exact ⟨q0, q1, q2, q3⟩

theorem of58 : ∀ (n : Nat) (x : AV), SizeOf.sizeOf x < n → TA prog 58 x → ∃ y : T57, x = e57 y ∧ w57 y
  | 0, _, h, _ => absurd h (Nat.not_lt_zero _)
  | n + 1, x, hn, h => by
    obtain ⟨xs, rfl, hl, hx⟩ := h.agg_inv Go.Proofs.Try.underlying58
    have hl : xs.length = 6 := hl
    obtain ⟨a0, xs0, rfl, hl0⟩ := len_cons hl
    obtain ⟨a1, xs1, rfl, hl1⟩ := len_cons hl0
    obtain ⟨a2, xs2, rfl, hl2⟩ := len_cons hl1
    obtain ⟨a3, xs3, rfl, hl3⟩ := len_cons hl2
    obtain ⟨a4, xs4, rfl, hl4⟩ := len_cons hl3
    obtain ⟨a5, xs5, rfl, hl5⟩ := len_cons hl4
    obtain rfl := len_nil hl5
    have g0 : TA prog 3 a0 := hx (_, a0) (List.mem_of_getElem? (i := 0) rfl)
    have g1 : TA prog 9 a1 := hx (_, a1) (List.mem_of_getElem? (i := 1) rfl)
    have g2 : TA prog 3 a2 := hx (_, a2) (List.mem_of_getElem? (i := 2) rfl)
    have g3 : TA prog 9 a3 := hx (_, a3) (List.mem_of_getElem? (i := 3) rfl)
    have g4 : TA prog 56 a4 := hx (_, a4) (List.mem_of_getElem? (i := 4) rfl)
    have g5 : TA prog 3 a5 := hx (_, a5) (List.mem_of_getElem? (i := 5) rfl)
    clear hx
    obtain ⟨b0, rfl, q0⟩ := g0.int_inv Go.Proofs.Try.underlying3
    obtain ⟨b1, rfl, q1⟩ := g1.str_inv Go.Proofs.Try.underlying9
    obtain ⟨b2, rfl, q2⟩ := g2.int_inv Go.Proofs.Try.underlying3
    obtain ⟨b3, rfl, q3⟩ := g3.str_inv Go.Proofs.Try.underlying9
    obtain ⟨ys4, rfl, m4, q4⟩ := g4.sl_inv Go.Proofs.Try.underlying56
    obtain ⟨b4, rfl, z4⟩ := list_of (e := e57) (w := w57) (xs := ys4) fun y hy => of58 n y (by have := List.sizeOf_lt_of_mem hy; simp [AV.cells] at hn; omega) (q4 y hy)
    obtain ⟨b5, rfl, q5⟩ := g5.int_inv Go.Proofs.Try.underlying3
    refine ⟨⟨b0, b1, b2, b3, b4, b5⟩, by simp [e57, AV.cells, l57_map], ?_⟩
    simp only [w57]
    exact ⟨q0, q1, q2, q3, ⟨by simpa using m4, ws57_of z4⟩, q5⟩

theorem of70 : ∀ (n : Nat) (x : AV), SizeOf.sizeOf x < n → TA prog 70 x → ∃ y : T69, x = e69 y ∧ w69 y
  | 0, _, h, _ => absurd h (Nat.not_lt_zero _)
  | n + 1, x, hn, h => by
    obtain ⟨xs, rfl, hl, hx⟩ := h.agg_inv Go.Proofs.Try.underlying70
    have hl : xs.length = 7 := hl
    obtain ⟨a0, xs0, rfl, hl0⟩ := len_cons hl
    obtain ⟨a1, xs1, rfl, hl1⟩ := len_cons hl0
    obtain ⟨a2, xs2, rfl, hl2⟩ := len_cons hl1
    obtain ⟨a3, xs3, rfl, hl3⟩ := len_cons hl2
    obtain ⟨a4, xs4, rfl, hl4⟩ := len_cons hl3
    obtain ⟨a5, xs5, rfl, hl5⟩ := len_cons hl4
    obtain ⟨a6, xs6, rfl, hl6⟩ := len_cons hl5
    obtain rfl := len_nil hl6
    have g0 : TA prog 3 a0 := hx (_, a0) (List.mem_of_getElem? (i := 0) rfl)
    have g1 : TA prog 9 a1 := hx (_, a1) (List.mem_of_getElem? (i := 1) rfl)
    have g2 : TA prog 9 a2 := hx (_, a2) (List.mem_of_getElem? (i := 2) rfl)
    have g3 : TA prog 56 a3 := hx (_, a3) (List.mem_of_getElem? (i := 3) rfl)
    have g4 : TA prog 33 a4 := hx (_, a4) (List.mem_of_getElem? (i := 4) rfl)
    have g5 : TA prog 33 a5 := hx (_, a5) (List.mem_of_getElem? (i := 5) rfl)
    have g6 : TA prog 3 a6 := hx (_, a6) (List.mem_of_getElem? (i := 6) rfl)
    clear hx
    obtain ⟨b0, rfl, q0⟩ := g0.int_inv Go.Proofs.Try.underlying3
    obtain ⟨b1, rfl, q1⟩ := g1.str_inv Go.Proofs.Try.underlying9
    obtain ⟨b2, rfl, q2⟩ := g2.str_inv Go.Proofs.Try.underlying9
    obtain ⟨ys3, rfl, m3, q3⟩ := g3.sl_inv Go.Proofs.Try.underlying56
    obtain ⟨b3, rfl, z3⟩ := list_of (e := e57) (w := w57) (xs := ys3) fun y hy => of58 _ y (Nat.lt_succ_self _) (q3 y hy)
    obtain ⟨ys4, rfl, m4, q4⟩ := g4.sl_inv Go.Proofs.Try.underlying33
    obtain ⟨b4, rfl, z4⟩ := list_of (e := e69) (w := w69) (xs := ys4) fun y hy => of70 n y (by have := List.sizeOf_lt_of_mem hy; simp [AV.cells] at hn; omega) (q4 y hy)
    obtain ⟨ys5, rfl, m5, q5⟩ := g5.sl_inv Go.Proofs.Try.underlying33
    obtain ⟨b5, rfl, z5⟩ := list_of (e := e69) (w := w69) (xs := ys5) fun y hy => of70 n y (by have := List.sizeOf_lt_of_mem hy; simp [AV.cells] at hn; omega) (q5 y hy)
    obtain ⟨b6, rfl, q6⟩ := g6.int_inv Go.Proofs.Try.underlying3
    refine ⟨⟨b0, b1, b2, b3, b4, b5, b6⟩, by simp [e69, AV.cells, l57_map, l69_map, l69_map], ?_⟩
    simp only [w69]
    exact ⟨q0, q1, q2, ⟨by simpa using m3, ws57_of z3⟩, ⟨by simpa using m4, ws69_of z4⟩, ⟨by simpa using m5, ws69_of z5⟩, q6⟩

theorem of35 : ∀ (n : Nat) (x : AV), SizeOf.sizeOf x < n → TA prog 35 x → ∃ y : T34, x = e34 y ∧ w34 y
  | 0, _, h, _ => absurd h (Nat.not_lt_zero _)
  | n + 1, x, hn, h => by
    obtain ⟨xs, rfl, hl, hx⟩ := h.agg_inv Go.Proofs.Try.underlying35
    have hl : xs.length = 3 := hl
    obtain ⟨a0, xs0, rfl, hl0⟩ := len_cons hl
    obtain ⟨a1, xs1, rfl, hl1⟩ := len_cons hl0
    obtain ⟨a2, xs2, rfl, hl2⟩ := len_cons hl1
    obtain rfl := len_nil hl2
    have g0 : TA prog 9 a0 := hx (_, a0) (List.mem_of_getElem? (i := 0) rfl)
    have g1 : TA prog 33 a1 := hx (_, a1) (List.mem_of_getElem? (i := 1) rfl)
    have g2 : TA prog 3 a2 := hx (_, a2) (List.mem_of_getElem? (i := 2) rfl)
    clear hx
    obtain ⟨b0, rfl, q0⟩ := g0.str_inv Go.Proofs.Try.underlying9
    obtain ⟨ys1, rfl, m1, q1⟩ := g1.sl_inv Go.Proofs.Try.underlying33
    obtain ⟨b1, rfl, z1⟩ := list_of (e := e69) (w := w69) (xs := ys1) fun y hy => of70 _ y (Nat.lt_succ_self _) (q1 y hy)
    obtain ⟨b2, rfl, q2⟩ := g2.int_inv Go.Proofs.Try.underlying3
    refine ⟨⟨b0, b1, b2⟩, by simp [e34, AV.cells, l69_map], ?_⟩
    simp only [w34]
    exact ⟨q0, ⟨by simpa using m1, ws69_of z1⟩, q2⟩

theorem of25 : ∀ (n : Nat) (x : AV), SizeOf.sizeOf x < n → TA prog 25 x → ∃ y : T24, x = e24 y ∧ w24 y
  | 0, _, h, _ => absurd h (Nat.not_lt_zero _)
  | n + 1, x, hn, h => by
    obtain ⟨xs, rfl, hl, hx⟩ := h.agg_inv Go.Proofs.Try.underlying25
    have hl : xs.length = 3 := hl
    obtain ⟨a0, xs0, rfl, hl0⟩ := len_cons hl
    obtain ⟨a1, xs1, rfl, hl1⟩ := len_cons hl0
    obtain ⟨a2, xs2, rfl, hl2⟩ := len_cons hl1
    obtain rfl := len_nil hl2
    have g0 : TA prog 3 a0 := hx (_, a0) (List.mem_of_getElem? (i := 0) rfl)
    have g1 : TA prog 22 a1 := hx (_, a1) (List.mem_of_getElem? (i := 1) rfl)
    have g2 : TA prog 23 a2 := hx (_, a2) (List.mem_of_getElem? (i := 2) rfl)
    clear hx
    obtain ⟨b0, rfl, q0⟩ := g0.int_inv Go.Proofs.Try.underlying3
    obtain ⟨ys1, rfl, m1, q1⟩ := g1.sl_inv Go.Proofs.Try.underlying22
    obtain ⟨b1, rfl, z1⟩ := list_of (e := e76) (w := w76) (xs := ys1) fun y hy => of77 _ y (Nat.lt_succ_self _) (q1 y hy)
    obtain ⟨ys2, rfl, m2, q2⟩ := g2.sl_inv Go.Proofs.Try.underlying23
    obtain ⟨b2, rfl, z2⟩ := list_of (e := e34) (w := w34) (xs := ys2) fun y hy => of35 _ y (Nat.lt_succ_self _) (q2 y hy)
    refine ⟨⟨b0, b1, b2⟩, by simp [e24, AV.cells, l76_map, l34_map], ?_⟩
    simp only [w24]
    exact ⟨q0, ⟨by simpa using m1, ws76_of z1⟩, ⟨by simpa using m2, ws34_of z2⟩⟩

theorem of3 (n : Nat) (x : AV) (_ : SizeOf.sizeOf x < n) (h : TA prog 3 x) : ∃ y : Int, x = e2 y ∧ w2 y := by
  obtain ⟨b, rfl, q⟩ := h.int_inv Go.Proofs.Try.underlying3
  exact ⟨b, rfl, q⟩

def lawTypes : List TypeId := [3, 9, 22, 23, 25, 33, 35, 56, 58, 70, 77]
end Go.Vm
