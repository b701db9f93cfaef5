/- Printed by gen.py: the functions of the program as Lean functions, and that they do what these say. -/
import Derived.Test.YtjeihigmneepcaaVw
import Derived.Test.YtjeihigmneepcaaShelf
import Derived.Test.YtjeihigmneepcaaChecked
set_option linter.unusedVariables false
set_option linter.unusedSimpArgs false
set_option linter.unusedSectionVars false
set_option maxRecDepth 20000
namespace Go.Vm
instance glob : Glob where
  low := 0
  ok _ := True
  keep _ _ _ _ := trivial
noncomputable abbrev prog : Program := Go.Proofs.Try.prog
noncomputable def tab : TypeId → Option TI := tabOf prog
theorem hT : TabOk prog tab := tabOf_ok prog
theorem hmix : prog.follows .mixedOrders = true := Go.Proofs.Try.checked.mixed
structure T24 where
  f0 : Int
  f1 : Int
  f2 : Int

def e24 : T24 → AV
  | ⟨x0, x1, x2⟩ => .agg ([(.int .u16 x0), (.int .u16 x1), (.int .u32 x2)])
def l24 : List T24 → List AV
  | [] => []
  | x :: xs => e24 x :: l24 xs

@[simp] theorem low_e24 (n : Nat) (x : T24) : (e24 x).low n = true := by
  obtain ⟨x0, x1, x2⟩ := x
  simp [AV.low, AV.lows, e24, lows_append]
@[simp] theorem low_l24 (n : Nat) : ∀ xs : List T24, AV.lows n (l24 xs) = true
  | [] => rfl
  | x :: xs => by simp [AV.lows, l24, low_e24 n x, low_l24 n xs]

@[simp] theorem lows_e24 (n : Nat) (x : T24) : AV.lows n (e24 x).cells = true := lows_cells (low_e24 n x)

@[simp] theorem rens_l24 (g : Nat → Nat) (xs : List T24) : AV.rens g (l24 xs) = l24 xs := rens_low0 (low_l24 0 xs)

theorem l24_map : ∀ xs : List T24, l24 xs = xs.map e24
  | [] => rfl
  | x :: xs => by simp [l24, l24_map xs]

theorem l24_len (xs : List T24) : (l24 xs).length = xs.length := by simp [l24_map]

@[simp] theorem ren_e24 (g : Nat → Nat) (x : T24) : (e24 x).ren g = e24 x := ren_low0 (low_e24 0 x)

@[simp] theorem mren_l24 (g : Nat → Nat) (xs : List T24) : (l24 xs).map (AV.ren g) = l24 xs := by rw [← rens_map, rens_l24]

theorem e24_k (x : T24) : (e24 x).cells.length = 3 := by obtain ⟨x0, x1, x2⟩ := x; simp [e24, AV.cells]

theorem e24_one (x : T24) : ∀ z ∈ (e24 x).cells, z.one = true := by obtain ⟨x0, x1, x2⟩ := x; intro z hz; simp [e24, AV.cells] at hz; rcases hz with rfl | rfl | rfl <;> rfl

theorem i24 {xs : List T24} {i : Int} {x : T24} (h : idx xs i = some x) : 0 ≤ i ∧ (l24 xs)[i.toNat]? = some (e24 x) := by rw [l24_map]; exact idx_enc h

def e5 (x : Int) : AV := (.int .u8 x)
def l5 : List Int → List AV
  | [] => []
  | x :: xs => e5 x :: l5 xs

@[simp] theorem low_e5 (n : Nat) (x : Int) : (e5 x).low n = true := by simp [AV.low, e5]
@[simp] theorem low_l5 (n : Nat) : ∀ xs : List Int, AV.lows n (l5 xs) = true
  | [] => rfl
  | x :: xs => by simp [AV.lows, l5, low_e5 n x, low_l5 n xs]

@[simp] theorem rens_l5 (g : Nat → Nat) (xs : List Int) : AV.rens g (l5 xs) = l5 xs := rens_low0 (low_l5 0 xs)

theorem l5_map : ∀ xs : List Int, l5 xs = xs.map e5
  | [] => rfl
  | x :: xs => by simp [l5, l5_map xs]

theorem l5_len (xs : List Int) : (l5 xs).length = xs.length := by simp [l5_map]

@[simp] theorem ren_e5 (g : Nat → Nat) (x : Int) : (e5 x).ren g = e5 x := ren_low0 (low_e5 0 x)

@[simp] theorem mren_l5 (g : Nat → Nat) (xs : List Int) : (l5 xs).map (AV.ren g) = l5 xs := by rw [← rens_map, rens_l5]

theorem e5_k (x : Int) : (e5 x).cells.length = 1 := by simp [e5, AV.cells]

theorem e5_one (x : Int) : ∀ z ∈ (e5 x).cells, z.one = true := by intro z hz; simp [e5, AV.cells] at hz; subst hz; rfl

theorem i5 {xs : List Int} {i : Int} {x : Int} (h : idx xs i = some x) : 0 ≤ i ∧ (l5 xs)[i.toNat]? = some (e5 x) := by rw [l5_map]; exact idx_enc h

def e4 (x : Bool) : AV := (.bool x)
def l4 : List Bool → List AV
  | [] => []
  | x :: xs => e4 x :: l4 xs

@[simp] theorem low_e4 (n : Nat) (x : Bool) : (e4 x).low n = true := by simp [AV.low, e4]
@[simp] theorem low_l4 (n : Nat) : ∀ xs : List Bool, AV.lows n (l4 xs) = true
  | [] => rfl
  | x :: xs => by simp [AV.lows, l4, low_e4 n x, low_l4 n xs]

@[simp] theorem rens_l4 (g : Nat → Nat) (xs : List Bool) : AV.rens g (l4 xs) = l4 xs := rens_low0 (low_l4 0 xs)

theorem l4_map : ∀ xs : List Bool, l4 xs = xs.map e4
  | [] => rfl
  | x :: xs => by simp [l4, l4_map xs]

theorem l4_len (xs : List Bool) : (l4 xs).length = xs.length := by simp [l4_map]

@[simp] theorem ren_e4 (g : Nat → Nat) (x : Bool) : (e4 x).ren g = e4 x := ren_low0 (low_e4 0 x)

@[simp] theorem mren_l4 (g : Nat → Nat) (xs : List Bool) : (l4 xs).map (AV.ren g) = l4 xs := by rw [← rens_map, rens_l4]

theorem e4_k (x : Bool) : (e4 x).cells.length = 1 := by simp [e4, AV.cells]

theorem e4_one (x : Bool) : ∀ z ∈ (e4 x).cells, z.one = true := by intro z hz; simp [e4, AV.cells] at hz; subst hz; rfl

theorem i4 {xs : List Bool} {i : Int} {x : Bool} (h : idx xs i = some x) : 0 ≤ i ∧ (l4 xs)[i.toNat]? = some (e4 x) := by rw [l4_map]; exact idx_enc h

structure T75 where
  f0 : Int
  f1 : Int

def e75 : T75 → AV
  | ⟨x0, x1⟩ => .agg ([(aI x0), (aI x1)])
def l75 : List T75 → List AV
  | [] => []
  | x :: xs => e75 x :: l75 xs

@[simp] theorem low_e75 (n : Nat) (x : T75) : (e75 x).low n = true := by
  obtain ⟨x0, x1⟩ := x
  simp [AV.low, AV.lows, e75, lows_append]
@[simp] theorem low_l75 (n : Nat) : ∀ xs : List T75, AV.lows n (l75 xs) = true
  | [] => rfl
  | x :: xs => by simp [AV.lows, l75, low_e75 n x, low_l75 n xs]

@[simp] theorem lows_e75 (n : Nat) (x : T75) : AV.lows n (e75 x).cells = true := lows_cells (low_e75 n x)

@[simp] theorem rens_l75 (g : Nat → Nat) (xs : List T75) : AV.rens g (l75 xs) = l75 xs := rens_low0 (low_l75 0 xs)

theorem l75_map : ∀ xs : List T75, l75 xs = xs.map e75
  | [] => rfl
  | x :: xs => by simp [l75, l75_map xs]

theorem l75_len (xs : List T75) : (l75 xs).length = xs.length := by simp [l75_map]

@[simp] theorem ren_e75 (g : Nat → Nat) (x : T75) : (e75 x).ren g = e75 x := ren_low0 (low_e75 0 x)

@[simp] theorem mren_l75 (g : Nat → Nat) (xs : List T75) : (l75 xs).map (AV.ren g) = l75 xs := by rw [← rens_map, rens_l75]

theorem e75_k (x : T75) : (e75 x).cells.length = 2 := by obtain ⟨x0, x1⟩ := x; simp [e75, AV.cells]

theorem e75_one (x : T75) : ∀ z ∈ (e75 x).cells, z.one = true := by obtain ⟨x0, x1⟩ := x; intro z hz; simp [e75, AV.cells] at hz; rcases hz with rfl | rfl <;> rfl

theorem i75 {xs : List T75} {i : Int} {x : T75} (h : idx xs i = some x) : 0 ≤ i ∧ (l75 xs)[i.toNat]? = some (e75 x) := by rw [l75_map]; exact idx_enc h

def e2 (x : Int) : AV := (aI x)
def l2 : List Int → List AV
  | [] => []
  | x :: xs => e2 x :: l2 xs

@[simp] theorem low_e2 (n : Nat) (x : Int) : (e2 x).low n = true := by simp [AV.low, e2]
@[simp] theorem low_l2 (n : Nat) : ∀ xs : List Int, AV.lows n (l2 xs) = true
  | [] => rfl
  | x :: xs => by simp [AV.lows, l2, low_e2 n x, low_l2 n xs]

@[simp] theorem rens_l2 (g : Nat → Nat) (xs : List Int) : AV.rens g (l2 xs) = l2 xs := rens_low0 (low_l2 0 xs)

theorem l2_map : ∀ xs : List Int, l2 xs = xs.map e2
  | [] => rfl
  | x :: xs => by simp [l2, l2_map xs]

theorem l2_len (xs : List Int) : (l2 xs).length = xs.length := by simp [l2_map]

@[simp] theorem ren_e2 (g : Nat → Nat) (x : Int) : (e2 x).ren g = e2 x := ren_low0 (low_e2 0 x)

@[simp] theorem mren_l2 (g : Nat → Nat) (xs : List Int) : (l2 xs).map (AV.ren g) = l2 xs := by rw [← rens_map, rens_l2]

theorem e2_k (x : Int) : (e2 x).cells.length = 1 := by simp [e2, AV.cells]

theorem e2_one (x : Int) : ∀ z ∈ (e2 x).cells, z.one = true := by intro z hz; simp [e2, AV.cells] at hz; subst hz; rfl

theorem i2 {xs : List Int} {i : Int} {x : Int} (h : idx xs i = some x) : 0 ≤ i ∧ (l2 xs)[i.toNat]? = some (e2 x) := by rw [l2_map]; exact idx_enc h

theorem flat76 : flatT prog tab 76 = true := by kernel_rfl
def q75 : T75 → T75 → Bool
  | ⟨x0, x1⟩, ⟨y0, y1⟩ => ((x0 == y0) && ((x1 == y1) && true))
theorem q75_eq76 (x y : T75) : eqT tab 76 (e75 x) (e75 y) = some (q75 x y) := by obtain ⟨x0, x1⟩ := x; obtain ⟨y0, y1⟩ := y; kernel_rfl
def w24 : T24 → Prop
  | ⟨x0, x1, x2⟩ => (IntKind.min .u16 ≤ x0 ∧ x0 ≤ IntKind.max .u16) ∧ (IntKind.min .u16 ≤ x1 ∧ x1 ≤ IntKind.max .u16) ∧ (IntKind.min .u32 ≤ x2 ∧ x2 ≤ IntKind.max .u32)
def ws24 : List T24 → Prop
  | [] => True
  | x :: xs => w24 x ∧ ws24 xs

theorem ws24_of : ∀ {xs : List T24}, (∀ x ∈ xs, w24 x) → ws24 xs
  | [], _ => trivial
  | x :: xs, h => ⟨h x (by simp), ws24_of fun y hy => h y (by simp [hy])⟩

theorem ws24_mem : ∀ {xs : List T24}, ws24 xs → ∀ x ∈ xs, w24 x
  | [], _, y, hy => by simp at hy
  | x :: xs, h, y, hy => by
    simp only [List.mem_cons] at hy
    rcases hy with rfl | hy
    · exact h.1
    · exact ws24_mem h.2 y hy

def w5 (x : Int) : Prop := (IntKind.min .u8 ≤ x ∧ x ≤ IntKind.max .u8)
def ws5 : List Int → Prop
  | [] => True
  | x :: xs => w5 x ∧ ws5 xs

theorem ws5_of : ∀ {xs : List Int}, (∀ x ∈ xs, w5 x) → ws5 xs
  | [], _ => trivial
  | x :: xs, h => ⟨h x (by simp), ws5_of fun y hy => h y (by simp [hy])⟩

theorem ws5_mem : ∀ {xs : List Int}, ws5 xs → ∀ x ∈ xs, w5 x
  | [], _, y, hy => by simp at hy
  | x :: xs, h, y, hy => by
    simp only [List.mem_cons] at hy
    rcases hy with rfl | hy
    · exact h.1
    · exact ws5_mem h.2 y hy

def w4 (x : Bool) : Prop := True
def ws4 : List Bool → Prop
  | [] => True
  | x :: xs => w4 x ∧ ws4 xs

theorem ws4_of : ∀ {xs : List Bool}, (∀ x ∈ xs, w4 x) → ws4 xs
  | [], _ => trivial
  | x :: xs, h => ⟨h x (by simp), ws4_of fun y hy => h y (by simp [hy])⟩

theorem ws4_mem : ∀ {xs : List Bool}, ws4 xs → ∀ x ∈ xs, w4 x
  | [], _, y, hy => by simp at hy
  | x :: xs, h, y, hy => by
    simp only [List.mem_cons] at hy
    rcases hy with rfl | hy
    · exact h.1
    · exact ws4_mem h.2 y hy

theorem of25 : ∀ (n : Nat) (x : AV), SizeOf.sizeOf x < n → TA prog 25 x → ∃ y : T24, x = e24 y ∧ w24 y
  | 0, _, h, _ => absurd h (Nat.not_lt_zero _)
  | n + 1, x, hn, h => by
    obtain ⟨xs, rfl, hl, hx⟩ := h.agg_inv Go.Proofs.Try.underlying25
    have hl : xs.length = 3 := hl
    obtain ⟨a0, xs0, rfl, hl0⟩ := len_cons hl
    obtain ⟨a1, xs1, rfl, hl1⟩ := len_cons hl0
    obtain ⟨a2, xs2, rfl, hl2⟩ := len_cons hl1
    obtain rfl := len_nil hl2
    have g0 : TA prog 22 a0 := hx (_, a0) (List.mem_of_getElem? (i := 0) rfl)
    have g1 : TA prog 22 a1 := hx (_, a1) (List.mem_of_getElem? (i := 1) rfl)
    have g2 : TA prog 23 a2 := hx (_, a2) (List.mem_of_getElem? (i := 2) rfl)
    clear hx
    obtain ⟨b0, rfl, q0⟩ := g0.int_inv Go.Proofs.Try.underlying22
    obtain ⟨b1, rfl, q1⟩ := g1.int_inv Go.Proofs.Try.underlying22
    obtain ⟨b2, rfl, q2⟩ := g2.int_inv Go.Proofs.Try.underlying23
    refine ⟨⟨b0, b1, b2⟩, by simp [e24, AV.cells], ?_⟩
    simp only [w24]
    exact ⟨q0, q1, q2⟩

theorem of5 (n : Nat) (x : AV) (_ : SizeOf.sizeOf x < n) (h : TA prog 5 x) : ∃ y : Int, x = e5 y ∧ w5 y := by
  obtain ⟨b, rfl, q⟩ := h.int_inv Go.Proofs.Try.underlying5
  exact ⟨b, rfl, q⟩

theorem of4 (n : Nat) (x : AV) (_ : SizeOf.sizeOf x < n) (h : TA prog 4 x) : ∃ y : Bool, x = e4 y ∧ w4 y := by
  obtain ⟨b, rfl⟩ := h.bool_inv Go.Proofs.Try.underlying4
  exact ⟨b, rfl, trivial⟩

def lawTypes : List TypeId := [4, 5, 22, 23, 25]
end Go.Vm
