/- The rules in short forms: what the kernel may check by itself is left out of the printed text. -/
import Derived.Test.YtjeihigmneepcaaVs
set_option linter.unusedVariables false
set_option linter.unusedSectionVars false
set_option linter.unusedSimpArgs false
namespace Go.Vm
variable [Glob]
abbrev aI (n : Int) : AV := .int .i64 n
@[simp] theorem low_aI (n : Nat) (x : Int) : (aI x).low n = true := rfl
@[simp] theorem ren_aI (g : Nat → Nat) (x : Int) : (aI x).ren g = aI x := rfl
theorem bif_split {α : Type} {c : Bool} {x y r : α} (h : (bif c then x else y) = r) : (c = true ∧ x = r) ∨ (c = false ∧ y = r) := by cases c <;> simp_all
theorem bsm {α β : Type} {o : Option α} {f : α → Option β} {r : β} (h : o.bind f = some r) : ∃ a, o = some a ∧ f a = some r := Option.bind_eq_some_iff.mp h
section
variable {P : Program} {tab : TypeId → Option TI} {N m : Nat} {env : Env} {L L' : List AObj} {ops : Array Oper} {i id : Nat} {Q : Pst} {c y z : Code} {x : Ex} {o : Oper} {v : AV}
/-- A region whose operations all are plain. -/
theorem zR (hT : TabOk P tab) (ks : List Nat) (env' : Env) (L' : List AObj) (k : AE P N m .normal env' L' Q) (h : runK tab N ops 0 ops.toList.length ks env L = some (env', L') := by kernel_rfl) : AW P N m (.region id ops false) env L Q :=
  AW_reg (AR_many hT _ ks env' L' h (AR_fin (by simp) k))
theorem zr (hT : TabOk P tab) (ks : List Nat) (env' : Env) (k : AE P N m .normal env' L Q) (h : runK tab N ops 0 ops.toList.length ks env L = some (env', L) := by kernel_rfl) : AW P N m (.region id ops false) env L Q := zR hT ks env' L k h
theorem zS (hT : TabOk P tab) (ks : List Nat) (env' : Env) (L' : List AObj) (k : AW P N m y env' L' Q) (h : runK tab N ops 0 ops.toList.length ks env L = some (env', L') := by kernel_rfl) : AW P N m (.seq (.region id ops false) y) env L Q :=
  AW_seq (zR hT ks env' L' (AE_seqN k) h)
theorem zs (hT : TabOk P tab) (ks : List Nat) (env' : Env) (k : AW P N m y env' L Q) (h : runK tab N ops 0 ops.toList.length ks env L = some (env', L) := by kernel_rfl) : AW P N m (.seq (.region id ops false) y) env L Q := zS hT ks env' L k h
theorem zM (hT : TabOk P tab) (n : Nat) (ks : List Nat) (env' : Env) (L' : List AObj) (k : AR P N m ops (i + n) env' L' Q) (h : runK tab N ops i n ks env L = some (env', L') := by kernel_rfl) : AR P N m ops i env L Q := AR_many hT n ks env' L' h k
theorem zm (hT : TabOk P tab) (n : Nat) (ks : List Nat) (env' : Env) (k : AR P N m ops (i + n) env' L Q) (h : runK tab N ops i n ks env L = some (env', L) := by kernel_rfl) : AR P N m ops i env L Q := AR_many hT n ks env' L h k
/-- the last of a region's operations, all plain -/
theorem zE (hT : TabOk P tab) (n : Nat) (ks : List Nat) (env' : Env) (L' : List AObj) (k : AE P N m .normal env' L' Q) (h : runK tab N ops i n ks env L = some (env', L') := by kernel_rfl) (hn : Nat.ble ops.toList.length (i + n) = true := by kernel_rfl) : AR P N m ops i env L Q := AR_many hT n ks env' L' h (AR_fin hn k)
theorem ze (hT : TabOk P tab) (n : Nat) (ks : List Nat) (env' : Env) (k : AE P N m .normal env' L Q) (h : runK tab N ops i n ks env L = some (env', L) := by kernel_rfl) (hn : Nat.ble ops.toList.length (i + n) = true := by kernel_rfl) : AR P N m ops i env L Q := AR_many hT n ks env' L h (AR_fin hn k)
theorem zO {v : AV} (J : OpJ P N env L (opN ops i) v L') (k : AR P N m ops (i + 1) (eput env (opN ops i).dst v) L' Q) (h : okAt N ops i env = true := by kernel_rfl) : AR P N m ops i env L Q := AR_op h J k
theorem zF (k : AE P N m .normal env L Q) (hn : Nat.ble ops.toList.length i = true := by kernel_rfl) : AR P N m ops i env L Q := AR_fin hn k
theorem zK (ks : List Nat) (env' : Env) (h : AE P N m x env' L Q) (e : pick env ks = env' := by kernel_rfl) : AE P N m x env L Q := AE_keep ks e h
theorem zKw (ks : List Nat) (env' : Env) (h : AW P N m c env' L Q) (e : pick env ks = env' := by kernel_rfl) : AW P N m c env L Q := AW_keep ks e h
theorem zT {o : Operand} {q : Bool} (hq : q = true) (h : AW P N m y env L Q) (hc : aval env o = .bool q := by kernel_rfl) : AW P N m (.cond o y z) env L Q := AW_ifT hc hq h
theorem zN {o : Operand} {q : Bool} (hq : q = false) (h : AW P N m z env L Q) (hc : aval env o = .bool q := by kernel_rfl) : AW P N m (.cond o y z) env L Q := AW_ifF hc hq h
theorem zX {id' : Nat} (h : AE P N m (.exit id') env L Q) (hne : Nat.beq id' id = false := by kernel_rfl) : AE P N m (.exit id') env L (.block id Q) := AE_blkX hne h
theorem zD (n : Nat) (L' : List AObj) (h : AE P N m x env L' Q) (hn : Nat.ble m n = true := by kernel_rfl) (he : (env.all fun p => p.2.low n) = true := by simp [AV.low, AV.lows, AObj.low])
    (hb : ((L.take n).all fun o => o.low n) = true := by simp [AV.low, AV.lows, AObj.low]) (e : L.take n = L' := by kernel_rfl) : AE P N m x env L Q := AE_drop n hn (low_env he) hb e h
theorem zEnd {fn : Func} {res : AV} {L1 : List AObj} (hx : (match x with | .exit _ => False | _ => True) := by trivial) (h1 : ares tab env L fn.results.toList = some res := by kernel_rfl) (h2 : L.take L1.length = L1 := by kernel_rfl)
    (h3 : res.low L1.length = true := by simp [AV.low, AV.lows, AObj.low]) (h4 : (L1.all fun o => o.low L1.length) = true := by simp [AV.low, AV.lows, AObj.low]) : AE P N m x env L (Ends tab fn res L1) := AE_done ⟨hx, h1, h2, h3, h4⟩
/-! ### operations -/
theorem jC {g : FuncId} {args : List AV} {fn : Func} {res : AV} (hg : P.funcs[g]? = some fn) (hf : Fn P g args L res L') (h : callOp o env = some (g, args) := by kernel_rfl) (hn : (fn.name == "runtime.NumGoroutine") = false := by kernel_rfl)
    (hb : fn.body.isNone = false := by kernel_rfl) : OpJ P N env L o res L' := OpJ_callK h hg hn hb hf
theorem fP {f : FuncId} {args : List AV} {res : AV} (h : Fn P f args [] res []) (ha : AV.lows 0 args = true := by simp [AV.low, AV.lows, AObj.low]) (hr : res.low 0 = true := by simp [AV.low, AV.lows, AObj.low]) : Fn P f args L res L := Fn_pure h ha hr
theorem jP {g : FuncId} {args : List AV} {fn : Func} {res : AV} (hg : P.funcs[g]? = some fn) (hf : Fn P g args [] res []) (h : callOp o env = some (g, args) := by kernel_rfl) (hn : (fn.name == "runtime.NumGoroutine") = false := by kernel_rfl)
    (hb : fn.body.isNone = false := by kernel_rfl) (ha : AV.lows 0 args = true := by simp [AV.low, AV.lows, AObj.low]) (hr : res.low 0 = true := by simp [AV.low, AV.lows, AObj.low]) : OpJ P N env L o res L := OpJ_callK h hg hn hb (Fn_pure hf ha hr)
theorem jX (hT : TabOk P tab) (n : Nat) {xs : List AV} {j : Int} {y : AV} (hy : 0 ≤ j ∧ xs[j.toNat]? = some y) (h : indexOp tab o env = some (xs, j, n) := by kernel_rfl) (hs : Nat.beq y.cells.length n = true := by kernel_rfl) : OpJ P N env L o (.rp y.cells) L := OpJ_indexK hT h hy hs
theorem jB (hT : TabOk P tab) {s : ByteArray} {j : Int} {b : Int} (hb : bidx s j = some b) (h : byteOp tab o env = some (s, j) := by kernel_rfl) : OpJ P N env L o (.int .u8 b) L := OpJ_byteK hT h hb
theorem jU (hT : TabOk P tab) {s r : ByteArray} {l h : Int} (hr : cutB s l h = some r) (hc : cutOp tab o env = some (.str s, l, h, 0) := by kernel_rfl) : OpJ P N env L o (.str r) L := OpJ_cutBK hT hc hr
theorem jQ (hT : TabOk P tab) {q b : Bool} (hq : q = b) (h : aop tab env L o.op = some (.bool q, L) := by kernel_rfl) : OpJ P N env L o (.bool b) L := OpJ_boolK hT h hq
theorem jL (hT : TabOk P tab) (e : TypeId) (k : Nat) (xs : List AV) (n : Nat) (h : aop tab env L o.op = some (.own n 0, L ++ [.arr false 0 e k xs]) := by kernel_rfl) (hn : L.length = n := by kernel_rfl) (hl : AV.lows n xs = true := by simp [AV.low, AV.lows, AObj.low])
    (hb : (L.all fun o => o.low n) = true := by simp [AV.low, AV.lows, AObj.low]) : OpJ P N env L o (.sl xs) L := OpJ_builtK hT n h hn hl hb
theorem jA (hT : TabOk P tab) {α : Type} {ef : α → AV} {lf : List α → List AV} (hl : ∀ xs, lf xs = xs.map ef) {k b : Nat} (hk : ∀ x, (ef x).cells.length = k) (h1 : ∀ x, ∀ z ∈ (ef x).cells, z.one = true)
    (L' : List AObj) (mu : Bool) (e : TypeId) (s y : AV) (r n : Nat) {xs ys zs : List α} (hs : Weak L s (.gr r n)) (hn : n = (lf xs).length) (hy : Weak L y (.sl (lf ys)))
    (hz : appL b xs ys = some zs) (h : appendOp tab o env = some (s, y, e, k, b) := by kernel_rfl) (hL : L[r]? = some (.row mu e k (lf xs)) := by kernel_rfl) (hL' : L.set r (.row mu e k (lf zs)) = L' := by kernel_rfl) : OpJ P N env L o (.gr r (lf zs).length) L' :=
  OpJ_appendE hT hl hk h1 h hs hn hL hy hz hL'
end
end Go.Vm
