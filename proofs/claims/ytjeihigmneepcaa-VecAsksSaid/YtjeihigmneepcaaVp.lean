/- Contracts of the library's as contracts here; bytes of a text and the text of bytes. -/
import Derived.Test.YtjeihigmneepcaaVo
import Derived.Laws.IdiomStrings
import Derived.Laws.BytesArg
import Derived.Laws.Concat
set_option linter.unusedVariables false
set_option linter.unusedSectionVars false
set_option linter.unusedSimpArgs false
namespace Go.Vm
variable [Glob]

theorem Weak.sls {L : List AObj} {xs ys : List AV} (n : Nat) (h : Weaks L (xs.flatMap AV.cells) (ys.flatMap AV.cells)) (hl : Nat.beq xs.length ys.length = true) (hk : (ys.all fun y => Nat.beq y.cells.length n) = true) (h1 : (ys.flatMap AV.cells).all AV.one = true) : Weak L (.sl xs) (.sl ys) := by
  intro S u hσ hI hr
  have hl := Nat.eq_of_beq_eq_true hl
  cases hr with
  | sl hn hcm h' _ _ hs hc =>
    refine .sl (k := n) (by omega) hcm (h.rvs hσ hI h') (fun x hx => Nat.eq_of_beq_eq_true (List.all_eq_true.1 hk x hx)) (fun y hy => List.all_eq_true.1 h1 y hy) (fun hne => hs fun e => hne ?_) hc
    rw [e] at hl
    exact List.length_eq_zero_iff.1 hl.symm

/-! ### contracts over any world -/
def raw : AV → Option Value
  | .bool b => some (.bool b)
  | .int k n => some (.int k n)
  | .str s => some (.string s)
  | _ => none
theorem raw_eq {S : St} {u : Value} {x : AV} (h : RV S u x) {v : Value} (hr : raw x = some v) : u = v := by
  cases h <;> simp [raw] at hr <;> exact hr
theorem raw_rv {S : St} {x : AV} {v : Value} (hr : raw x = some v) : RV S v x := by
  cases x <;> simp [raw] at hr <;> subst hr <;> constructor
def raws : List AV → Option (List Value)
  | [] => some []
  | x :: xs => match raw x, raws xs with
    | some v, some vs => some (v :: vs)
    | _, _ => none
theorem raws_eq {S : St} : ∀ {us : List Value} {xs : List AV}, RVs S us xs → ∀ {vs : List Value}, raws xs = some vs → us = vs
  | _, _, .nil, vs, h => by simp [raws] at h; exact h.symm
  | _, _, .cons hu hs, vs, h => by
    simp only [raws] at h
    split at h
    · rename_i v vs' h1 h2
      cases h
      rw [raw_eq hu h1, raws_eq hs h2]
    · cases h
theorem Fn_lib {P : Program} {f : FuncId} {args : List AV} {us : List Value} {res : AV} {v : Value} (ha : raws args = some us) (hr : raw res = some v)
    (h : ∀ S : St, Inv S → Calls P f us.toArray S.w fun e w' => e = .returned v ∧ w' = S.w) : Fn P f args [] res [] := by
  intro S hσ hI us' hus
  have e := raws_eq hus ha
  subst e
  refine Calls.mono (h S hI) fun e w' hq => ?_
  obtain ⟨rfl, rfl⟩ := hq
  exact ⟨v, S, rfl, rfl, hσ, hI, Le.refl S, raw_rv hr⟩

/-! ### a block that nobody here writes -/
def St.alloc (S : St) (o : Obj) : St := { S with w := S.w.alloc o }
theorem alloc_M {S : St} {o : Obj} {b : Nat} : (S.alloc o).M b ↔ S.M b := Iff.rfl
theorem M_lt {S : St} (hI : Inv S) {b : Nat} (h : S.M b) : b < S.w.heap.size := by
  rcases h with ⟨r, o, ho, hm, rfl⟩ | h
  · exact (hI.obj r o ho).lt (AObj.blk_of_mut hm)
  · exact hI.outl b h
theorem alloc_le {S : St} (hI : Inv S) (o : Obj) : Le S (S.alloc o) where
  os := rfl
  tape := rfl
  output := rfl
  size := by simp [St.alloc]
  outs := rfl
  oims := rfl
  fil b i h := ⟨.inr h, cell_of_heap (heap_alloc_lt _ _ (Fil_lt hI h))⟩
  outh b hb := heap_alloc_lt _ _ (hI.outl b hb)
  imm b hb := ⟨⟨by have := hb.1; simp [St.alloc]; omega, hb.2⟩, heap_alloc_lt _ _ hb.1⟩
  obj r y hy := ⟨y, hy, by cases y <;> simp [ObjLe, St.alloc]⟩
theorem alloc_inv {S : St} (hI : Inv S) (o : Obj) : Inv (S.alloc o) where
  gl := hI.gl.le (alloc_le hI o)
  obj r y hy := by
    have hr := hI.obj r y hy
    exact hr.keep (alloc_le hI o) rfl rfl (fun hb => heap_alloc_lt _ _ (hr.lt hb)) fun b hb => .inl hb
  inj := hI.inj
  outl b hb := by have := hI.outl b hb; simp [St.alloc]; omega
  outr := hI.outr

/-! ### bytes and texts -/
def bytesL (s : ByteArray) : List Int := s.data.toList.map fun b => (b.toNat : Int)
section
variable {P : Program} {tab : TypeId → Option TI} {N m : Nat} {env env' : Env} {L L' : List AObj} {o : Oper}
def bytesOp (tab : TypeId → Option TI) (o : Oper) (env : Env) : Option ByteArray := match o.op with
  | .convert s d x => match (tab s).map TI.desc, (tab d).map TI.desc, aval env x with
    | some .string, some (.slice e), .str t => match (tab e).map TI.desc with
      | some (.int .u8) => some t
      | _ => none
    | _, _, _ => none
  | _ => none
theorem OpJ_bytesK (hT : TabOk P tab) {o : Oper} {s : ByteArray} (h : bytesOp tab o env = some s) (hs : s.size ≤ maxLen) : OpJ P N env L o (.sl ((bytesL s).map (AV.int .u8))) L := by
  unfold bytesOp at h
  split at h
  · rename_i t1 t2 x hop
    split at h
    · rename_i e t hd1 hd2 hx
      split at h
      · rename_i he
        cases h
        refine .turn fun S a hσ hI hE => ?_
        have hv := hE.eval x
        rw [hx] at hv
        generalize hu : a.eval x = u at hv
        cases hv
        have g1 := tab_desc hT hd1
        have g2 := tab_desc hT hd2
        have g3 := tab_desc hT he
        have hge := grownCap_ge S.w s.size 0 e
        have hle := grownCap_le_maxLen S.w s.size 0 e hs
        generalize hcap : grownCap S.w s.size 0 e = cap at hge hle
        have hI1 : Inv S.drew := drew_inv hI
        have key := alloc_inv hI1 (.cells (bytesRow s cap) e ((bytesRow s cap).size, (bytesRow s cap).size + 1))
        have kle := (drew_le S).trans (alloc_le hI1 (.cells (bytesRow s cap) e ((bytesRow s cap).size, (bytesRow s cap).size + 1)))
        refine ⟨.slice (some ⟨S.w.heap.size, 0, none⟩) s.size cap, S.drew.alloc (.cells (bytesRow s cap) e ((bytesRow s cap).size, (bytesRow s cap).size + 1)), ?_, hσ, key, kle, ?_⟩
        · have := run_bytes_of_string (P := P) S.w t1 t2 e s g1 g2 g3
          rw [hcap] at this
          simp only [execOp, hop, hu]
          simp [this]
          rfl
        · have hfl : ((bytesL s).map (AV.int .u8)).flatMap AV.cells = (bytesL s).map (AV.int .u8) := by
            generalize bytesL s = l
            induction l with
            | nil => rfl
            | cons x l ih => simp [AV.cells, ih]
          refine .sl (k := 1) (us := (bytesL s).map (Value.int .u8)) (by simp only [bytesL, List.length_map]; rfl) ⟨hge, hle⟩ ?_ (fun x hx => ?_) (fun y hy => ?_) (fun _ => ⟨_, rfl⟩) fun j u hj => ?_
          · rw [hfl]
            generalize bytesL s = l
            induction l with
            | nil => exact .nil
            | cons x l ih => exact .cons (.int _ _) ih
          · obtain ⟨n, _, rfl⟩ := List.mem_map.1 hx; rfl
          · rw [hfl] at hy; obtain ⟨n, _, rfl⟩ := List.mem_map.1 hy; rfl
          · refine ⟨_, rfl, .inl ?_, ?_⟩
            · rw [add_block]
              refine ⟨by simp [St.alloc, St.drew], fun hm => ?_⟩
              have : S.w.heap.size < S.drew.w.heap.size := M_lt hI1 hm
              exact absurd this (Nat.lt_irrefl _)
            · have hblk : (S.drew.alloc (.cells (bytesRow s cap) e ((bytesRow s cap).size, (bytesRow s cap).size + 1))).w.heap[S.w.heap.size]? = some (.cells (bytesRow s cap) e ((bytesRow s cap).size, (bytesRow s cap).size + 1)) := by
                show (S.w.heap.push _)[S.w.heap.size]? = _
                simp
              rw [add_lit, cell_of_row _ S.w.heap.size _ _ e _ hblk]
              simp only [bytesRow, Nat.zero_add]
              have hjl : j < s.data.toList.length := by
                have := (List.getElem?_eq_some_iff.1 hj).1
                simpa [bytesL] using this
              rw [Array.getElem?_append_left (by simpa using hjl)]
              simp only [bytesL, List.map_map, List.getElem?_map] at hj
              simp only [Array.getElem?_map]
              rw [← hj]
              simp
              rfl
      · cases h
    · cases h
  · cases h
def bytesP (s : ByteArray) : Option (List Int) := if s.size ≤ maxLen then some (bytesL s) else none
theorem OpJ_bytesE (hT : TabOk P tab) {o : Oper} {s : ByteArray} {l : List Int} {lf : List Int → List AV} {ef : Int → AV} (h : bytesOp tab o env = some s) (hb : bytesP s = some l) (hl : ∀ xs, lf xs = xs.map ef) (he : ∀ x, ef x = .int .u8 x) : OpJ P N env L o (.sl (lf l)) L := by
  unfold bytesP at hb
  split at hb
  · rename_i hs
    cases hb
    have := OpJ_bytesK (P := P) (N := N) (L := L) hT h hs
    rw [hl, show ef = AV.int .u8 from funext he]
    exact this
  · cases hb
def catS (a b : ByteArray) : Option ByteArray := if a.size + b.size ≤ 9223372036854775807 then some (a ++ b) else none
def catOp (o : Oper) (env : Env) : Option (ByteArray × ByteArray) := match o.op with
  | .binOp .add t x y _ => match aval env x, aval env y with
    | .str a, .str b => some (a, b)
    | _, _ => none
  | _ => none
theorem OpJ_catK {o : Oper} {a b r : ByteArray} (h : catOp o env = some (a, b)) (hc : catS a b = some r) : OpJ P N env L o (.str r) L := by
  unfold catOp at h
  unfold catS at hc
  split at hc
  · rename_i hs
    cases hc
    split at h
    · rename_i t x y u hop
      split at h
      · rename_i p q hx hy
        cases h
        refine .tell fun S ac hσ hI hE => ?_
        have hv := hE.eval x
        have hw := hE.eval y
        rw [hx] at hv
        rw [hy] at hw
        generalize hu : ac.eval x = u1 at hv
        generalize hu2 : ac.eval y = u2 at hw
        cases hv
        cases hw
        refine ⟨_, ?_, .str _⟩
        have := run_string_add_sum (P := P) S.w a b hs
        simp [execOp, hop, hu, hu2, binOp, this, eqGuard]
      · cases h
    · cases h
  · cases hc
end
end Go.Vm
