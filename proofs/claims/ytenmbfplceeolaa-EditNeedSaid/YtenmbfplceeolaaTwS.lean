/- Rules for symbolic execution. -/
import Derived.Test.YtenmbfplceeolaaTwR
set_option linter.unusedVariables false
set_option linter.unusedSimpArgs false
namespace Go.Tw
open Go

def contW (P : Program) (once : Nat → Bool) (d : Bool) (ops : Array Oper) (Q : Env → Mem → Prop) (rest : List Oper) (e : Env) (m : Mem) (dst : Option Nat) (out : Out) : Prop :=
  (d = true → drawn ops (rest.length + 1) m out) ∧ opsW P once d ops Q rest ((wbE e out.wb).put dst out.v) out.m

section
variable {P : Program} {once : Nat → Bool} {d : Bool} {n : Nat} {ops : Array Oper} {Q : Env → Mem → Prop} {e : Env} {m : Mem} {K : Out → Prop} {R : Ex → Env → Mem → Prop}
theorem opsW_nil : opsW P once d ops Q [] e m = Q e m := rfl
theorem opsW_cons {o : Oper} {rest : List Oper} : opsW P once d ops Q (o :: rest) e m = if wantE ops e o then stepW P d (once (o.dst.getD 0)) e m o.type (contW P once d ops Q rest e m o.dst) o.op else opsW P once d ops Q rest (e.put o.dst undefA) m := rfl
/-- no guard -/
theorem opsW_plain1 {rest : List Oper} {dst : Option Nat} {op : Op} {ty : TypeId} {pos : String} {after : Array Edge} : opsW P once d ops Q (⟨dst, op, ty, pos, after, none⟩ :: rest) e m = stepW P d (once (dst.getD 0)) e m ty (contW P once d ops Q rest e m dst) op := rfl
def dstAt : List Oper → Nat → Option Nat
  | [], _ => none
  | o :: _, 0 => o.dst
  | _ :: l, n + 1 => dstAt l n
theorem dstAt_zero {dst : Option Nat} {op : Op} {ty : TypeId} {pos : String} {after : Array Edge} {g : Option (Nat × Bool)} {l : List Oper} : dstAt (⟨dst, op, ty, pos, after, g⟩ :: l) 0 = dst := rfl
theorem dstAt_succ {o : Oper} {l : List Oper} {n : Nat} : dstAt (o :: l) (n + 1) = dstAt l n := rfl
theorem dstAt_eq : ∀ (l : List Oper) (j : Nat), dstAt l j = (l[j]?).bind (·.dst)
  | [], _ => rfl
  | o :: _, 0 => rfl
  | _ :: l, n + 1 => by rw [dstAt, dstAt_eq l n]; rfl
def envAt (e : Env) : Option Nat → AV
  | some d => e d
  | none => undefA
theorem envAt_some {j : Nat} : envAt e (some j) = e j := rfl
/-- a guard -/
def guardW (want : Bool) (A B : Prop) : AV → Prop
  | .val (.bool b) => match b == want with
    | true => A
    | false => B
  | _ => B
theorem want_eq {o : Oper} {j : Nat} {want : Bool} (h : o.guard = some (j, want)) : wantE ops e o = match envAt e (dstAt ops.toList j) with
    | .val (.bool b) => b == want
    | _ => false := by
  rw [dstAt_eq, Array.getElem?_toList]
  unfold wantE
  rw [h]
  simp only
  cases (ops[j]?).bind (·.dst) <;> rfl
theorem guard_of {want : Bool} {A B : Prop} (x : AV) {c : Bool} (h : c = match x with | .val (.bool b) => b == want | _ => false) : (if c = true then A else B) = guardW want A B x := by
  subst h
  unfold guardW
  split
  · rename_i b
    have : ∀ c : Bool, (if c = true then A else B) = (match c with | true => A | false => B) := by intro c; cases c <;> simp
    exact this _
  · simp
/-- an operation under a guard whose bool is x -/
def gateW (P : Program) (once : Nat → Bool) (d : Bool) (ops : Array Oper) (Q : Env → Mem → Prop) (rest : List Oper) (dst : Option Nat) (op : Op) (ty : TypeId) (e : Env) (m : Mem) (want : Bool) (x : AV) : Prop :=
  guardW want (stepW P d (once (dst.getD 0)) e m ty (contW P once d ops Q rest e m dst) op) (opsW P once d ops Q rest (e.put dst undefA) m) x
section
variable {rest : List Oper} {dst : Option Nat} {op : Op} {ty : TypeId} {want : Bool} {pos : String} {after : Array Edge} {j : Nat}
theorem opsW_guard : opsW P once d ops Q (⟨dst, op, ty, pos, after, some (j, want)⟩ :: rest) e m = gateW P once d ops Q rest dst op ty e m want (envAt e (dstAt ops.toList j)) := by
  rw [opsW_cons]
  exact guard_of _ (want_eq rfl)
theorem guard_tt : gateW P once d ops Q rest dst op ty e m true (.val (.bool true)) = stepW P d (once (dst.getD 0)) e m ty (contW P once d ops Q rest e m dst) op := rfl
theorem guard_ff : gateW P once d ops Q rest dst op ty e m false (.val (.bool false)) = stepW P d (once (dst.getD 0)) e m ty (contW P once d ops Q rest e m dst) op := rfl
theorem guard_tf : gateW P once d ops Q rest dst op ty e m true (.val (.bool false)) = opsW P once d ops Q rest (e.put dst undefA) m := rfl
theorem guard_ft : gateW P once d ops Q rest dst op ty e m false (.val (.bool true)) = opsW P once d ops Q rest (e.put dst undefA) m := rfl
theorem guard_un : gateW P once d ops Q rest dst op ty e m want undefA = opsW P once d ops Q rest (e.put dst undefA) m := rfl
theorem guard_split {t : Bool} (h1 : t = true → gateW P once d ops Q rest dst op ty e m want (.val (.bool true))) (h2 : t = false → gateW P once d ops Q rest dst op ty e m want (.val (.bool false))) : gateW P once d ops Q rest dst op ty e m want (.val (.bool t)) := by
  cases t with
  | true => exact h1 rfl
  | false => exact h2 rfl
end
section
variable {rest : List Oper} {dst : Option Nat} {op : Op} {ty : TypeId} {want : Bool} {p : Prop} [Decidable p]
theorem guard_dec (h1 : p → gateW P once d ops Q rest dst op ty e m want (.val (.bool true))) (h2 : ¬p → gateW P once d ops Q rest dst op ty e m want (.val (.bool false))) : gateW P once d ops Q rest dst op ty e m want (.val (.bool (decide p))) :=
  guard_split (fun h => h1 (of_decide_eq_true h)) (fun h => h2 (of_decide_eq_false h))
theorem guard_ndec (h1 : p → gateW P once d ops Q rest dst op ty e m want (.val (.bool false))) (h2 : ¬p → gateW P once d ops Q rest dst op ty e m want (.val (.bool true))) : gateW P once d ops Q rest dst op ty e m want (.val (.bool (!decide p))) :=
  guard_split (fun h => h2 (by simpa using h)) (fun h => h1 (by simpa using h))
end
def condC (P : Program) (once : Nat → Bool) (n : Nat) (a b : Code) (R : Ex → Env → Mem → Prop) (e : Env) (m : Mem) (x : AV) : Prop := condW (codeW P once n a R e m) (codeW P once n b R e m) x
section
variable {a b : Code}
theorem codeW_cond {c : Operand} : codeW P once n (.cond c a b) R e m = condC P once n a b R e m (opd e c) := rfl
theorem cond_split {t : Bool} (h1 : t = true → condC P once n a b R e m (.val (.bool true))) (h2 : t = false → condC P once n a b R e m (.val (.bool false))) : condC P once n a b R e m (.val (.bool t)) := by
  cases t with
  | true => exact h1 rfl
  | false => exact h2 rfl
theorem cond_dec {p : Prop} [Decidable p] (h1 : p → condC P once n a b R e m (.val (.bool true))) (h2 : ¬p → condC P once n a b R e m (.val (.bool false))) : condC P once n a b R e m (.val (.bool (decide p))) :=
  cond_split (fun h => h1 (of_decide_eq_true h)) (fun h => h2 (of_decide_eq_false h))
theorem cond_ndec {p : Prop} [Decidable p] (h1 : p → condC P once n a b R e m (.val (.bool false))) (h2 : ¬p → condC P once n a b R e m (.val (.bool true))) : condC P once n a b R e m (.val (.bool (!decide p))) :=
  cond_split (fun h => h2 (by simpa using h)) (fun h => h1 (by simpa using h))
theorem cond_t : condC P once n a b R e m (.val (.bool true)) = codeW P once n a R e m := by simp [condC, condW]
theorem cond_f : condC P once n a b R e m (.val (.bool false)) = codeW P once n b R e m := by simp [condC, condW]
end
theorem pick_t {x y : AV} : pickE x y (.val (.bool true)) = some x := rfl
theorem pick_f {x y : AV} : pickE x y (.val (.bool false)) = some y := rfl
theorem contW_none {m' : Mem} {rest : List Oper} {dst : Nat} {v : AV} : contW P once false ops Q rest e m (some dst) ⟨v, m', none⟩ = opsW P once false ops Q rest (e.set dst v) m' := by simp [contW, wbE, Env.put]
theorem contW_none' {m' : Mem} {rest : List Oper} {v : AV} : contW P once false ops Q rest e m none ⟨v, m', none⟩ = opsW P once false ops Q rest e m' := by simp [contW, wbE, Env.put]
theorem contW_wb {rest : List Oper} {dst : Option Nat} {v x : AV} {m' : Mem} {t : Nat} : contW P once false ops Q rest e m dst ⟨v, m', some (t, x)⟩ = opsW P once false ops Q rest ((e.set t x).put dst v) m' := by simp [contW, wbE]
theorem contW_same {rest : List Oper} {dst : Nat} {v : AV} : contW P once true ops Q rest e m (some dst) ⟨v, m, none⟩ = opsW P once true ops Q rest (e.set dst v) m := by simp [contW, wbE, Env.put, drawn]
theorem contW_same' {rest : List Oper} {v : AV} : contW P once true ops Q rest e m none ⟨v, m, none⟩ = opsW P once true ops Q rest e m := by simp [contW, wbE, Env.put, drawn]
/-- in a region that draws its order: memory is changed at a fixed place -/
theorem contW_fixed {rest : List Oper} {dst : Option Nat} {v : AV} {m' : Mem} (hf : fixedAt ops (ops.size - (rest.length + 1)) = true) (h : opsW P once true ops Q rest (e.put dst v) m') : contW P once true ops Q rest e m dst ⟨v, m', none⟩ := ⟨fun _ => ⟨rfl, .inl hf⟩, h⟩
theorem outW_some {o : Out} : outW (some o) K = K o := rfl
theorem outW_none : outW none K = False := rfl
theorem outW_O {v : AV} : outW (outO (some v) m) K = K ⟨v, m, none⟩ := rfl
theorem outW_V {v : AV} : outW (outV v m) K = K ⟨v, m, none⟩ := rfl
theorem outO_some {v : AV} : outO (some v) m = some ⟨v, m, none⟩ := rfl
theorem put_some {t : Nat} {v : AV} : e.put (some t) v = e.set t v := rfl
theorem put_none {v : AV} : e.put none v = e := rfl
theorem set_get {t j : Nat} {v : AV} : (e.set t v) j = if j = t then v else e j := rfl
theorem condW_bool {A B : Prop} {t : Bool} : condW A B (.val (.bool t)) = ((t = true → A) ∧ (t = false → B)) := rfl
theorem thenQ_normal {K : Env → Mem → Prop} : thenQ K R .normal e m = K e m := rfl
theorem thenQ_ret {K : Env → Mem → Prop} : thenQ K R .ret e m = R .ret e m := rfl
theorem thenQ_exit {K : Env → Mem → Prop} {id : Nat} : thenQ K R (.exit id) e m = R (.exit id) e m := rfl
theorem blockQ_normal {id : Nat} : blockQ id R .normal e m = R .normal e m := rfl
theorem blockQ_ret {id : Nat} : blockQ id R .ret e m = R .ret e m := rfl
theorem blockQ_exit {id id' : Nat} : blockQ id R (.exit id') e m = if id' = id then R .normal e m else R (.exit id') e m := rfl
theorem endQ_ret {rs : List ResultVar} {K : AV → Mem → Prop} : endQ P rs K .ret e m = match resultsE P rs e m with | some v => K v m | none => False := rfl
theorem endQ_normal {rs : List ResultVar} {K : AV → Mem → Prop} : endQ P rs K .normal e m = match resultsE P rs e m with | some v => K v m | none => False := rfl
theorem res1 {t : Tmp} : resultsE P [.tmp t] e m = some (e t) := rfl
theorem res2 {t u : Tmp} : resultsE P [.tmp t, .tmp u] e m = some (.tup [e t, e u]) := rfl
theorem res3 {t u x : Tmp} : resultsE P [.tmp t, .tmp u, .tmp x] e m = some (.tup [e t, e u, e x]) := rfl
theorem opd_tmp {t : Nat} : opd e (.tmp t) = e t := rfl
theorem entry_zero {a : AV} {l : List AV} : entryE (a :: l) 0 = a := rfl
theorem entry_succ {a : AV} {l : List AV} {n : Nat} : entryE (a :: l) (n + 1) = entryE l n := rfl
theorem entry_nil {n : Nat} : entryE [] n = undefA := rfl
theorem opd_const {v : Value} : opd e (.const v) = .val v := rfl
theorem opd_func {f : FuncId} : opd e (.func f) = .clo f [] := rfl

@[congr] theorem outW_congr {r r' : Option Out} (h : r = r') : outW r K = outW r' K := by rw [h]
@[congr] theorem calleeW_congr {args : List AV} {x x' : AV} (h : x = x') : calleeW P d m args K x = calleeW P d m args K x' := by rw [h]
theorem codeW_region {id : Nat} {ops : Array Oper} {d : Bool} : codeW P once n (.region id ops d) R e m = opsW P once d ops (R .normal) ops.toList e m := rfl
theorem codeW_seq {a b : Code} : codeW P once n (.seq a b) R e m = codeW P once n a (thenQ (codeW P once n b R) R) e m := rfl
theorem codeW_block {id : Nat} {b : Code} : codeW P once n (.block id b) R e m = codeW P once n b (blockQ id R) e m := rfl
theorem codeW_loop {b : Code} : codeW P once n (.loop b) R e m = loopW (codeW P once n b) R e m := rfl
theorem codeW_exit {id : Nat} : codeW P once n (.exit id) R e m = R (.exit id) e m := rfl
theorem codeW_ret : codeW P once n .ret R e m = R .ret e m := rfl
theorem codeW_skip : codeW P once n .skip R e m = R .normal e m := rfl
theorem stepW_move {once : Bool} {ty : TypeId} {x : Operand} : stepW P d once e m ty K (.move x) = K ⟨opd e x, m, none⟩ := rfl
theorem stepW_assign {once : Bool} {ty : TypeId} {x : Operand} : stepW P d once e m ty K (.assign x) = K ⟨opd e x, m, none⟩ := rfl
end

/-- the rules that go from the outside in -/
theorem pre : (type_of% @opsW_nil) ∧ (type_of% @opsW_plain1) ∧ (type_of% @opsW_guard) ∧ (type_of% @contW_none) ∧ (type_of% @contW_none') ∧ (type_of% @contW_same) ∧ (type_of% @contW_same') ∧ (type_of% @contW_wb) ∧ (type_of% @outW_O) ∧ (type_of% @outW_V) ∧ (type_of% @outW_some) ∧ (type_of% @thenQ_normal) ∧ (type_of% @thenQ_ret) ∧ (type_of% @thenQ_exit) ∧ (type_of% @blockQ_normal) ∧ (type_of% @blockQ_ret) ∧ (type_of% @blockQ_exit) ∧ (type_of% @endQ_ret) ∧ (type_of% @endQ_normal) ∧ (type_of% @res1) ∧ (type_of% @res2) ∧ (type_of% @res3) ∧ (type_of% @opd_tmp) ∧ (type_of% @opd_const) ∧ (type_of% @opd_func) ∧ (type_of% @set_get) ∧ (type_of% @put_some) ∧ (type_of% @entry_zero) ∧ (type_of% @entry_succ) ∧ (type_of% @entry_nil) ∧ (type_of% @put_none) ∧ (type_of% @dstAt_zero) ∧ (type_of% @dstAt_succ) ∧ (type_of% @envAt_some) ∧ (type_of% @guard_tt) ∧ (type_of% @guard_tf) ∧ (type_of% @guard_ft) ∧ (type_of% @guard_ff) ∧ (type_of% @guard_un) ∧ (type_of% @cond_t) ∧ (type_of% @cond_f) ∧ (type_of% @pick_t) ∧ (type_of% @pick_f) ∧ (type_of% @codeW_region) ∧ (type_of% @codeW_seq) ∧ (type_of% @codeW_cond) ∧ (type_of% @codeW_block) ∧ (type_of% @codeW_exit) ∧ (type_of% @codeW_ret) ∧ (type_of% @codeW_skip) ∧ (type_of% @stepW_move) ∧ (type_of% @stepW_assign) :=
  ⟨@opsW_nil, @opsW_plain1, @opsW_guard, @contW_none, @contW_none', @contW_same, @contW_same', @contW_wb, @outW_O, @outW_V, @outW_some, @thenQ_normal, @thenQ_ret, @thenQ_exit, @blockQ_normal, @blockQ_ret, @blockQ_exit, @endQ_ret, @endQ_normal, @res1, @res2, @res3, @opd_tmp, @opd_const, @opd_func, @set_get, @put_some, @entry_zero, @entry_succ, @entry_nil, @put_none, @dstAt_zero, @dstAt_succ, @envAt_some, @guard_tt, @guard_tf, @guard_ft, @guard_ff, @guard_un, @cond_t, @cond_f, @pick_t, @pick_f, @codeW_region, @codeW_seq, @codeW_cond, @codeW_block, @codeW_exit, @codeW_ret, @codeW_skip, @stepW_move, @stepW_assign⟩
end Go.Tw
