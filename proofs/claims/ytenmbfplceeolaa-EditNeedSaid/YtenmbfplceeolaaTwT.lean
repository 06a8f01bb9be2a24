/- Rules for single operations on plain values. -/
import Derived.Test.YtenmbfplceeolaaTwS
set_option linter.unusedVariables false
set_option linter.unusedSimpArgs false
namespace Go.Tw
open Go

section
variable {P : Program} {t : TypeId} {x y : Operand} {k : IntKind} {a b : Int}
theorem bin_int (op : BinOp) : binE P op t x y (.val (.int k a)) (.val (.int k b)) = ((pureR P (binOp op t (.int k a) (.int k b))).map .val) := by
  simp [binE, binV, eqGuard_at_int]
theorem bin_lss : binE P .lss t x y (.val (.int k a)) (.val (.int k b)) = some (.val (.bool (decide (a < b)))) := by
  simp [bin_int, binOp, Op.intCmp, pureR, Bind.bind, Sem.bind, Pure.pure]
theorem bin_leq : binE P .leq t x y (.val (.int k a)) (.val (.int k b)) = some (.val (.bool (decide (a ≤ b)))) := by
  simp [bin_int, binOp, Op.intCmp, pureR, Bind.bind, Sem.bind, Pure.pure]
theorem bin_gtr : binE P .gtr t x y (.val (.int k a)) (.val (.int k b)) = some (.val (.bool (decide (b < a)))) := by
  simp [bin_int, binOp, Op.intCmp, pureR, Bind.bind, Sem.bind, Pure.pure]
theorem bin_geq : binE P .geq t x y (.val (.int k a)) (.val (.int k b)) = some (.val (.bool (decide (b ≤ a)))) := by
  simp [bin_int, binOp, Op.intCmp, pureR, Bind.bind, Sem.bind, Pure.pure]
theorem bin_eql : binE P .eql t x y (.val (.int k a)) (.val (.int k b)) = some (.val (.bool (decide (a = b)))) := by
  have : (a == b) = decide (a = b) := by by_cases h : a = b <;> simp [h]
  simp [bin_int, binOp, Op.intCmp, pureR, Bind.bind, Sem.bind, Pure.pure, this]
theorem bin_neq : binE P .neq t x y (.val (.int k a)) (.val (.int k b)) = some (.val (.bool (!decide (a = b)))) := by
  have : (a != b) = !decide (a = b) := by by_cases h : a = b <;> simp [h]
  simp [bin_int, binOp, Op.intCmp, pureR, Bind.bind, Sem.bind, Pure.pure, this]
theorem bin_add : binE P .add t x y (.val (.int k a)) (.val (.int k b)) = some (.val (.int k (k.wrap (a + b)))) := by
  simp [bin_int, binOp, Op.intArith, pureR, Bind.bind, Sem.bind, Pure.pure]
theorem bin_sub : binE P .sub t x y (.val (.int k a)) (.val (.int k b)) = some (.val (.int k (k.wrap (a - b)))) := by
  simp [bin_int, binOp, Op.intArith, pureR, Bind.bind, Sem.bind, Pure.pure]
theorem bin_mul : binE P .mul t x y (.val (.int k a)) (.val (.int k b)) = some (.val (.int k (k.wrap (a * b)))) := by
  simp [bin_int, binOp, Op.intArith, pureR, Bind.bind, Sem.bind, Pure.pure]
theorem bin_quo (hb : b ≠ 0) : binE P .quo t x y (.val (.int k a)) (.val (.int k b)) = some (.val (.int k (k.wrap (a.tdiv b)))) := by
  simp [bin_int, binOp, Op.intDiv, pureR, Bind.bind, Sem.bind, Pure.pure, hb]
theorem bin_rem (hb : b ≠ 0) : binE P .rem t x y (.val (.int k a)) (.val (.int k b)) = some (.val (.int k (a.tmod b))) := by
  simp [bin_int, binOp, Op.intDiv, pureR, Bind.bind, Sem.bind, Pure.pure, hb]
theorem un_not {c : Bool} : unE P .not (.val (.bool c)) = some (.val (.bool !c)) := by
  simp [unE, Op.unary, pureR, Bind.bind, Sem.bind, Pure.pure]
end

section
variable {P : Program} {d : Bool} {m : Mem} {K : Out → Prop} {f : FuncId}
theorem callee_clo {args : List AV} : calleeW P d m args K (.clo f []) = callW P d f args m K := by simp [calleeW]
mutual
def plain : AV → Bool
  | .val _ | .tree .. | .tptr .. | .emp .. => true
  | .agg cs => plains cs
  | .clo _ cs => plains cs
  | _ => false
def plains : List AV → Bool
  | [] => true
  | c :: cs => plain c && plains cs
end
mutual
theorem plain_lend : ∀ (k : Nat) (v : AV), plain v = true → lend k m v = some v ∧ hasRef v = false
  | k, .val v, h => by unfold lend; simp [hasRef]
  | k, .tree _ _ _ _, h => by unfold lend; simp [hasRef]
  | k, .tptr _ _, h => by unfold lend; simp [hasRef]
  | k, .emp _ _, h => by unfold lend; simp [hasRef]
  | k, .agg cs, h => by
    simp only [plain] at h
    unfold lend
    simp [hasRef, (plain_lends k cs h).1, (plain_lends k cs h).2]
  | k, .clo f cs, h => by
    simp only [plain] at h
    unfold lend
    simp [hasRef, (plain_lends k cs h).1, (plain_lends k cs h).2]
  | k, .tup _, h => by simp [plain] at h
  | k, .sl _ _ _ _ _, h => by simp [plain] at h
  | k, .ptr _ _, h => by simp [plain] at h
theorem plain_lends : ∀ (k : Nat) (v : List AV), plains v = true → lends k m v = some v ∧ hasRefs v = false
  | k, [], h => by unfold lends; simp [hasRefs]
  | k, c :: cs, h => by
    simp only [plains, Bool.and_eq_true] at h
    unfold lends
    simp [hasRefs, plain_lend k c h.1, plain_lends k cs h.2]
end
theorem call_plain {args : List AV} {r : Res} (h : FSpec P f args r) (hp : plains args = true) (hk : K ⟨shift m.next r.v, pushAll m r.rows, none⟩) : callW P d f args m K :=
  .inl ⟨args, r, (plain_lends 3 args hp).1, h, .inl (plain_lends (m := m) 3 args hp).2, hk⟩
theorem call_lent {args args' : List AV} {r : Res} (h : FSpec P f args' r) (hl : lends 3 m args = some args') (hs : scalar r.v = true) (hw : r.rows = []) (hk : K ⟨shift m.next r.v, m, none⟩) : callW P d f args m K :=
  .inl ⟨args', r, hl, h, .inr ⟨hs, hw⟩, by rw [hw]; exact hk⟩
end

theorem bool_fin {a b : Bool} (h : a = true ↔ b = true) : (some ⟨.val (.bool a), []⟩ : Option Res) = some ⟨boolV b, []⟩ := by
  have : a = b := by cases a <;> cases b <;> simp_all
  rw [this]; rfl
theorem min2 {P : Program} {m : Mem} {ts : Array TypeId} {ty : TypeId} {k : IntKind} {a b : Int} : builtinE P m ts ty [.val (.int k a), .val (.int k b)] .min = some ⟨.val (.int k (min a b)), m, none⟩ := by
  have : (if b < a then b else a) = min a b := by omega
  simp [builtinE, toVals, toVal, Builtin.min_, Builtin.min2, pureR, outO, Bind.bind, Sem.bind, Pure.pure, this]
theorem max2 {P : Program} {m : Mem} {ts : Array TypeId} {ty : TypeId} {k : IntKind} {a b : Int} : builtinE P m ts ty [.val (.int k a), .val (.int k b)] .max = some ⟨.val (.int k (max a b)), m, none⟩ := by
  have : (if b > a then b else a) = max a b := by omega
  simp [builtinE, toVals, toVal, Builtin.max_, Builtin.max2, pureR, outO, Bind.bind, Sem.bind, Pure.pure, this]
/-- a fact that the simplifier does not look into -/
structure Hid (p : Prop) : Prop where
  out : p
/-- the rules of operations -/
theorem post : (type_of% @min2) ∧ (type_of% @max2) ∧ (type_of% @callee_clo) ∧ (type_of% @bin_lss) ∧ (type_of% @bin_leq) ∧ (type_of% @bin_gtr) ∧ (type_of% @bin_geq) ∧ (type_of% @bin_eql) ∧ (type_of% @bin_neq) ∧ (type_of% @bin_add) ∧ (type_of% @bin_sub) ∧ (type_of% @bin_mul) ∧ (type_of% @un_not) :=
  ⟨@min2, @max2, @callee_clo, @bin_lss, @bin_leq, @bin_gtr, @bin_geq, @bin_eql, @bin_neq, @bin_add, @bin_sub, @bin_mul, @un_not⟩
end Go.Tw
