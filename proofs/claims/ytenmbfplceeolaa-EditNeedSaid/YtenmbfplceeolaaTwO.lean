/- Steps, regions in the order of the text, code: the abstract wp and its soundness. -/
import Derived.Test.YtenmbfplceeolaaTwN
import Derived.Deep.LoopGhost
set_option linter.unusedVariables false
set_option linter.unusedSimpArgs false
namespace Go.Tw
open Go

def outW (r : Option Out) (K : Out → Prop) : Prop := match r with
  | some o => K o
  | none => False

/-- a closed call -/
def callC (P : Program) (f : FuncId) (args : List AV) (m : Mem) (K : Out → Prop) : Prop :=
  ∃ args' r, lends 3 m args = some args' ∧ FSpec P f args' r ∧ (hasRefs args = false ∨ (scalar r.v = true ∧ r.rows = [])) ∧ K ⟨shift m.next r.v, pushAll m r.rows, none⟩
/-- an open one -/
def callO (P : Program) (f : FuncId) (args : List AV) (m : Mem) (K : Out → Prop) : Prop := OSpec P f args m fun v m' => K ⟨v, m', none⟩
def callW (P : Program) (d : Bool) (f : FuncId) (args : List AV) (m : Mem) (K : Out → Prop) : Prop := callC P f args m K ∨ (d = false ∧ callO P f args m K)

def calleeW (P : Program) (d : Bool) (m : Mem) (args : List AV) (K : Out → Prop) : AV → Prop
  | .clo g caps => callW P d g (args ++ caps) m K
  | _ => False

def stepW (P : Program) (d once : Bool) (e : Env) (m : Mem) (ty : TypeId) (K : Out → Prop) : Op → Prop
  | .call ⟨.builtin b, args, ts⟩ => outW (builtinE P m ts ty (args.toList.map (opd e)) b) K
  | .call ⟨.value f, args, _⟩ => calleeW P d m (args.toList.map (opd e)) K (opd e f)
  | .call _ => False
  | op => outW (opE P once e m op) K

def wbE (e : Env) : Option (Nat × AV) → Env
  | some (d, y) => e.set d y
  | none => e

/-! regions that draw their order -/
/-- operations whose answer does not hang on the memory -/
def pureOp : Op → Bool
  | .move _ | .assign _ | .pick .. | .binOp .. | .unOp .. | .nilCheck _ | .extract .. | .field .. | .fieldAddr .. | .indexAddr .. | .index .. => true
  | .call ⟨.builtin .len, _, _⟩ | .call ⟨.builtin .min, _, _⟩ | .call ⟨.builtin .max, _, _⟩ => true
  | _ => false
def binding (o : Oper) : List Nat := (o.after.toList.filter fun e => Region.binds .any e).map (·.on)
def just (ms : List Nat) (bs : List Nat) : Nat := bs.foldl (fun x b => x ||| (2 ^ b ||| ms.getD b 0)) 0
def masksOf : List Oper → List Nat → List Nat
  | [], acc => acc
  | o :: l, acc => masksOf l (acc ++ [just acc (binding o)])
def masks (ops : Array Oper) : List Nat := masksOf ops.toList []
/-- j is carried out ahead of i in every order -/
def bef (ms : List Nat) (j i : Nat) : Bool := (ms.getD i 0).testBit j
/-- against whatever looks at memory the operation's place is fixed -/
def fixedAt (ops : Array Oper) (i : Nat) : Bool := (List.range ops.size).all fun k => k == i || (match ops[k]? with | some o => pureOp o.op | none => true) || bef (masks ops) k i || bef (masks ops) i k
def drawn (ops : Array Oper) (k : Nat) (m : Mem) (out : Out) : Prop := out.wb = none ∧ (fixedAt ops (ops.size - k) = true ∨ out.m = m)

def opsW (P : Program) (once : Nat → Bool) (d : Bool) (ops : Array Oper) (Q : Env → Mem → Prop) : List Oper → Env → Mem → Prop
  | [], e, m => Q e m
  | o :: rest, e, m =>
    if wantE ops e o then stepW P d (once (o.dst.getD 0)) e m o.type (fun out => (d = true → drawn ops (rest.length + 1) m out) ∧ opsW P once d ops Q rest ((wbE e out.wb).put o.dst out.v) out.m) o.op
    else opsW P once d ops Q rest (e.put o.dst undefA) m

def thenQ (K : Env → Mem → Prop) (Q : Ex → Env → Mem → Prop) : Ex → Env → Mem → Prop
  | .normal, e, m => K e m
  | x, e, m => Q x e m
def blockQ (id : Nat) (Q : Ex → Env → Mem → Prop) : Ex → Env → Mem → Prop
  | .exit id', e, m => if id' = id then Q .normal e m else Q (.exit id') e m
  | x, e, m => Q x e m

def condW (A B : Prop) : AV → Prop
  | .val (.bool t) => (t = true → A) ∧ (t = false → B)
  | _ => False

def loopW (body : (Ex → Env → Mem → Prop) → Env → Mem → Prop) (Q : Ex → Env → Mem → Prop) (e : Env) (m : Mem) : Prop :=
  ∃ (J : Nat → Env → Mem → Prop) (n : Nat), J n e m ∧ ∀ n e m, J n e m → body (thenQ (fun e' m' => ∃ n', n' < n ∧ J n' e' m') Q) e m

def regOk (n : Nat) (ops : Array Oper) : Bool := ops.all fun o => match o.dst with
  | some d => decide (d < n)
  | none => true

section
variable {P : Program}

theorem wanted_eq {w : World} {I : Nat → Prop} {ρ : Real} {ops : Array Oper} {e : Env} {a : Act} (he : ER P w I ρ e a) (o : Oper) : Region.wanted o (yielded ops a.tmps) = wantE ops e o := by
  unfold Region.wanted wantE
  cases o.guard with
  | none => rfl
  | some g =>
    obtain ⟨j, want⟩ := g
    simp only [yielded]
    cases (ops[j]?).bind (·.dst) with
    | none => rfl
    | some d =>
      simp only [Option.bind_some]
      have hd := he d
      rw [Array.getD_eq_getD_getElem?] at hd
      cases hq : a.tmps[d]? with
      | none =>
        rw [hq] at hd
        simp only [Option.getD_none] at hd
        have hne : ∀ b, e d ≠ .val (.bool b) := fun b hb => by rw [hb] at hd; simp [VR, undef] at hd
        split
        · rename_i hcontra; cases hcontra
        · split
          · rename_i b hb; exact absurd hb (hne b)
          · rfl
      | some v =>
        rw [hq] at hd
        simp only [Option.getD_some] at hd
        cases v with
        | bool b =>
          have := VR_bool hd
          rw [this]
          simp
        | _ =>
          simp only
          split
          · rename_i b hb; rw [hb] at hd; simp [VR] at hd
          · rfl

/-- the operation and its value's place -/
def Good (P : Program) (w : World) (I : Nat → Prop) (ρ : Real) (m : Mem) (a : Act) (o : Oper) (K : Out → Prop) (next : Act → World → Prop) : Prop :=
  ∀ out v w' I' ρ', K out → VR P w' I' ρ' out.v v → SR P w' I' ρ' out.m → Step w I ρ m w' I' ρ' out.m → (∀ d y, out.wb = some (d, y) → VR P w' I' ρ' y (a.tmps.getD d undef)) → (∀ b, out.m.next ≤ b → ρ' b = none) → next (a.put o.dst v) w'

theorem free_step {w w' : World} {I I' : Nat → Prop} {ρ ρ' : Real} {m m' : Mem} (s : Step w I ρ m w' I' ρ' m') (h : ∀ b, m.next ≤ b → ρ b = none) : ∀ b, m'.next ≤ b → ρ' b = none := by
  intro b hb
  cases hq : ρ' b with
  | none => rfl
  | some x =>
    have := s.lo b (h b (Nat.le_trans s.next hb)) (by rw [hq]; simp)
    omega

theorem wp_of_yields {w : World} {I : Nat → Prop} {ρ : Real} {m : Mem} {a : Act} {o : Oper} {out : Out} {K : Out → Prop} {next : Act → World → Prop} {Q : Exit → Act → World → Prop} (h : Yields P w I ρ m a ((execOp a.eval o).run P w) out) (hK : K out)
    (hfree : ∀ b, m.next ≤ b → ρ b = none) (hg : Good P w I ρ m a o K next) : o.wp P a w next Q := by
  obtain ⟨v, w', I', ρ', h1, h2, h3, h4, h5⟩ := h
  have := hg out v w' I' ρ' hK h2 h3 h4 h5 (free_step h4 hfree)
  unfold Oper.wp
  rcases h1 with h1 | ⟨h1, h6⟩
  · rw [h1, Oper.upon_value]; exact this
  · rw [h1, Oper.upon_skip, ← h6]; exact this

theorem lends_len {m : Mem} {k : Nat} {cs cs' : List AV} (h : lends k m cs = some cs') : cs'.length = cs.length := (lends_spec k cs cs' h).1

theorem args_VRs {w : World} {I : Nat → Prop} {ρ : Real} {e : Env} {a : Act} (he : ER P w I ρ e a) (args : Array Operand) {caps : List AV} {vcaps : Array Value} (hc : VRs P w I ρ caps (fun j => vcaps[j]?)) (hs : vcaps.size = caps.length) :
    (args.map a.eval ++ vcaps).size = (args.toList.map (opd e) ++ caps).length ∧ VRs P w I ρ (args.toList.map (opd e) ++ caps) (fun j => (args.map a.eval ++ vcaps)[j]?) := by
  refine ⟨by simp [hs], VRs_iff.2 fun j c hj => ?_⟩
  rcases Nat.lt_or_ge j args.size with h | h
  · rw [List.getElem?_append_left (by simpa using h), List.getElem?_map] at hj
    obtain ⟨x, hx, rfl⟩ := Option.map_eq_some_iff.1 hj
    refine ⟨a.eval x, ?_, opd_eval he x⟩
    rw [Array.getElem?_append_left (by simpa using h)]
    simp at hx
    simp [hx]
  · rw [List.getElem?_append_right (by simpa using h)] at hj
    obtain ⟨v, h1, h2⟩ := VRs_at hc hj
    refine ⟨v, ?_, h2⟩
    rw [Array.getElem?_append_right (by simpa using h)]
    simpa using h1

theorem upon_call {w : World} {a : Act} {dst : Option Tmp} {ty : TypeId} {pos : String} {after : Array Edge} {guard : Option (Nat × Bool)} {f : Operand} {args : Array Operand} {ts : Array TypeId} {g : FuncId} {vcaps : Array Value} {next : Act → World → Prop} {Q : Exit → Act → World → Prop}
    (hf : a.eval f = .func (.func g) #[] vcaps) (hc : callable P g = true) (h : Calls P g (args.map a.eval ++ vcaps) w fun e w' => match e with | .returned v => next (a.put dst v) w' | _ => False) :
    Oper.wp P { dst := dst, op := .call { callee := .value f, args := args, argTypes := ts }, type := ty, pos := pos, after := after, guard := guard } a w next Q := by
  unfold callable at hc
  split at hc
  · rename_i fn hfn
    simp only [Bool.and_eq_true, bne_iff_ne, ne_eq] at hc
    obtain ⟨h1, h2⟩ := hc
    have hb : fn.body.isNone = false := by cases hq : fn.body <;> simp_all
    have hrun : (execOp a.eval { dst := dst, op := .call { callee := .value f, args := args, argTypes := ts }, type := ty, pos := pos, after := after, guard := guard }).run P w = .ok (.enter g (args.map a.eval ++ vcaps)) w := by
      have hb' : ¬ fn.body = none := fun h => by rw [h] at h2; cases h2
      simp [execOp, resolve, hf, Deferred.ofValue, invoke, callFunc, hfn, h1, hb']
    unfold Oper.wp
    rw [hrun, Oper.upon_enter]
    exact h.mono fun e w' hq => by
      cases e with
      | returned v => exact hq
      | panicked c => exact hq.elim
      | outgrown => exact hq.elim
  · cases hc

theorem builtinE_sound {w : World} {I : Nat → Prop} {ρ : Real} {m : Mem} (hS : SR P w I ρ m) {e : Env} {a : Act} (he : ER P w I ρ e a) {b : Builtin} {args : Array Operand} {ts : Array TypeId} {ty : TypeId} {out : Out} (h : builtinE P m ts ty (args.toList.map (opd e)) b = some out)
    (hfree : ∀ b, m.next ≤ b → b < out.m.next → ρ b = none) (consts : Array Bool) : Yields P w I ρ m a ((builtin b ts ty consts (args.map a.eval)).run P w) out := by
  obtain ⟨args⟩ := args
  obtain ⟨ts⟩ := ts
  cases b <;> simp only [builtinE] at h <;> try (cases h; done)
  case append =>
    split at h
    · rename_i t t2 s x h2
      obtain ⟨o1, o2, ho⟩ : ∃ o1 o2, args = [o1, o2] := by
        match args, h2 with
        | [o1, o2], _ => exact ⟨o1, o2, rfl⟩
      subst ho
      simp only [List.map_cons, List.map_nil, List.cons.injEq, and_true] at h2
      obtain ⟨rfl, rfl⟩ := h2
      split at h
      · rename_i hn
        obtain ⟨el, hel, h⟩ := Option.bind_eq_some_iff.1 h
        have hd := appE_sound (ty := ty) (addr := undef) hS hel hn h hfree (opd_eval he o1) (opd_eval he o2)
        have em : Array.map a.eval ⟨[o1, o2]⟩ = #[a.eval o1, a.eval o2] := by simp
        rw [em]
        refine Yields.of_does (s := Builtin.append_ #[t, t2] ty #[a.eval o1, a.eval o2]) hd (fun d y hw => ?_)
        unfold appE at h
        obtain ⟨_, _, h⟩ := Option.bind_eq_some_iff.1 h
        obtain ⟨_, _, h⟩ := Option.bind_eq_some_iff.1 h
        obtain ⟨_, _, h⟩ := Option.bind_eq_some_iff.1 h
        obtain ⟨_, _, h⟩ := Option.bind_eq_some_iff.1 h
        obtain ⟨_, _, h⟩ := Option.bind_eq_some_iff.1 h
        split at h
        · split at h
          · split at h
            · simp only [outV, Option.some.injEq] at h; subst h; cases hw
            · split at h
              · simp only [outV, Option.some.injEq] at h; subst h; cases hw
              · cases h
          · split at h
            · obtain ⟨_, _, h⟩ := Option.bind_eq_some_iff.1 h
              split at h
              · simp only [outV, Option.some.injEq] at h; subst h; cases hw
              · cases h
            · cases h
        · cases h
      · cases h
    · cases h
  case copy =>
    split at h
    · rename_i t trest d x h2
      obtain ⟨o1, o2, ho⟩ : ∃ o1 o2, args = [o1, o2] := by
        match args, h2 with
        | [o1, o2], _ => exact ⟨o1, o2, rfl⟩
      subst ho
      simp only [List.map_cons, List.map_nil, List.cons.injEq, and_true] at h2
      obtain ⟨rfl, rfl⟩ := h2
      obtain ⟨el, hel, h⟩ := Option.bind_eq_some_iff.1 h
      have hd := copyE_sound (ts := trest) (ty := ty) (addr := undef) hS hel h (opd_eval he o1) (opd_eval he o2)
      have em : Array.map a.eval ⟨[o1, o2]⟩ = #[a.eval o1, a.eval o2] := by simp
      rw [em]
      refine Yields.of_does (s := Builtin.copy_ (t :: trest).toArray ty #[a.eval o1, a.eval o2]) hd (fun d y hw => ?_)
      unfold copyE at h
      obtain ⟨_, _, h⟩ := Option.bind_eq_some_iff.1 h
      obtain ⟨_, _, h⟩ := Option.bind_eq_some_iff.1 h
      split at h
      · obtain ⟨_, _, h⟩ := Option.bind_eq_some_iff.1 h
        split at h
        · simp only [outV, Option.some.injEq] at h; subst h; cases hw
        · cases h
      · obtain ⟨_, _, h⟩ := Option.bind_eq_some_iff.1 h
        split at h
        · simp only [outV, Option.some.injEq] at h; subst h; cases hw
        · cases h
    · cases h
  case len =>
    split at h
    · rename_i t x h2
      obtain ⟨o1, ho⟩ : ∃ o1, args = [o1] := by
        match args, h2 with
        | [o1], _ => exact ⟨o1, rfl⟩
      subst ho
      simp only [List.map_cons, List.map_nil, List.cons.injEq, and_true] at h2
      subst h2
      have := Yields.of_pur (a := a) (s := Builtin.len_ #[t] ty #[a.eval o1]) hS h fun av hav => lenE_sound hav (opd_eval he o1)
      have em : Array.map a.eval ⟨[o1]⟩ = #[a.eval o1] := by simp
      rw [em]
      exact this
    · cases h
  case max =>
    obtain ⟨vs, hvs, h⟩ := Option.bind_eq_some_iff.1 h
    have hq := toVals_eq (P := P) (w := w) (I := I) (ρ := ρ) _ vs (fun j => (args.map a.eval)[j]?) hvs (VRs_iff.2 fun j c hj => by
      rw [List.getElem?_map] at hj
      obtain ⟨x, hx, rfl⟩ := Option.map_eq_some_iff.1 hj
      exact ⟨a.eval x, by simp [hx], opd_eval he x⟩)
    have hvl : vs = args.map a.eval := by
      apply List.ext_getElem?
      intro j
      rcases Nat.lt_or_ge j args.length with hl | hl
      · rw [← hq.2 j (by simpa using hl)]
      · rw [List.getElem?_eq_none (by rw [hq.1]; simpa using hl), List.getElem?_eq_none (by simpa using hl)]
    have := Yields.of_pur (a := a) (s := Builtin.max_ ⟨ts⟩ ty vs.toArray) hS h fun av hav => by
      obtain ⟨z, hz, rfl⟩ := Option.map_eq_some_iff.1 hav
      exact ⟨z, pureR_run P _ _ hz w, by simp only [VR]⟩
    rw [hvl] at this
    have e : (List.map a.eval args).toArray = Array.map a.eval ⟨args⟩ := by simp
    rw [e] at this
    exact this
  case min =>
    obtain ⟨vs, hvs, h⟩ := Option.bind_eq_some_iff.1 h
    have hq := toVals_eq (P := P) (w := w) (I := I) (ρ := ρ) _ vs (fun j => (args.map a.eval)[j]?) hvs (VRs_iff.2 fun j c hj => by
      rw [List.getElem?_map] at hj
      obtain ⟨x, hx, rfl⟩ := Option.map_eq_some_iff.1 hj
      exact ⟨a.eval x, by simp [hx], opd_eval he x⟩)
    have hvl : vs = args.map a.eval := by
      apply List.ext_getElem?
      intro j
      rcases Nat.lt_or_ge j args.length with hl | hl
      · rw [← hq.2 j (by simpa using hl)]
      · rw [List.getElem?_eq_none (by rw [hq.1]; simpa using hl), List.getElem?_eq_none (by simpa using hl)]
    have := Yields.of_pur (a := a) (s := Builtin.min_ ⟨ts⟩ ty vs.toArray) hS h fun av hav => by
      obtain ⟨z, hz, rfl⟩ := Option.map_eq_some_iff.1 hav
      exact ⟨z, pureR_run P _ _ hz w, by simp only [VR]⟩
    rw [hvl] at this
    have e : (List.map a.eval args).toArray = Array.map a.eval ⟨args⟩ := by simp
    rw [e] at this
    exact this

theorem stepW_sound {w : World} {I : Nat → Prop} {ρ : Real} {m : Mem} (hS : SR P w I ρ m) {d once : Bool} {e : Env} {a : Act} (he : ER P w I ρ e a) {o : Oper} {K : Out → Prop} (h : stepW P d once e m o.type K o.op) (hfree : ∀ b, m.next ≤ b → ρ b = none)
    {next : Act → World → Prop} {Q : Exit → Act → World → Prop} (hg : Good P w I ρ m a o K next) : o.wp P a w next Q := by
  have plain : outW (opE P once e m o.op) K → o.wp P a w next Q := by
    intro h
    unfold outW at h
    split at h
    · rename_i out ho
      exact wp_of_yields (opE_sound hS he ho (fun b h1 _ => hfree b h1)) h hfree hg
    · exact h.elim
  obtain ⟨dst, op, type, pos, after, guard⟩ := o
  cases op <;> try (exact plain h)
  case call c =>
    obtain ⟨callee, args, ts⟩ := c
    cases callee with
    | invoke r n => exact h.elim
    | builtin b =>
      simp only [stepW] at h
      unfold outW at h
      split at h
      · rename_i out ho
        refine wp_of_yields ?_ h hfree hg
        simp only [execOp, resolve, pure_bind, invoke]
        exact builtinE_sound hS he ho (fun b h1 _ => hfree b h1) _
      · exact h.elim
    | value f =>
      simp only [stepW] at h
      have hfv := opd_eval he f
      unfold calleeW at h
      split at h
      · rename_i g caps hcl
        rw [hcl] at hfv
        simp only [VR] at hfv
        obtain ⟨vcaps, hf, hcs, hcv⟩ := hfv
        obtain ⟨hsz, hargs⟩ := args_VRs he args hcv hcs
        rcases h with ⟨args', r, h1, h2, h3, h4⟩ | ⟨_, h⟩
        · -- closed
          refine upon_call hf h2.1 ?_
          rcases h3 with h3 | ⟨h3, h5⟩
          · have hargs' := noRef_VRs _ _ h3 hargs
            have e1 := noRef_lends 3 _ _ h3 h1
            subst e1
            refine (h2.2 w I _ hS.lt hsz hargs').mono ?_
            rintro en w' ⟨v, I', ρ', rfl, q1, q2, q3⟩
            have hnoWr : ∀ g, ¬ Wr noneR Mem.empty g := by rintro g ⟨b, k, o, h1, _⟩; simp [Mem.empty] at h1
            have hback : ∀ g, I' g → I g ∨ w.heap.size ≤ g := fun g hg => by
              rcases q3.back g hg with h | h | h
              · exact .inl h
              · exact absurd h (hnoWr g)
              · exact .inr h
            obtain ⟨I'', i1, i2, i3⟩ := merge hS (fun _ h => h) (fun b hb _ => hfree b hb) q2 q3 (.inl hback)
            refine hg _ v w' I'' _ h4 ?_ i2 i3 (fun d y h => by cases h) (free_step i3 hfree)
            have hk : ∀ b x, ρ' b = some x → b < r.rows.length := fun b x h => by
              have := q3.lo b rfl (by rw [h]; simp)
              rw [pushAll_next] at this
              simp [Mem.empty] at this
              exact this
            refine VR_keep (⟨fun g hg => (i1 g).2 ((hback g hg).imp id fun h => ⟨hg, h⟩), fun _ _ => rfl, fun _ _ h => h⟩ : Keeps w' w' I' I'') (fun _ _ h => h) _ _ (shift_VR hk r.v v q1)
          · have hargs' := lends_sound hS 3 _ _ _ h1 hargs
            refine (h2.2 w (allI w) _ (fun _ h => h) (by rw [hsz, lends_len h1]) hargs').mono ?_
            rintro en w' ⟨v, I', ρ', rfl, q1, q2, q3⟩
            obtain ⟨I'', i1, i2, i3⟩ := merge hS (fun g hg => hS.lt g hg) (fun b hb _ => hfree b hb) q2 q3 (.inr h5)
            refine hg _ v w' I'' _ h4 ?_ i2 i3 (fun d y h => by cases h) (free_step i3 hfree)
            exact scalar_VR r.v v h3 q1
        · -- open
          refine upon_call hf h.1 ?_
          refine (h.2 w I ρ _ hS hsz hargs hfree).mono ?_
          rintro en w' ⟨v, r, m', I', ρ', rfl, q0, q1, q2, q3, q4⟩
          exact hg _ v w' I' ρ' q0 q1 q2 q3 (fun d y h => by cases h) q4
      · exact h.elim
end
end Go.Tw
