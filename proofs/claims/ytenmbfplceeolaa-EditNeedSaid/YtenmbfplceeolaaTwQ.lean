/- Regions that draw their order are carried out as in the order of the text. -/
import Derived.Test.YtenmbfplceeolaaTwP
set_option linter.unusedVariables false
set_option linter.unusedSimpArgs false
namespace Go.Tw
open Go

section
variable {P : Program}

theorem outW_some_iff {r : Option Out} {K : Out → Prop} (h : outW r K) : ∃ out, r = some out ∧ K out := by
  unfold outW at h
  split at h
  · rename_i o; exact ⟨o, rfl, h⟩
  · exact h.elim

theorem stepW_out {c : Bool} {e : Env} {m : Mem} {ty : TypeId} {K : Out → Prop} {op : Op} (h : stepW P true c e m ty K op) : ∃ out, K out ∧ stepW P true c e m ty (fun x => x = out) op := by
  have pl : outW (opE P c e m op) K → ∃ out, K out ∧ outW (opE P c e m op) (fun x => x = out) := by
    intro h
    obtain ⟨out, h1, h2⟩ := outW_some_iff h
    exact ⟨out, h2, by rw [h1]; rfl⟩
  cases op <;> try (exact pl h)
  case call c =>
    obtain ⟨callee, args, ts⟩ := c
    cases callee with
    | invoke r n => exact h.elim
    | builtin b =>
      simp only [stepW] at h ⊢
      obtain ⟨out, h1, h2⟩ := outW_some_iff h
      exact ⟨out, h2, by rw [h1]; rfl⟩
    | value f =>
      simp only [stepW] at h ⊢
      unfold calleeW at h
      split at h
      · rename_i g caps hcl
        rcases h with ⟨args', r, h1, h2, h3, h4⟩ | ⟨h, _⟩
        · refine ⟨_, h4, ?_⟩
          simp only [hcl, calleeW]
          exact .inl ⟨args', r, h1, h2, h3, rfl⟩
        · cases h
      · exact h.elim

theorem opd_tmps {e e' : Env} {x : Operand} (h : ∀ t, x = .tmp t → e' t = e t) : opd e' x = opd e x := by
  cases x with
  | tmp t => exact h t rfl
  | const v => rfl
  | global g => rfl
  | func f => rfl

theorem map_opd {e e' : Env} {l : List Operand} (h : ∀ x ∈ l, opd e' x = opd e x) : l.map (opd e') = l.map (opd e) := List.map_congr_left h
theorem map_parts {e e' : Env} {l : List (Nat × Operand)} (h : ∀ x ∈ l.map (·.2), opd e' x = opd e x) : l.map (fun p => (p.1, opd e' p.2)) = l.map (fun p => (p.1, opd e p.2)) :=
  List.map_congr_left fun p hp => by rw [h p.2 (List.mem_map_of_mem hp)]
theorem map_opt {e e' : Env} {o : Option Operand} (h : ∀ x, o = some x → opd e' x = opd e x) : o.map (opd e') = o.map (opd e) := by
  cases o with
  | none => rfl
  | some x => simp [h x rfl]

theorem stepW_env {d c : Bool} {e e' : Env} {m : Mem} {ty : TypeId} {K : Out → Prop} {op : Op} (h : ∀ x ∈ op.operands.toList, opd e' x = opd e x) (hs : stepW P d c e m ty K op) : stepW P d c e' m ty K op := by
  cases op <;> simp only [Op.operands, Call.operands] at h <;> simp only [stepW, opE] at hs ⊢
  case call cl =>
    obtain ⟨callee, args, ts⟩ := cl
    cases callee with
    | invoke r n => exact hs.elim
    | builtin b =>
      simp only [stepW] at hs ⊢
      rw [map_opd (fun x hx => h x (by simpa using hx))]
      exact hs
    | value f =>
      simp only [stepW] at hs ⊢
      rw [map_opd (fun x hx => h x (by simp at hx ⊢; exact .inr hx)), h f (by simp)]
      exact hs
  case build t parts => rw [map_parts (fun x hx => h x (by simpa using hx))]; exact hs
  case buildSlice t n parts => rw [map_parts (fun x hx => h x (by simpa using hx))]; exact hs
  case slice t x l hi mx =>
    rw [h x (by simp), map_opt (fun y hy => h y (by subst hy; simp)), map_opt (o := hi) (fun y hy => h y (by subst hy; simp)), map_opt (o := mx) (fun y hy => h y (by subst hy; simp))]
    exact hs
  case makeFunc fn first caps =>
    cases fn <;> simp only [opE] at hs ⊢
    case func f =>
      rw [map_opd (fun x hx => h x (by simp at hx ⊢; exact .inr hx))]
      exact hs
    all_goals exact hs
  all_goals first
    | exact hs
    | (simp at h; simp only [h]; exact hs)

theorem pure_mem {c : Bool} {e : Env} {m m' : Mem} {ty : TypeId} {op : Op} {out : Out} (hp : pureOp op = true) (h : stepW P true c e m ty (fun x => x = out) op) : out.m = m ∧ stepW P true c e m' ty (fun x => x = ⟨out.v, m', none⟩) op := by
  have po : ∀ x : Option AV, outW (outO x m) (fun x => x = out) → out.m = m ∧ outW (outO x m') (fun y => y = ⟨out.v, m', none⟩) := by
    intro x h
    cases x with
    | none => exact h.elim
    | some v => have h : (⟨v, m, none⟩ : Out) = out := h; subst h; exact ⟨rfl, rfl⟩
  have pi : ∀ (i : Option Nat) (f : Nat → Option AV), outW (i.bind fun k => outO (f k) m) (fun x => x = out) → out.m = m ∧ outW (i.bind fun k => outO (f k) m') (fun y => y = ⟨out.v, m', none⟩) := by
    intro i f h
    cases i with
    | none => exact h.elim
    | some k => exact po _ h
  cases op <;> simp only [pureOp, Bool.false_eq_true] at hp <;> simp only [stepW, opE] at h ⊢
  case call cl =>
    obtain ⟨callee, args, ts⟩ := cl
    cases callee with
    | invoke r n => cases hp
    | value f => cases hp
    | builtin b =>
      simp only [stepW] at h ⊢
      cases b <;> simp only [Bool.false_eq_true] at hp <;> simp only [builtinE] at h ⊢
      case len =>
        split at h
        · exact po _ h
        · exact h.elim
      case max =>
        cases hv : toVals (args.toList.map (opd e)) with
        | none => rw [hv] at h; exact h.elim
        | some vs => rw [hv] at h ; exact po _ h
      case min =>
        cases hv : toVals (args.toList.map (opd e)) with
        | none => rw [hv] at h; exact h.elim
        | some vs => rw [hv] at h ; exact po _ h
  all_goals first
    | exact po (some _) h
    | exact po _ h
    | exact pi _ _ h

theorem just_bit {ms bs : List Nat} {j : Nat} (h : (just ms bs).testBit j = true) : ∃ b ∈ bs, b = j ∨ (ms.getD b 0).testBit j = true := by
  have go : ∀ (bs : List Nat) (x : Nat), (bs.foldl (fun x b => x ||| (2 ^ b ||| ms.getD b 0)) x).testBit j = true → x.testBit j = true ∨ ∃ b ∈ bs, b = j ∨ (ms.getD b 0).testBit j = true := by
    intro bs
    induction bs with
    | nil => intro x h; exact .inl h
    | cons b bs ih =>
      intro x h
      rcases ih _ h with h | ⟨b', h1, h2⟩
      · rw [Nat.testBit_or, Nat.testBit_or, Nat.testBit_two_pow, Bool.or_eq_true, Bool.or_eq_true, decide_eq_true_eq] at h
        rcases h with h | h
        · exact .inl h
        · exact .inr ⟨b, by simp, h⟩
      · exact .inr ⟨b', by simp [h1], h2⟩
  rcases go bs 0 h with h | h
  · simp at h
  · exact h

structure DrawOk (ops : Array Oper) : Prop where
  lt : ∀ i o, ops[i]? = some o → ∀ b ∈ binding o, b < i
  bit : ∀ i o, ops[i]? = some o → ∀ j, bef (masks ops) j i = true → ∃ b ∈ binding o, b = j ∨ bef (masks ops) j b = true
  dst : ∀ i j t, dstOf ops i = some t → dstOf ops j = some t → i = j
  look : ∀ i j o t, ops[i]? = some o → t ∈ o.looksAt ops → dstOf ops j = some t → j ≠ i → (j < i → bef (masks ops) j i = true) ∧ (i < j → bef (masks ops) i j = true)

theorem dstOf_lt {ops : Array Oper} {j t : Nat} (h : dstOf ops j = some t) : j < ops.size := by
  unfold dstOf at h
  cases ho : ops[j]? with
  | none => rw [ho] at h; cases h
  | some o => exact (Array.getElem?_eq_some_iff.1 ho).1

theorem drawOk_spec {ops : Array Oper} (h : drawOk ops = true) : DrawOk ops := by
  have main : ∀ i o, ops[i]? = some o → ((binding o).all (fun b => decide (b < i)) = true ∧ (masks ops).getD i 0 = just (masks ops) (binding o)) ∧
      ∀ j t, dstOf ops j = some t → (j = i ∨ o.dst ≠ some t) ∧ (t ∉ o.looksAt ops ∨ j = i ∨ (match decide (j < i) with | true => bef (masks ops) j i | false => bef (masks ops) i j) = true) := by
    intro i o ho
    have hi := (Array.getElem?_eq_some_iff.1 ho).1
    have := List.all_eq_true.1 h i (List.mem_range.2 hi)
    rw [ho] at this
    simp only [Bool.and_eq_true, beq_iff_eq] at this
    refine ⟨this.1, fun j t ht => ?_⟩
    have h2 := List.all_eq_true.1 this.2 j (List.mem_range.2 (dstOf_lt ht))
    rw [ht] at h2
    simp only [Bool.and_eq_true, Bool.or_eq_true, beq_iff_eq, bne_iff_ne, Bool.not_eq_true', or_assoc] at h2
    refine ⟨h2.1, ?_⟩
    rcases h2.2 with h3 | h3 | h3
    · exact .inl (by intro hc; rw [List.contains_iff_mem.2 hc] at h3; cases h3)
    · exact .inr (.inl h3)
    · exact .inr (.inr h3)
  refine ⟨fun i o ho b hb => ?_, fun i o ho j hj => ?_, fun i j t hi hj => ?_, fun i j o t ho ht hj hne => ?_⟩
  · have := List.all_eq_true.1 (main i o ho).1.1 b hb
    simpa using this
  · unfold bef at hj
    rw [(main i o ho).1.2] at hj
    exact just_bit hj
  · have hlt := dstOf_lt hi
    unfold dstOf at hi
    cases ho : ops[i]? with
    | none => rw [ho] at hi; cases hi
    | some o =>
      rw [ho] at hi
      rcases ((main i o ho).2 j t hj).1 with h1 | h1
      · exact h1.symm
      · exact absurd hi h1
  · rcases ((main i o ho).2 j t hj).2 with h1 | h1 | h1
    · exact absurd ht h1
    · exact absurd h1 hne
    · constructor
      · intro hlt; simpa [hlt] using h1
      · intro hlt; simpa [show ¬ j < i by omega] using h1

theorem bef_lt {ops : Array Oper} (H : DrawOk ops) : ∀ (i : Nat), i < ops.size → ∀ j, bef (masks ops) j i = true → j < i := by
  intro i
  induction i using Nat.strongRecOn with
  | _ i ih =>
    intro hi j hj
    obtain ⟨b, hb, h⟩ := H.bit i ops[i] (by simp [hi]) j hj
    have hlt := H.lt i ops[i] (by simp [hi]) b hb
    rcases h with rfl | h
    · exact hlt
    · have := ih b hlt (by omega) j h; omega

/-- the run in the order of the text -/
structure Trace (P : Program) (once : Nat → Bool) (ops : Array Oper) (es : Nat → Env) (ms : Nat → Mem) (vs : Nat → AV) (k : Nat) (o : Oper) : Prop where
  env : es (k + 1) = (es k).put o.dst (vs k)
  fixed : fixedAt ops k = true ∨ ms (k + 1) = ms k
  step : (wantE ops (es k) o = true ∧ stepW P true (once (o.dst.getD 0)) (es k) (ms k) o.type (fun x => x = ⟨vs k, ms (k + 1), none⟩) o.op) ∨ (wantE ops (es k) o = false ∧ vs k = undefA ∧ ms (k + 1) = ms k)

theorem opsW_trace {once : Nat → Bool} {ops : Array Oper} {Q : Env → Mem → Prop} : ∀ (l : List Oper) (i : Nat) (e : Env) (m : Mem), ops.toList.drop i = l → i + l.length = ops.size → opsW P once true ops Q l e m →
    ∃ (es : Nat → Env) (ms : Nat → Mem) (vs : Nat → AV), es i = e ∧ ms i = m ∧ Q (es ops.size) (ms ops.size) ∧ ∀ k o, i ≤ k → ops[k]? = some o → Trace P once ops es ms vs k o
  | [], i, e, m, hl, hi, h => by
    refine ⟨fun _ => e, fun _ => m, fun _ => undefA, rfl, rfl, h, fun k o hk ho => ?_⟩
    have := (Array.getElem?_eq_some_iff.1 ho).1
    simp at hi
    omega
  | o :: rest, i, e, m, hl, hi, h => by
    have ho : ops[i]? = some o := by
      have : (ops.toList.drop i)[0]? = some o := by rw [hl]; rfl
      rw [List.getElem?_drop] at this
      simpa using this
    have hl' : ops.toList.drop (i + 1) = rest := by
      rw [← List.drop_drop, hl]; rfl
    have hi' : i + 1 + rest.length = ops.size := by simp only [List.length_cons] at hi; omega
    have fin : ∀ (v : AV) (m' : Mem), opsW P once true ops Q rest (e.put o.dst v) m' → (fixedAt ops i = true ∨ m' = m) →
        ((wantE ops e o = true ∧ stepW P true (once (o.dst.getD 0)) e m o.type (fun x => x = ⟨v, m', none⟩) o.op) ∨ (wantE ops e o = false ∧ v = undefA ∧ m' = m)) →
        ∃ (es : Nat → Env) (ms : Nat → Mem) (vs : Nat → AV), es i = e ∧ ms i = m ∧ Q (es ops.size) (ms ops.size) ∧ ∀ k o, i ≤ k → ops[k]? = some o → Trace P once ops es ms vs k o := by
      intro v m' h1 h2 h3
      obtain ⟨es, ms, vs, e1, e2, e3, e4⟩ := opsW_trace rest (i + 1) _ _ hl' hi' h1
      refine ⟨fun k => if k = i then e else es k, fun k => if k = i then m else ms k, fun k => if k = i then v else vs k, by simp, by simp, ?_, fun k o' hk ho' => ?_⟩
      · simp only [if_neg (show ¬ ops.size = i by omega)]; exact e3
      · by_cases hki : k = i
        · subst hki
          have heq : o' = o := by rw [ho] at ho'; exact (Option.some.inj ho').symm
          subst heq
          refine ⟨?_, ?_, ?_⟩
          · simp only [if_neg (show ¬ k + 1 = k by omega), if_true]; exact e1
          · simp only [if_neg (show ¬ k + 1 = k by omega), if_true, e2]; exact h2
          · simp only [if_neg (show ¬ k + 1 = k by omega), if_true, e2]; exact h3
        · obtain ⟨t1, t2, t3⟩ := e4 k o' (by omega) ho'
          refine ⟨?_, ?_, ?_⟩
          · simp only [if_neg (show ¬ k + 1 = i by omega), if_neg hki]; exact t1
          · simp only [if_neg (show ¬ k + 1 = i by omega), if_neg hki]; exact t2
          · simp only [if_neg (show ¬ k + 1 = i by omega), if_neg hki]; exact t3
    simp only [opsW] at h
    split at h
    · rename_i hw
      obtain ⟨out, ⟨h1, h2⟩, h3⟩ := stepW_out h
      obtain ⟨hwb, hfx⟩ := h1 trivial
      obtain ⟨v, m', wb⟩ := out
      simp only at hwb hfx
      subst hwb
      have hsz : ops.size - (rest.length + 1) = i := by omega
      rw [hsz] at hfx
      exact fin v m' h2 hfx (.inl ⟨hw, h3⟩)
    · rename_i hw
      exact fin undefA m h (.inr rfl) (.inr ⟨by simpa using hw, rfl, rfl⟩)

section
variable {once : Nat → Bool} {ops : Array Oper} {es : Nat → Env} {ms : Nat → Mem} {vs : Nat → AV}

theorem dst_of {k : Nat} {o : Oper} (ho : ops[k]? = some o) : dstOf ops k = o.dst := by unfold dstOf; rw [ho]; rfl

theorem es_at (H : DrawOk ops) (T : ∀ k o, ops[k]? = some o → Trace P once ops es ms vs k o) : ∀ (k : Nat), k ≤ ops.size →
    (∀ j t, j < k → dstOf ops j = some t → es k t = vs j) ∧ (∀ t, (∀ j, j < k → dstOf ops j ≠ some t) → es k t = es 0 t)
  | 0, _ => ⟨fun j t h => by omega, fun _ _ => rfl⟩
  | k + 1, hk => by
    obtain ⟨h1, h2⟩ := es_at H T k (by omega)
    have ho : ops[k]? = some ops[k] := by simp
    have he := (T k _ ho).env
    have hd := dst_of ho
    have val : ∀ t, es (k + 1) t = if dstOf ops k = some t then vs k else es k t := by
      intro t
      rw [he, hd]
      cases ops[k].dst with
      | none => simp [Env.put]
      | some d =>
        simp only [Env.put, Env.set, Option.some.injEq]
        by_cases h : t = d
        · subst h; simp
        · rw [if_neg h, if_neg (fun e => h e.symm)]
    refine ⟨fun j t hj ht => ?_, fun t ht => ?_⟩
    · rw [val]
      by_cases hjk : j = k
      · subst hjk; rw [if_pos ht]
      · rw [if_neg (fun h => hjk (H.dst j k t ht h))]
        exact h1 j t (by omega) ht
    · rw [val, if_neg (ht k (by omega))]
      exact h2 t (fun j hj => ht j (by omega))

theorem ms_const {i : Nat} : ∀ (j : Nat), i ≤ j → (∀ c, i ≤ c → c < j → ms (c + 1) = ms c) → ms j = ms i
  | 0, h, _ => by rw [show i = 0 by omega]
  | j + 1, h, hc => by
    by_cases hij : i = j + 1
    · rw [hij]
    · rw [hc j (by omega) (by omega)]
      exact ms_const j (by omega) (fun c h1 h2 => hc c h1 (by omega))

/-- what holds when some operations have been carried out -/
structure Inv (P : Program) (w0 : World) (I0 : Nat → Prop) (ρ0 : Real) (m0 : Mem) (n : Nat) (ops : Array Oper) (es : Nat → Env) (ms : Nat → Mem) (vs : Nat → AV) (listed : Array Bool) (a : Act) (w : World) (e : Env) (j : Nat) (I : Nat → Prop) (ρ : Real) : Prop where
  size : listed.size = ops.size
  rel : Rel P w0 I0 ρ0 m0 n e (ms j) a w I ρ
  le : j ≤ ops.size
  mem : ∀ c, c < ops.size → ms (c + 1) ≠ ms c → (listed.getD c false = true ↔ c < j)
  new : ∀ k t, listed.getD k false = true → dstOf ops k = some t → e t = vs k
  old : ∀ t, (∀ k, listed.getD k false = true → dstOf ops k ≠ some t) → e t = es 0 t
  closed : ∀ i k, listed.getD i false = true → bef (masks ops) k i = true → listed.getD k false = true

def cntU (listed : Array Bool) : Nat → Nat
  | 0 => 0
  | n + 1 => cntU listed n + if listed.getD n false = true then 0 else 1
theorem cntU_set {listed : Array Bool} {i : Nat} (hi : i < listed.size) (hu : listed.getD i false = false) : ∀ n, cntU (listed.setIfInBounds i true) n + (if i < n then 1 else 0) = cntU listed n
  | 0 => by simp [cntU]
  | n + 1 => by
    have ih := cntU_set hi hu n
    simp only [cntU]
    by_cases h : n = i
    · subst h
      have h1 : (listed.setIfInBounds n true).getD n false = true := by simp [hi]
      rw [h1, hu]
      simp at ih ⊢
      omega
    · rw [getD_set_ne false (fun e => h e.symm)]
      by_cases h2 : i < n
      · have q1 : (if i < n then 1 else 0) = 1 := if_pos h2
        have q2 : (if i < n + 1 then 1 else 0) = 1 := if_pos (by omega)
        rw [q1] at ih
        rw [q2]
        omega
      · have q1 : (if i < n then 1 else 0) = 0 := if_neg h2
        have q2 : (if i < n + 1 then 1 else 0) = 0 := if_neg (by omega)
        rw [q1] at ih
        rw [q2]
        omega
theorem cntU_zero {listed : Array Bool} : ∀ n, cntU listed n = 0 → ∀ k, k < n → listed.getD k false = true
  | 0, _, k, hk => by omega
  | n + 1, h, k, hk => by
    simp only [cntU] at h
    by_cases hl : listed.getD n false = true
    · by_cases hkn : k = n
      · subst hkn; exact hl
      · exact cntU_zero n (by omega) k (by omega)
    · rw [if_neg hl] at h; omega
theorem cntU_none : ∀ n s, cntU (Array.replicate s false) n = n
  | 0, s => rfl
  | n + 1, s => by
    simp only [cntU, cntU_none n s]
    have : ¬ (Array.replicate s false).getD n false = true := by
      rw [Array.getD_eq_getD_getElem?, Array.getElem?_replicate]
      split <;> simp
    rw [if_neg this]

theorem getD_flip {listed : Array Bool} {i : Nat} (hi : i < listed.size) : listed.getD i true = listed.getD i false := by
  simp [hi]

theorem all_listed (H : DrawOk ops) {listed : Array Bool} (hs : listed.size = ops.size) (hr : Region.ready .any ops listed = []) : ∀ (k : Nat), k < ops.size → listed.getD k false = true := by
  intro k
  induction k using Nat.strongRecOn with
  | _ k ih =>
    intro hk
    cases hl : listed.getD k false with
    | true => rfl
    | false =>
      have : k ∈ Region.ready .any ops listed := by
        rw [mem_ready]
        refine ⟨by rw [getD_flip (by omega)]; exact hl, ops[k], by simp [hk], fun ed hed hb => ?_⟩
        have hbd : ed.on ∈ binding ops[k] := by
          unfold binding
          exact List.mem_map_of_mem (List.mem_filter.2 ⟨by simpa using hed, hb⟩)
        have hlt := H.lt k ops[k] (by simp [hk]) ed.on hbd
        exact ih ed.on hlt (by omega)
      rw [hr] at this
      cases this

variable {w0 : World} {I0 : Nat → Prop} {ρ0 : Real} {m0 : Mem} {n : Nat}

theorem any_of_inv (H : DrawOk ops) (hreg : regOk n ops = true) (T : ∀ k o, ops[k]? = some o → Trace P once ops es ms vs k o) {Q' : Exit → Act → World → Prop}
    (hQ : ∀ a w I ρ, Rel P w0 I0 ρ0 m0 n (es ops.size) (ms ops.size) a w I ρ → Q' .normal a w) :
    ∀ (fuel : Nat) (listed : Array Bool) (a : Act) (w : World) (e : Env) (j : Nat) (I : Nat → Prop) (ρ : Real), cntU listed ops.size ≤ fuel → Inv P w0 I0 ρ0 m0 n ops es ms vs listed a w e j I ρ → wpAny P .any ops Q' fuel listed a w := by
  have done : ∀ (listed : Array Bool) (a : Act) (w : World) (e : Env) (j : Nat) (I : Nat → Prop) (ρ : Real), (∀ k, k < ops.size → listed.getD k false = true) → Inv P w0 I0 ρ0 m0 n ops es ms vs listed a w e j I ρ → Q' .normal a w := by
    intro listed a w e j I ρ hall V
    have he : e = es ops.size := by
      funext t
      obtain ⟨h1, h2⟩ := es_at H T ops.size (Nat.le_refl _)
      by_cases hex : ∃ k, dstOf ops k = some t
      · obtain ⟨k, hk⟩ := hex
        have hlt := dstOf_lt hk
        rw [V.new k t (hall k hlt) hk, h1 k t hlt hk]
      · have hex : ∀ k, dstOf ops k ≠ some t := fun k hk => hex ⟨k, hk⟩
        rw [V.old t (fun k _ => hex k), h2 t (fun k _ => hex k)]
    have hm : ms ops.size = ms j := ms_const ops.size V.le (fun c h1 h2 => Classical.byContradiction fun hne => by
      have := (V.mem c h2 hne).1 (hall c h2)
      omega)
    have := V.rel
    rw [he, ← hm] at this
    exact hQ a w I ρ this
  intro fuel
  induction fuel with
  | zero =>
    intro listed a w e j I ρ hc V
    have hall := cntU_zero ops.size (by omega : cntU listed ops.size = 0)
    refine ⟨?_, done listed a w e j I ρ hall V⟩
    cases hr : Region.ready .any ops listed with
    | nil => rfl
    | cons i l =>
      have hi : i ∈ Region.ready .any ops listed := by rw [hr]; simp
      obtain ⟨h0, o, ho, _⟩ := mem_ready.1 hi
      have hlt := (Array.getElem?_eq_some_iff.1 ho).1
      have h1 := hall i hlt
      rw [getD_flip (by rw [V.size]; exact hlt)] at h0
      rw [h0] at h1
      cases h1
  | succ fuel ih =>
    intro listed a w e j I ρ hc V
    refine ⟨fun hr => done listed a w e j I ρ (all_listed H V.size hr) V, fun i hi => ?_⟩
    obtain ⟨h0, o, ho, hall⟩ := mem_ready.1 hi
    have hlt := (Array.getElem?_eq_some_iff.1 ho).1
    have hls : i < listed.size := by rw [V.size]; exact hlt
    rw [getD_flip hls] at h0
    have hbd : ∀ b ∈ binding o, listed.getD b false = true := by
      intro b hb
      unfold binding at hb
      obtain ⟨ed, hed, rfl⟩ := List.mem_map.1 hb
      obtain ⟨h1, h2⟩ := List.mem_filter.1 hed
      exact hall ed (by simpa using h1) h2
    have hbef : ∀ k, bef (masks ops) k i = true → listed.getD k false = true := by
      intro k hk
      obtain ⟨b, hb, h⟩ := H.bit i o ho k hk
      rcases h with rfl | h
      · exact hbd b hb
      · exact V.closed b k (hbd b hb) h
    have hnot : ∀ k, bef (masks ops) i k = true → listed.getD k false = false := by
      intro k hk
      cases hl : listed.getD k false with
      | false => rfl
      | true =>
        have := V.closed k i hl hk
        rw [h0] at this
        cases this
    obtain ⟨hes1, hes2⟩ := es_at H T i (by omega)
    have hagree : ∀ t ∈ o.looksAt ops, e t = es i t := by
      intro t ht
      by_cases hex : ∃ k, dstOf ops k = some t
      · obtain ⟨k, hk⟩ := hex
        have huniq : ∀ k', dstOf ops k' = some t → k' = k := fun k' h' => H.dst k' k t h' hk
        rcases Nat.lt_trichotomy k i with h | h | h
        · have hb := (H.look i k o t ho ht hk (by omega)).1 h
          rw [V.new k t (hbef k hb) hk, hes1 k t h hk]
        · rw [V.old t (fun k' hl hk' => by rw [huniq k' hk', h, h0] at hl; cases hl), hes2 t (fun k' hlt' hk' => by have := huniq k' hk'; omega)]
        · have hb := (H.look i k o t ho ht hk (by omega)).2 h
          have hnl := hnot k hb
          rw [V.old t (fun k' hl hk' => by rw [huniq k' hk', hnl] at hl; cases hl), hes2 t (fun k' hlt' hk' => by have := huniq k' hk'; omega)]
      · have hex : ∀ k, dstOf ops k ≠ some t := fun k hk => hex ⟨k, hk⟩
        rw [V.old t (fun k _ => hex k), hes2 t (fun k _ => hex k)]
    have hopd : ∀ x ∈ o.op.operands.toList, opd e x = opd (es i) x := by
      intro x hx
      refine opd_tmps fun t ht => hagree t ?_
      unfold Oper.looksAt
      refine List.mem_append.2 (.inl (List.mem_filterMap.2 ⟨x, hx, by rw [ht]⟩))
    have hwant : wantE ops e o = wantE ops (es i) o := by
      unfold wantE
      cases hg : o.guard with
      | none => rfl
      | some g =>
        obtain ⟨gi, want⟩ := g
        simp only
        cases hd : (ops[gi]?).bind (·.dst) with
        | none => rfl
        | some d =>
          have : e d = es i d := hagree d (by
            unfold Oper.looksAt
            rw [hg]
            simp [hd])
          simp only [this]
    obtain ⟨tenv, tfix, tstep⟩ := T i o ho
    -- the new state
    have next : ∀ (v : Value) (w' : World) (I' : Nat → Prop) (ρ' : Real) (j' : Nat) (a' : Act), j' ≤ ops.size →
        (∀ c, c < ops.size → ms (c + 1) ≠ ms c → ((listed.setIfInBounds i true).getD c false = true ↔ c < j')) →
        Rel P w0 I0 ρ0 m0 n (e.put o.dst (vs i)) (ms j') a' w' I' ρ' → wpAny P .any ops Q' fuel (listed.setIfInBounds i true) a' w' := by
      intro v w' I' ρ' j' a' hj' hmem hR
      refine ih (listed.setIfInBounds i true) a' w' (e.put o.dst (vs i)) j' I' ρ' ?_ ⟨by simp [V.size], hR, hj', hmem, fun k t hl hk => ?_, fun t ht => ?_, fun i2 k hl hb => ?_⟩
      · have := cntU_set hls h0 ops.size
        rw [if_pos hlt] at this
        omega
      · by_cases hki : k = i
        · subst hki
          rw [dst_of ho] at hk
          rw [hk]
          simp [Env.put, Env.set]
        · rw [getD_set_ne false (fun e => hki e.symm)] at hl
          have hne : o.dst ≠ some t := fun h => hki (H.dst k i t hk (by rw [dst_of ho]; exact h))
          have : (e.put o.dst (vs i)) t = e t := by
            cases hd : o.dst with
            | none => rfl
            | some d => simp only [Env.put, Env.set]; rw [if_neg (fun h => hne (by rw [hd, h]))]
          rw [this]
          exact V.new k t hl hk
      · have hne : o.dst ≠ some t := by
          have := ht i (by simp [hls])
          rwa [dst_of ho] at this
        have : (e.put o.dst (vs i)) t = e t := by
          cases hd : o.dst with
          | none => rfl
          | some d => simp only [Env.put, Env.set]; rw [if_neg (fun h => hne (by rw [hd, h]))]
        rw [this]
        exact V.old t (fun k hl => ht k (getD_set_true hl))
      · by_cases hii : i2 = i
        · subst hii; exact getD_set_true (hbef k hb)
        · rw [getD_set_ne false (fun e => hii e.symm)] at hl
          exact getD_set_true (V.closed i2 k hl hb)
    have keepmem : ms (i + 1) = ms i → ∀ c, c < ops.size → ms (c + 1) ≠ ms c → ((listed.setIfInBounds i true).getD c false = true ↔ c < j) := by
      intro hsame c hc hne
      have hci : i ≠ c := fun h => hne (by rw [← h]; exact hsame)
      rw [getD_set_ne false hci]
      exact V.mem c hc hne
    unfold wpOp
    rw [ho]
    simp only
    rw [wanted_eq V.rel.er o, hwant]
    rcases tstep with ⟨hw, hst⟩ | ⟨hw, hv, hsame⟩
    · rw [hw]
      simp only [if_true]
      refine .inl ?_
      have hdlt := regOk_dst (n := n) hreg ho
      cases hp : pureOp o.op with
      | true =>
        obtain ⟨hsame, hst2⟩ := pure_mem (m' := ms j) hp hst
        simp only at hsame
        have hst3 := stepW_env (e' := e) hopd hst2
        refine stepW_sound V.rel.sr V.rel.er hst3 V.rel.free ?_
        intro out v w' I' ρ' hK g2 g3 g4 g5 g6
        subst hK
        have hR := V.rel.next hdlt g2 g3 g4 (fun d y hwb => by cases hwb) g6
        exact next v w' I' ρ' j _ V.le (keepmem hsame) hR
      | false =>
        have hcmp : ∀ c, c < ops.size → ms (c + 1) ≠ ms c → c ≠ i → (listed.getD c false = true ↔ c < i) := by
          intro c hc hne hci
          have hf := (T c ops[c] (by simp [hc])).fixed.resolve_right hne
          have := List.all_eq_true.1 hf i (List.mem_range.2 hlt)
          rw [ho] at this
          simp only [hp, Bool.or_eq_true, beq_iff_eq, Bool.false_eq_true, or_false] at this
          rcases this with (h | h) | h
          · exact absurd h.symm hci
          · constructor
            · intro hl; rw [hnot c h] at hl; cases hl
            · intro hlt2; have := bef_lt H c hc i h; omega
          · exact ⟨fun _ => bef_lt H i hlt c h, fun _ => hbef c h⟩
        have hji : ms j = ms i := by
          by_cases hch : ms (i + 1) = ms i
          · rcases Nat.le_total j i with h | h
            · refine (ms_const i h fun c h1 h2 => Classical.byContradiction fun hne => ?_).symm
              have q1 := (hcmp c (by omega) hne (by omega)).2 h2
              have q2 := (V.mem c (by omega) hne).1 q1
              omega
            · refine ms_const j h fun c h1 h2 => Classical.byContradiction fun hne => ?_
              have hle := V.le
              have hci : c ≠ i := fun h => hne (by rw [h]; exact hch)
              have q1 := (V.mem c (by omega) hne).2 h2
              have q2 := (hcmp c (by omega) hne hci).1 q1
              omega
          · have hij : j ≤ i := by
              have q := V.mem i hlt hch
              rw [h0] at q
              simp at q
              exact q
            refine (ms_const i hij fun c h1 h2 => Classical.byContradiction fun hne => ?_).symm
            have q1 := (hcmp c (by omega) hne (by omega)).2 h2
            have q2 := (V.mem c (by omega) hne).1 q1
            omega
        have hst3 := stepW_env (e' := e) hopd hst
        rw [← hji] at hst3
        refine stepW_sound V.rel.sr V.rel.er hst3 V.rel.free ?_
        intro out v w' I' ρ' hK g2 g3 g4 g5 g6
        subst hK
        have hR := V.rel.next hdlt g2 g3 g4 (fun d y hwb => by cases hwb) g6
        by_cases hch : ms (i + 1) = ms i
        · refine next v w' I' ρ' j _ V.le (keepmem hch) ?_
          rw [hji, ← hch]
          exact hR
        · refine next v w' I' ρ' (i + 1) _ (by omega) (fun c hc hne => ?_) hR
          by_cases hci : c = i
          · subst hci; simp [hls]
          · rw [getD_set_ne false (fun h => hci h.symm), hcmp c hc hne hci]
            omega
    · rw [hw]
      simp only [Bool.false_eq_true, if_false]
      have hdlt := regOk_dst (n := n) hreg ho
      refine next undef w I ρ j _ V.le (keepmem hsame) ?_
      rw [hv]
      exact ⟨ER_put V.rel.er (fun t ht => by rw [V.rel.size]; exact hdlt t ht) (by simp only [undefA, undef, VR]), V.rel.sr, V.rel.free, V.rel.step, by rw [put_size]; exact V.rel.size, by rw [put_defers]; exact V.rel.defers⟩

theorem rel_drawn {e : Env} {m : Mem} {a : Act} {w : World} {I : Nat → Prop} {ρ : Real} (hR : Rel P w0 I0 ρ0 m0 n e m a w I ρ) (k : Nat) : Rel P w0 I0 ρ0 m0 n e m a { w with drawn := k } I ρ := by
  have st : Step w I ρ m { w with drawn := k } I ρ m := ⟨rfl, rfl, rfl, Nat.le_refl _, fun _ _ _ => rfl, fun _ _ h => h, fun _ h => h, fun _ h => .inl h, fun _ _ h => h, fun b h1 h2 => absurd h1 h2, fun _ h => .inl h, Nat.le_refl _⟩
  refine ⟨ER_step st hR.sr hR.er, ⟨fun b k g o h1 h2 => ?_, hR.sr.inj, hR.sr.lt⟩, hR.free, hR.step.trans st, hR.size, hR.defers⟩
  have x := hR.sr.blk b k g o h1 h2
  obtain ⟨arr, fr, h3, h4⟩ := x.cells
  exact ⟨x.one, ⟨arr, fr, h3, VRs_keep (st.keeps hR.sr) (fun _ _ h => h) _ _ h4⟩, x.wr, x.im⟩

theorem opsW_draw (hm : P.follows .mixedOrders = true) (hr : regOk n ops = true) (hd : drawOk ops = true) {Q : Env → Mem → Prop} {Q' : Exit → Act → World → Prop} (hQ : ∀ e m a w I ρ, Q e m → Rel P w0 I0 ρ0 m0 n e m a w I ρ → Q' .normal a w)
    {id : Nat} {e : Env} {m : Mem} {a : Act} {w : World} {I : Nat → Prop} {ρ : Real} (h : opsW P once true ops Q ops.toList e m) (hR : Rel P w0 I0 ρ0 m0 n e m a w I ρ) : (Code.region id ops true).wp P Q' a w := by
  have H := drawOk_spec hd
  obtain ⟨es, ms, vs, e1, e2, e3, e4⟩ := opsW_trace ops.toList 0 e m rfl (by simp) h
  have T : ∀ k o, ops[k]? = some o → Trace P once ops es ms vs k o := fun k o ho => e4 k o (by omega) ho
  refine wp_region_any hm ?_
  have none_listed : ∀ k, (Array.replicate ops.size false).getD k false = false := by
    intro k
    rw [Array.getD_eq_getD_getElem?, Array.getElem?_replicate]
    split <;> simp
  have V : Inv P w0 I0 ρ0 m0 n ops es ms vs (Array.replicate ops.size false) a { w with drawn := w.drawn + 1 } e 0 I ρ := by
    refine ⟨by simp, ?_, by omega, ?_, ?_, ?_, ?_⟩
    · rw [e2]; exact rel_drawn hR _
    · intro c hc hne; rw [none_listed]; simp
    · intro k t hl; rw [none_listed] at hl; cases hl
    · intro t _; rw [e1]
    · intro i k hl; rw [none_listed] at hl; cases hl
  exact any_of_inv H hr T (fun a w I ρ hR => hQ _ _ a w I ρ e3 hR) ops.size _ a _ e 0 I ρ (by rw [cntU_none]; exact Nat.le_refl _) V
end
end
end Go.Tw
