/- Operations that change nothing: sound, one by one. -/
import Derived.Test.YtenmbfplceeolaaTwC
set_option linter.unusedVariables false
set_option linter.unusedSimpArgs false
namespace Go.Tw
open Go

section
variable {P : Program} {w : World} {I : Nat → Prop} {ρ : Real} {m : Mem}

theorem keeps_refl (w : World) (I : Nat → Prop) : Keeps w w I I := ⟨fun _ h => h, fun _ _ => rfl, fun _ _ h => h⟩
theorem VR_lift {av : AV} {v : Value} (h : VR P w I noneR av v) : VR P w I ρ av v := VR_keep (keeps_refl w I) (fun b x h => by simp [noneR] at h) av v h
theorem VRs_lift {cs : List AV} {get : Nat → Option Value} (h : VRs P w I noneR cs get) : VRs P w I ρ cs get := VRs_keep (keeps_refl w I) (fun b x h => by simp [noneR] at h) cs get h

/-- the sought value, the world as it was -/
def Pur (P : Program) (w : World) (I : Nat → Prop) (ρ : Real) (s : Sem Value) (av : AV) : Prop := ∃ v, s.run P w = .ok v w ∧ VR P w I ρ av v

theorem BR.cellsAt {k : Blk} {g o : Nat} (h : BR P w I ρ k g o) : VRs P w I ρ k.cells (fun j => w.cell? ⟨g, o + j, none⟩) := by
  obtain ⟨arr, fr, hh, hv⟩ := h.cells
  have h2 : VRs P w I ρ k.cells (fun j => arr[o + j]?) := by
    split at hv
    · exact VRs_lift hv
    · exact hv
  exact VRs_congr h2 fun j _ => cell_of_row w g (o + j) arr _ fr hh
theorem BR.flatAt {k : Blk} {g o : Nat} (h : BR P w I ρ k g o) (hk : k.kind = .flat) : VRs P w I noneR k.cells (fun j => w.cell? ⟨g, o + j, none⟩) := by
  obtain ⟨arr, fr, hh, hv⟩ := h.cells
  rw [if_pos hk] at hv
  exact VRs_congr hv fun j _ => cell_of_row w g (o + j) arr _ fr hh

theorem loadE_sound (hS : SR P w I ρ m) {t : TypeId} {x av : AV} (h : loadE P m t x = some av) {v : Value} (hv : VR P w I ρ x v) : Pur P w I ρ (Instr.loadAt t v) av := by
  cases x with
  | ptr b off =>
    simp only [loadE] at h
    obtain ⟨k, hk, h⟩ := Option.bind_eq_some_iff.1 h
    split at h
    · cases h
    · simp only [VR] at hv
      obtain ⟨g, o, hb, rfl⟩ := hv
      obtain ⟨u, h1, h2⟩ := loadVar_sound (P := P) (w := w) (ρ := ρ) h (hS.blk b k g o hk hb).one (hS.blk b k g o hk hb).cellsAt
      exact ⟨u, by simpa [Instr.loadAt, Instr.sureAddr] using h1, h2⟩
  | tptr off cs =>
    simp only [loadE] at h
    simp only [VR] at hv
    obtain ⟨g, o, rfl, hI, h1, hc⟩ := hv
    obtain ⟨u, h1, h2⟩ := loadVar_sound (P := P) (w := w) (ρ := ρ) h h1 (VRs_lift hc)
    exact ⟨u, by simpa [Instr.loadAt, Instr.sureAddr] using h1, h2⟩
  | _ => simp [loadE] at h

theorem VR_bool {av : AV} {b : Bool} (h : VR P w I ρ av (.bool b)) : av = .val (.bool b) := by
  cases av <;> simp [VR] at h
  exact congrArg AV.val h.symm

theorem pickE_sound {a b c av : AV} (h : pickE a b c = some av) {x y z : Value} (ha : VR P w I ρ a x) (hb : VR P w I ρ b y) (hc : VR P w I ρ c z) :
    Pur P w I ρ (do pure (if ← asBool z then x else y)) av := by
  unfold pickE at h
  split at h
  · rename_i t
    simp only [VR] at hc
    subst hc
    simp only [Option.some.injEq] at h
    subst h
    cases t
    · exact ⟨y, by simp [asBool], hb⟩
    · exact ⟨x, by simp [asBool], ha⟩
  · cases h

mutual
theorem toVal_eq : ∀ (av : AV) (u v : Value), toVal av = some u → VR P w I ρ av v → v = u
  | .val x, u, v, h, hv => by
    simp only [toVal, Option.some.injEq] at h
    simp only [VR] at hv
    rw [hv, h]
  | .agg cs, u, v, h, hv => by
    simp only [toVal] at h
    obtain ⟨l, hl, rfl⟩ := Option.map_eq_some_iff.1 h
    simp only [VR] at hv
    obtain ⟨vs, rfl, hs, _, hc⟩ := hv
    have := toVals_eq cs l (fun j => vs[j]?) hl hc
    congr 1
    apply Array.ext'
    apply List.ext_getElem?
    intro j
    by_cases hj : j < cs.length
    · have h2 : vs[j]? = l[j]? := this.2 j hj
      simpa using h2
    · rw [List.getElem?_eq_none (by simp; omega), List.getElem?_eq_none (by simp; omega)]
  | .tup cs, u, v, h, hv => by simp [toVal] at h
  | .tree _ _ _ _, u, v, h, hv => by simp [toVal] at h
  | .tptr _ _, u, v, h, hv => by simp [toVal] at h
  | .emp _ _, u, v, h, hv => by simp [toVal] at h
  | .sl _ _ _ _ _, u, v, h, hv => by simp [toVal] at h
  | .ptr _ _, u, v, h, hv => by simp [toVal] at h
  | .clo _ _, u, v, h, hv => by simp [toVal] at h
theorem toVals_eq : ∀ (cs : List AV) (l : List Value) (get : Nat → Option Value), toVals cs = some l → VRs P w I ρ cs get → l.length = cs.length ∧ ∀ j, j < cs.length → get j = l[j]?
  | [], l, get, h, hv => by
    simp only [toVals, Option.some.injEq] at h
    subst h
    exact ⟨rfl, fun j hj => absurd hj (by simp)⟩
  | c :: cs, l, get, h, hv => by
    simp only [toVals] at h
    obtain ⟨u, hu, h⟩ := Option.bind_eq_some_iff.1 h
    obtain ⟨l', hl', rfl⟩ := Option.map_eq_some_iff.1 h
    simp only [VRs] at hv
    obtain ⟨⟨v, h0, h1⟩, h2⟩ := hv
    have e := toVal_eq c u v hu h1
    obtain ⟨e1, e2⟩ := toVals_eq cs l' _ hl' h2
    refine ⟨by simp [e1], fun j hj => ?_⟩
    cases j with
    | zero => simp [h0, e]
    | succ j => simpa using e2 j (by simpa using hj)
end

theorem isNil_cases {a : AV} {n : Bool} (h : isNil a = some n) {v : Value} (hv : VR P w I ρ a v) : ∃ x len cap, v = .slice x len cap ∧ x.isNone = n := by
  cases a with
  | val x =>
    simp only [VR] at hv
    subst hv
    unfold isNil at h
    split at h <;> simp_all
  | tree l c cs f => simp only [isNil, Option.some.injEq] at h; simp only [VR] at hv; obtain ⟨g, o, cap, rfl, _⟩ := hv; exact ⟨_, _, _, rfl, by simpa using h⟩
  | emp c f => simp only [isNil, Option.some.injEq] at h; simp only [VR] at hv; obtain ⟨g, o, cap, rfl, _⟩ := hv; exact ⟨_, _, _, rfl, by simpa using h⟩
  | sl b off l c f => simp only [isNil, Option.some.injEq] at h; simp only [VR] at hv; obtain ⟨g, o, cap, ty, n, s, _, rfl, _⟩ := hv; exact ⟨_, _, _, rfl, by simpa using h⟩
  | agg cs => simp [isNil] at h
  | tup cs => simp [isNil] at h
  | tptr a b => simp [isNil] at h
  | ptr a b => simp [isNil] at h
  | clo a b => simp [isNil] at h

theorem eqGuard_slice (op : BinOp) (t : TypeId) (x y : Operand) (a : Option Addr) (n m : Nat) (v : Value) : eqGuard op t x y (.slice a n m) v = pure () := by cases op <;> rfl

theorem binE_sound {op : BinOp} {t : TypeId} {x y : Operand} {a b av : AV} (h : binE P op t x y a b = some av) {u v : Value} (ha : VR P w I ρ a u) (hb : VR P w I ρ b v) :
    Pur P w I ρ (do eqGuard op t x y u v; binOp op t u v) av := by
  unfold binE at h
  split at h
  · simp only [VR] at ha hb
    subst ha; subst hb
    obtain ⟨z, hz, rfl⟩ := Option.map_eq_some_iff.1 h
    exact ⟨z, pureR_run P _ _ hz w, by simp only [VR]⟩
  · obtain ⟨u', hu, h⟩ := Option.bind_eq_some_iff.1 h
    obtain ⟨v', hv, h⟩ := Option.bind_eq_some_iff.1 h
    obtain ⟨z, hz, rfl⟩ := Option.map_eq_some_iff.1 h
    have e1 := toVal_eq _ u' u hu ha
    have e2 := toVal_eq _ v' v hv hb
    subst e1; subst e2
    exact ⟨z, pureR_run P _ _ hz w, by simp only [VR]⟩
  · obtain ⟨el, hel, h⟩ := Option.bind_eq_some_iff.1 h
    obtain ⟨n, hn, h⟩ := Option.bind_eq_some_iff.1 h
    simp only [VR] at hb
    subst hb
    obtain ⟨x', len, cap, rfl, hx⟩ := isNil_cases hn ha
    have hq : ∀ d, (Op.equalIn (d + 1) t (.slice x' len cap) (.slice none 0 0)).run P w = .ok n w := fun d => by
      cases x' with
      | none => simp [Op.equalIn, run_und (und_el hel)]; simpa using hx
      | some x' => simp [Op.equalIn, run_und (und_el hel)]; simpa using hx
    split at h
    · cases h
      refine ⟨.bool n, ?_, by simp only [boolV, VR]⟩
      simp only [eqGuard_slice, pure_bind, binOp]
      simp [Op.equal, Op.maxDepth, hq 9999]
    · cases h
      refine ⟨.bool !n, ?_, by simp only [boolV, VR]⟩
      simp only [eqGuard_slice, pure_bind, binOp]
      simp [Op.equal, Op.maxDepth, hq 9999]
    · cases h
  · cases h

theorem unE_sound {op : UnOp} {a av : AV} (h : unE P op a = some av) {u : Value} (ha : VR P w I ρ a u) : Pur P w I ρ (Op.unary op u) av := by
  unfold unE at h
  split at h
  · obtain ⟨z, hz, rfl⟩ := Option.map_eq_some_iff.1 h
    simp only [VR] at ha
    subst ha
    exact ⟨z, pureR_run P _ _ hz w, by simp only [VR]⟩
  · cases h

theorem extractE_sound {i : Nat} {a av : AV} (h : extractE i a = some av) {u : Value} (ha : VR P w I ρ a u) : Pur P w I ρ (Instr.extract u i) av := by
  unfold extractE at h
  split at h
  · simp only [VR] at ha
    obtain ⟨vs, rfl, hs, hc⟩ := ha
    obtain ⟨v, h1, h2⟩ := VRs_at hc h
    exact ⟨v, by simp [Instr.extract, h1], h2⟩
  · cases h

theorem faddrE_sound {s : TypeId} {f : Nat} {a av : AV} (h : faddrE P s f a = some av) {u : Value} (ha : VR P w I ρ a u) : Pur P w I ρ (Instr.fieldAt s u f) av := by
  unfold faddrE at h
  obtain ⟨p, hp, h⟩ := Option.bind_eq_some_iff.1 h
  obtain ⟨fs, fd, h1, h2, h3, h4⟩ := und_fld hp
  split at h
  · obtain ⟨n, hn, h⟩ := Option.bind_eq_some_iff.1 h
    split at h
    · cases h
    · rename_i hn0
      cases h
      simp only [VR] at ha
      obtain ⟨g, o, hb, rfl⟩ := ha
      refine ⟨.pointer (some ⟨g, o + (_ + p.1), none⟩), ?_, by simp only [VR]; exact ⟨g, o, hb, rfl⟩⟩
      rw [← h4] at hn
      simp [Instr.fieldAt, run_und h1, h2, Instr.sureAddr, fieldPlace, run_sz hn, hn0, h3, Addr.add_lit, Nat.add_assoc]
  · obtain ⟨n, hn, h⟩ := Option.bind_eq_some_iff.1 h
    split at h
    · cases h
    · rename_i hn0
      cases h
      simp only [VR] at ha
      obtain ⟨g, o, rfl, hI, h1', hc⟩ := ha
      refine ⟨.pointer (some ⟨g, o + (_ + p.1), none⟩), ?_, by simp only [VR]; exact ⟨g, o, rfl, hI, h1', hc⟩⟩
      rw [← h4] at hn
      simp [Instr.fieldAt, run_und h1, h2, Instr.sureAddr, fieldPlace, run_sz hn, hn0, h3, Addr.add_lit, Nat.add_assoc]
  · cases h

theorem fieldE_sound {s : TypeId} {f : Nat} {a av : AV} (h : fieldE P s f a = some av) {u : Value} (ha : VR P w I ρ a u) : Pur P w I ρ (Instr.field s u f) av := by
  unfold fieldE at h
  split at h
  · obtain ⟨p, hp, h⟩ := Option.bind_eq_some_iff.1 h
    obtain ⟨fs, fd, h1, h2, h3, h4⟩ := und_fld hp
    simp only [VR] at ha
    obtain ⟨vs, rfl, hs, hone, hc⟩ := ha
    obtain ⟨v, h5, h6⟩ := part_sound (P := P) (w := w) h hs hone hc
    exact ⟨v, by simp [Instr.field, run_und h1, h2, asAgg, h3, h4, h5], h6⟩
  · cases h

theorem natOf_int {a : AV} {k : Nat} (h : natOf a = some k) {u : Value} (ha : VR P w I ρ a u) : ∃ kd, u = .int kd (k : Int) := by
  unfold natOf at h
  split at h
  · split at h
    · rename_i kd n hn
      simp only [Option.some.injEq] at h
      simp only [VR] at ha
      subst h
      exact ⟨kd, by rw [ha, Int.toNat_of_nonneg hn]⟩
    · cases h
  · cases h

theorem addrE_sound {t : TypeId} {k : Nat} {a av : AV} (h : addrE P t k a = some av) {u : Value} (ha : VR P w I ρ a u) (kd : IntKind) : Pur P w I ρ (Instr.indexAt t u (.int kd k)) av := by
  unfold addrE at h
  split at h
  · rename_i el hel
    obtain ⟨sz, hsz, h⟩ := Option.bind_eq_some_iff.1 h
    split at h
    · split at h
      · rename_i hk
        cases h
        simp only [VR] at ha
        obtain ⟨g, o, cap, rfl, hI, hl, hf, hone, hc⟩ := ha
        refine ⟨.pointer (some ⟨g, o + k * sz, none⟩), ?_, by simp only [VR]; exact ⟨g, o, rfl, hI, hone, hc⟩⟩
        have : (0 : Int) ≤ (k : Int) ∧ k < _ := ⟨by omega, hk⟩
        simp [Instr.indexAt, asIntOf, run_und (und_el hel), run_sz hsz, this, Addr.add_lit]
      · cases h
    · split at h
      · rename_i hk
        cases h
        simp only [VR] at ha
        obtain ⟨g, o, cap, ty, n, s, hb, rfl, _⟩ := ha
        refine ⟨.pointer (some ⟨g, o + (_ + k * sz), none⟩), ?_, by simp only [VR]; exact ⟨g, o, hb, rfl⟩⟩
        have : (0 : Int) ≤ (k : Int) ∧ k < _ := ⟨by omega, hk⟩
        simp [Instr.indexAt, asIntOf, run_und (und_el hel), run_sz hsz, this, Addr.add_lit, Nat.add_assoc]
      · cases h
    · cases h
  · obtain ⟨ar, har, h⟩ := Option.bind_eq_some_iff.1 h
    obtain ⟨sz, hsz, h⟩ := Option.bind_eq_some_iff.1 h
    split at h
    · split at h
      · rename_i hk
        cases h
        simp only [VR] at ha
        obtain ⟨g, o, rfl, hI, hone, hc⟩ := ha
        refine ⟨.pointer (some ⟨g, o + (_ + k * sz), none⟩), ?_, by simp only [VR]; exact ⟨g, o, rfl, hI, hone, hc⟩⟩
        have : (0 : Int) ≤ (k : Int) ∧ k < ar.1 := ⟨by omega, hk⟩
        simp [Instr.indexAt, asIntOf, run_und (und_arr har), run_sz hsz, this, Addr.add_lit, Instr.sureAddr, Nat.add_assoc]
      · cases h
    · split at h
      · rename_i hk
        cases h
        simp only [VR] at ha
        obtain ⟨g, o, hb, rfl⟩ := ha
        refine ⟨.pointer (some ⟨g, o + (_ + k * sz), none⟩), ?_, by simp only [VR]; exact ⟨g, o, hb, rfl⟩⟩
        have : (0 : Int) ≤ (k : Int) ∧ k < ar.1 := ⟨by omega, hk⟩
        simp [Instr.indexAt, asIntOf, run_und (und_arr har), run_sz hsz, this, Addr.add_lit, Instr.sureAddr, Nat.add_assoc]
      · cases h
    · cases h

theorem indexE_sound {t : TypeId} {k : Nat} {a av : AV} (h : indexE P t k a = some av) {u : Value} (ha : VR P w I ρ a u) (kd : IntKind) : Pur P w I ρ (Instr.index t u (.int kd k)) av := by
  unfold indexE at h
  split at h
  · obtain ⟨ar, har, h⟩ := Option.bind_eq_some_iff.1 h
    obtain ⟨sz, hsz, h⟩ := Option.bind_eq_some_iff.1 h
    split at h
    · rename_i hk
      simp only [VR] at ha
      obtain ⟨vs, rfl, hs, hone, hc⟩ := ha
      obtain ⟨v, h5, h6⟩ := part_sound (P := P) (w := w) h hs hone hc
      have : (0 : Int) ≤ (k : Int) ∧ k < ar.1 := ⟨by omega, hk⟩
      exact ⟨v, by simp [Instr.index, asIntOf, run_und (und_arr har), run_sz hsz, this, h5], h6⟩
    · cases h
  · split at h
    · rename_i s hstr
      simp only [VR] at ha
      subst ha
      obtain ⟨b, hb, rfl⟩ := Option.map_eq_some_iff.1 h
      refine ⟨.int .u8 b.toNat, ?_, by simp only [byteV, VR]⟩
      have hlt : k < s.size := by
        have := (List.getElem?_eq_some_iff.1 hb).1
        simpa using this
      have hsk : s[k]? = some b := by
        have h1 : s[k]? = some s[k] := getElem?_pos s k hlt
        rw [h1]
        have h2 := (List.getElem?_eq_some_iff.1 hb).2
        rw [← h2]
        rfl
      simp [Instr.index, asIntOf, run_und (und_str hstr), hsk]
    · cases h
  · cases h
end
end Go.Tw
