/- Operations that make or change memory: sound. -/
import Derived.Test.YtenmbfplceeolaaTwF
import Derived.Laws.Append
set_option linter.unusedVariables false
set_option linter.unusedSimpArgs false
namespace Go.Tw
open Go

section
variable {P : Program} {w : World} {I : Nat → Prop} {ρ : Real} {m : Mem}

/-- What an operation does to the world and to the evaluator's memory; 'addr' is the value of the slot that is told anew. -/
def Does {α : Type} (P : Program) (w : World) (I : Nat → Prop) (ρ : Real) (m : Mem) (r : Result α) (val : α → Value) (out : Out) (addr : Value) : Prop :=
  ∃ x w' I' ρ', r = .ok x w' ∧ VR P w' I' ρ' out.v (val x) ∧ SR P w' I' ρ' out.m ∧ Step w I ρ m w' I' ρ' out.m ∧ ∀ d y, out.wb = some (d, y) → VR P w' I' ρ' y addr

theorem noneOr {k : Blk} {cs : List AV} {get : Nat → Option Value} (h : VRs P w I noneR cs get) : VRs P w I (if k.kind = .flat then noneR else ρ) cs get := by
  split
  · exact h
  · exact VRs_lift h

theorem news_of_alloc {w w1 : World} {arr : Array Value} {ty : TypeId} (h : w1.heap = w.heap ∧ w1.os = w.os ∧ w1.tape = w.tape ∧ w1.output = w.output) : News w (w1.alloc (.cells arr ty)) arr ty := by
  obtain ⟨h1, h2, h3, h4⟩ := h
  have := News.alloc w1 arr ty
  exact ⟨this.os.trans h2, this.tape.trans h3, this.output.trans h4, by rw [this.size, h1], fun g hg => by rw [this.same g (by rw [h1]; exact hg), h1], by rw [← h1]; exact this.blk, fun j hj => by rw [← h1]; exact this.free j hj⟩

theorem run_zero {t : TypeId} {z : List Value} (h : zeroE P t = some z) : ∃ v, (zeroValue t).run P w = .ok v w ∧ v.cells.toList = z ∧ (∀ x ∈ z, oneV x = true) ∧ (∃ i, P.info? t = some i ∧ i.zero = some v) := by
  unfold zeroE at h
  obtain ⟨v, hv, h⟩ := Option.bind_eq_some_iff.1 h
  obtain ⟨i, hi, hz⟩ := Option.bind_eq_some_iff.1 hv
  split at h
  · rename_i ha
    simp only [Option.some.injEq] at h
    refine ⟨v, by simp [zeroValue, typeInfo, hi, hz], h, fun x hx => ?_, i, hi, hz⟩
    rw [h] at ha
    exact List.all_eq_true.1 ha x hx
  · cases h

theorem oneA_val {x : Value} (h : oneV x = true) : oneA (.val x) = true := by cases x <;> simp_all [oneA, oneV]

theorem VRs_vals (z : List Value) : VRs P w I ρ (z.map .val) (fun j => z[j]?) := VRs_iff.2 fun j c hj => by
  rw [List.getElem?_map] at hj
  obtain ⟨v, hv, rfl⟩ := Option.map_eq_some_iff.1 hj
  exact ⟨v, hv, by simp only [VR]⟩

theorem allocE_sound (hS : SR P w I ρ m) (hfree : ρ m.next = none) {once : Bool} {t : TypeId} {out : Out} (h : allocE P once m t = some out) (old addr : Value) : Does P w I ρ m ((Instr.alloc t true old).run P w) id out addr := by
  unfold allocE at h
  obtain ⟨z, hz, h⟩ := Option.bind_eq_some_iff.1 h
  simp only [outV, Option.some.injEq] at h
  subst h
  obtain ⟨v, h1, h2, h3, _⟩ := run_zero (w := w) hz
  have hA := News.alloc w v.cells t
  obtain ⟨a, b⟩ := SR_push (k := ⟨z.map .val, t, if once then .hole else .var, true⟩) hA hS hfree rfl (fun c hc => by
    obtain ⟨x, hx, rfl⟩ := List.mem_map.1 hc
    exact oneA_val (h3 x hx)) (noneOr (by
      have := VRs_vals (P := P) (w := w) (I := I) (ρ := noneR) z
      rw [← h2] at this ⊢
      simpa using this))
  refine ⟨.pointer (some ⟨w.heap.size, 0, none⟩), _, _, _, ?_, ?_, a, b, fun d y h => by cases h⟩
  · simp [Instr.alloc, h1, newVar, newRow]
  · simp only [id, VR]
    exact ⟨_, _, setR_same _ _ _, rfl⟩

theorem boxE_sound (hS : SR P w I ρ m) {once : Bool} {t : TypeId} {x : AV} {out : Out} (h : boxE P once m t x = some out) (hfree : ∀ b, m.next ≤ b → b < out.m.next → ρ b = none) {v : Value} (hv : VR P w I ρ x v) (addr : Value) :
    Does P w I ρ m ((Instr.box t v).run P w) id out addr := by
  unfold boxE at h
  obtain ⟨n, hn, h⟩ := Option.bind_eq_some_iff.1 h
  split at h
  · rename_i hc
    obtain ⟨g1, g2, g3⟩ := AV_cells_VRs hc.2 hv
    have hrun : (Instr.box t v).run P w = .ok (.pointer (some ⟨w.heap.size, 0, none⟩)) (w.alloc (.cells v.cells t)) := by simp [Instr.box, newVar, newRow]
    split at h
    · obtain ⟨r, hr, h⟩ := Option.bind_eq_some_iff.1 h
      simp only [outV, Option.some.injEq] at h
      subst h
      obtain ⟨I1, a1, b1, c1, d1, d2, d3⟩ := fzs_sound x.cells m r.2 I r.1 _ hr hS g3
      have hA := News.alloc w v.cells t
      obtain ⟨a2, b2⟩ := SR_pushI hA a1
      refine ⟨_, _, _, _, hrun, ?_, a2, b1.trans b2, fun d y h => by cases h⟩
      simp only [id, VR]
      refine ⟨w.heap.size, 0, rfl, .inr rfl, d3 g2, ?_⟩
      obtain ⟨fr, hfr⟩ := hA.blk
      exact VRs_congr (VRs_keep (b2.keeps a1) (fun _ _ h => h) _ _ d1) fun j _ => by rw [cell_of_row _ _ _ _ _ _ hfr, Nat.zero_add]
    · simp only [outV, Option.some.injEq] at h
      subst h
      have hf : ρ m.next = none := hfree m.next (Nat.le_refl _) (by simp [Mem.push])
      obtain ⟨a, b⟩ := SR_push (k := ⟨x.cells, t, .var, true⟩) (News.alloc w v.cells t) hS hf rfl g2 (by simpa using g3)
      refine ⟨_, _, _, _, hrun, ?_, a, b, fun d y h => by cases h⟩
      simp only [id, VR]
      exact ⟨_, _, setR_same _ _ _, rfl⟩
  · cases h

theorem zerosE_spec {el : TypeId} {n : Nat} {z : List AV} (h : zerosE P el n = some z) : ∃ sz, szE P el = some sz ∧ ∃ arr : Array Value,
    (∀ w, (do let zero ← (if n * sz = 0 then pure #[] else do pure (← zeroValue el).cells : Sem (Array Value)); pure ((Array.range (n * sz)).map (zero[· % zero.size]!)) : Sem (Array Value)).run P w = .ok arr w) ∧ arr.size = n * sz ∧ z.length = n * sz ∧ AllOne z ∧ ∀ w I ρ, VRs P w I ρ z (fun j => arr[j]?) := by
  unfold zerosE at h
  obtain ⟨sz, hsz, h⟩ := Option.bind_eq_some_iff.1 h
  refine ⟨sz, hsz, ?_⟩
  split at h
  · rename_i h0
    simp only [Option.some.injEq] at h
    subst h
    exact ⟨#[], fun w => by simp [h0], by simp [h0], by simp [h0], fun c hc => by simp at hc, fun _ _ _ => by simp only [VRs]⟩
  · rename_i h0
    obtain ⟨zs, hz, h⟩ := Option.bind_eq_some_iff.1 h
    split at h
    · rename_i hl
      simp only [Option.some.injEq] at h
      subst h
      obtain ⟨v, h1, h2, h3, h5⟩ := run_zero (w := default) hz
      have h1' : ∀ w, (zeroValue el).run P w = .ok v w := fun w => by
        obtain ⟨v', q1, _, _, i, q4, q5⟩ := run_zero (P := P) (w := w) hz
        have e : v' = v := by
          obtain ⟨i3, h6, h7⟩ := h5
          rw [q4] at h6
          simp only [Option.some.injEq] at h6
          subst h6
          rw [q5] at h7
          exact Option.some.inj h7
        rw [← e]; exact q1
      have hvs : v.cells.size = sz := by rw [← hl, ← h2]; simp
      refine ⟨(Array.range (n * sz)).map (v.cells[· % v.cells.size]!), fun w => by simp [h0, h1' w], by simp, by simp, fun c hc => ?_, fun w I ρ => VRs_iff.2 fun j c hj => ?_⟩
      · obtain ⟨i, hi, rfl⟩ := List.mem_map.1 hc
        have hpos : 0 < sz := by
          rcases Nat.eq_zero_or_pos sz with e | e
          · subst e; simp at h0
          · exact e
        refine oneA_val (h3 _ ?_)
        rw [List.getD_eq_getElem?_getD, List.getElem?_eq_getElem (by rw [hl]; exact Nat.mod_lt _ hpos)]
        exact List.getElem_mem _
      · rw [List.getElem?_map] at hj
        obtain ⟨i, hi, rfl⟩ := Option.map_eq_some_iff.1 hj
        have hlt : j < n * sz := by have := (List.getElem?_eq_some_iff.1 hi).1; simpa using this
        have hij : i = j := by simp [hlt] at hi; exact hi.symm
        subst hij
        have hpos : 0 < sz := by
          rcases Nat.eq_zero_or_pos sz with e | e
          · subst e; simp at h0
          · exact e
        refine ⟨v.cells[i % v.cells.size]!, by simp [hlt], ?_⟩
        simp only [VR]
        have hm : i % sz < v.cells.size := by rw [hvs]; exact Nat.mod_lt _ hpos
        rw [hvs, getElem!_pos v.cells _ hm, List.getD_eq_getElem?_getD, ← h2]
        simp [hm]
    · cases h

theorem buildSliceE_sound (hS : SR P w I ρ m) {t : TypeId} {len : Nat} {parts : List (Nat × AV)} {out : Out} (h : buildSliceE P m t len parts = some out) (hfree : ∀ b, m.next ≤ b → b < out.m.next → ρ b = none)
    {vparts : List (Nat × Value)} (hl : vparts.length = parts.length) (hv : ∀ (j i : Nat) (av : AV) (i' : Nat) (v : Value), parts[j]? = some (i, av) → vparts[j]? = some (i', v) → i = i' ∧ VR P w I ρ av v) (addr : Value) :
    Does P w I ρ m ((Instr.buildSlice t len vparts.toArray).run P w) id out addr := by
  unfold buildSliceE at h
  obtain ⟨el, hel, h⟩ := Option.bind_eq_some_iff.1 h
  obtain ⟨n, hn, h⟩ := Option.bind_eq_some_iff.1 h
  obtain ⟨z, hz, h⟩ := Option.bind_eq_some_iff.1 h
  split at h
  · rename_i hle
    obtain ⟨cs, hcs, h⟩ := Option.bind_eq_some_iff.1 h
    obtain ⟨r, hr, h⟩ := Option.bind_eq_some_iff.1 h
    simp only [outV, Option.some.injEq] at h
    subst h
    obtain ⟨sz, hsz, arr, q1, q2, q3, q4, q5⟩ := zerosE_spec hz
    rw [hn, Option.some.injEq] at hsz
    subst hsz
    obtain ⟨arr', f1, f2, f3, f4, f5⟩ := fillE_sound (P := P) (w := w) (I := I) (ρ := ρ) (place := fun i => some (i * n, n)) (placeE := fun i => some (i * n, n)) (fun _ _ h => h) parts vparts z cs arr hcs hl hv (by rw [q2, q3]) q4 (q5 w I ρ)
    obtain ⟨I1, a1, b1, c1, d1, d2, d3⟩ := fzs_sound cs m r.2 I r.1 _ hr hS f5
    have hA := News.alloc w arr' el
    have hf : ρ r.2.next = none := hfree _ (by rw [c1]; exact Nat.le_refl _) (by simp [Mem.push])
    obtain ⟨a, b⟩ := SR_push (k := ⟨r.1, el, .flat, true⟩) hA a1 hf rfl (d3 f4) (by simpa using d1)
    refine ⟨.slice (some ⟨w.heap.size, 0, none⟩) len len, _, _, _, ?_, ?_, a, b1.trans b, fun d y h => by cases h⟩
    · have q1' := q1 w
      simp only [Sem.run_bind, Sem.run_ite, Sem.run_pure] at q1'
      by_cases h0 : len * n = 0
      · simp [h0] at q1'
        simp [Instr.buildSlice, run_und (und_el hel), run_sz hn, h0, f1, q1', newRow]
      · simp only [h0, if_false] at q1'
        have hnot : ¬ (16777216 < len * n) := by omega
        cases hzv : (zeroValue el).run P w with
        | halt x y => rw [hzv] at q1'; simp at q1'
        | ok x y =>
          rw [hzv] at q1'
          simp at q1'
          obtain ⟨q6, q7⟩ := q1'
          subst q7
          simp [Instr.buildSlice, run_und (und_el hel), run_sz hn, h0, hnot, hzv, q6, f1, newRow]
    · simp only [id, VR]
      obtain ⟨fr, hfr⟩ := hA.blk
      have hsh := shape_of_heap hfr
      refine ⟨_, _, len, el, _, n, setR_same _ _ _, rfl, ⟨Nat.le_refl _, Nat.le_refl _⟩, fun _ => rfl, hsh, hn, ?_⟩
      rw [f2, f3, q3]
      omega
  · cases h

theorem makeE_sound (hS : SR P w I ρ m) {t : TypeId} {n k : Nat} {out : Out} (h : makeE P m t n k = some out) (hfree : ρ m.next = none) (kn kk : IntKind) (addr : Value) :
    Does P w I ρ m ((Instr.makeSlice t (.int kn n) (.int kk k)).run P w) id out addr := by
  unfold makeE at h
  obtain ⟨el, hel, h⟩ := Option.bind_eq_some_iff.1 h
  obtain ⟨sz, hsz, h⟩ := Option.bind_eq_some_iff.1 h
  obtain ⟨y, hy, h⟩ := Option.bind_eq_some_iff.1 h
  obtain ⟨z, hz, h⟩ := Option.bind_eq_some_iff.1 h
  split at h
  · rename_i hc
    obtain ⟨c1, c2, c3⟩ := hc
    simp only [outV, Option.some.injEq] at h
    subst h
    obtain ⟨i, hi, rfl⟩ := run_info hy
    obtain ⟨sz', hsz', arr, q1, q2, q3, q4, q5⟩ := zerosE_spec hz
    rw [hsz, Option.some.injEq] at hsz'
    subst hsz'
    have hA := News.alloc w arr el
    obtain ⟨a, b⟩ := SR_push (k := ⟨z.take (n * sz), el, .flat, true⟩) hA hS hfree rfl (AllOne_take q4 _) (noneOr (VRs_take (q5 w I noneR) _))
    have hwn : IntKind.i64.wrap (n : Int) = n := by rw [IntKind.wrap_i64]; omega
    have hwk : IntKind.i64.wrap (k : Int) = k := by rw [IntKind.wrap_i64]; omega
    have hb : ((i.bytes : Int) * (k : Int)) ≤ 281474976710656 := by
      have : ((k * i.bytes : Nat) : Int) ≤ 281474976710656 := by omega
      rw [Int.natCast_mul, Int.mul_comm] at this
      exact this
    refine ⟨.slice (some ⟨w.heap.size, 0, none⟩) n k, _, _, _, ?_, ?_, a, b, fun d y h => by cases h⟩
    · have q1' := q1 w
      have hnot : ¬ ((k : Int) < 0) := by omega
      have hnot2 : ¬ ((n : Int) < 0) := by omega
      have hnot3 : ¬ ((k : Int) < (n : Int)) := by omega
      have hnot4 : ¬ ((281474976710656 : Int) < (i.bytes : Int) * (k : Int)) := by omega
      unfold Instr.makeSlice
      simp only [Sem.run_bind, run_und (und_el hel), Result.andThen_ok, asInt, asIntOf, Sem.run_pure, Sem.run_map, typeInfo, run_program, hi, hwn, hwk, run_askRoom, Int.toNat_natCast, run_sz hsz, Sem.run_ite]
      simp only [hnot, hnot2, hnot3, decide_false, Bool.false_or, gt_iff_lt, Bool.or_self, Bool.or_false, Nat.reducePow, Int.reducePow, hnot4, if_false, Bool.false_eq_true]
      simp only [Sem.run_bind, Sem.run_ite, Sem.run_pure] at q1'
      by_cases h0 : k * sz = 0
      · simp [h0] at q1'
        simp [h0, newRow, q1']
      · simp only [h0, if_false] at q1' ⊢
        cases hzv : (zeroValue el).run P w with
        | halt x y => rw [hzv] at q1'; simp at q1'
        | ok x y =>
          rw [hzv] at q1'
          simp at q1'
          obtain ⟨q6, q7⟩ := q1'
          subst q7
          simp [q6, newRow]
    · simp only [id, VR]
      obtain ⟨fr, hfr⟩ := hA.blk
      refine ⟨_, _, k, el, _, sz, setR_same _ _ _, rfl, ⟨c1, Nat.le_refl _⟩, fun _ => rfl, shape_of_heap hfr, hsz, ?_⟩
      rw [q2]
      omega
  · cases h
end
end Go.Tw
