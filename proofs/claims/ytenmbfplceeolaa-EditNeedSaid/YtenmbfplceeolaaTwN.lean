/- A closed call seen from its caller; a function's own answer. -/
import Derived.Test.YtenmbfplceeolaaTwM
set_option linter.unusedVariables false
set_option linter.unusedSimpArgs false
namespace Go.Tw
open Go

section
variable {P : Program} {w w' : World} {I I' : Nat → Prop} {ρ ρ' : Real} {m : Mem}

/-- the caller's references, and behind them the callee's rows -/
def both (ρ ρ' : Real) (n k : Nat) : Real := fun b => if n ≤ b ∧ b < n + k then ρ' (b - n) else ρ b

theorem both_ext {n k : Nat} (hfree : ∀ b, n ≤ b → b < n + k → ρ b = none) : ∀ b x, ρ b = some x → both ρ ρ' n k b = some x := by
  intro b x h
  unfold both
  split
  · rename_i hc; rw [hfree b hc.1 hc.2] at h; cases h
  · exact h

theorem shifts_length (n : Nat) : ∀ cs : List AV, (shifts n cs).length = cs.length
  | [] => rfl
  | c :: cs => by simp [shifts, shifts_length n cs]
theorem shift_one (n : Nat) (av : AV) : oneA (shift n av) = oneA av := by cases av <;> simp [shift, oneA]
theorem shifts_one (n : Nat) : ∀ cs : List AV, AllOne cs → AllOne (shifts n cs)
  | [], h => h
  | c :: cs, h => fun x hx => by
    simp only [shifts] at hx
    rcases List.mem_cons.1 hx with rfl | hx
    · rw [shift_one]; exact h c (by simp)
    · exact shifts_one n cs (fun y hy => h y (by simp [hy])) x hx
mutual
theorem shift_VR {n k : Nat} (hk : ∀ b x, ρ' b = some x → b < k) : ∀ (av : AV) (v : Value), VR P w I ρ' av v → VR P w I (both ρ ρ' n k) (shift n av) v
  | .val x, v, hv => by simpa only [shift, VR] using hv
  | .tree _ _ _ _, v, hv => by simpa only [shift, VR] using hv
  | .tptr _ _, v, hv => by simpa only [shift, VR] using hv
  | .emp _ _, v, hv => by simpa only [shift, VR] using hv
  | .agg cs, v, hv => by
    simp only [shift, VR] at hv ⊢
    obtain ⟨vs, h1, h2, h3, h4⟩ := hv
    exact ⟨vs, h1, by rw [h2, shifts_length], shifts_one n cs h3, shifts_VR hk cs _ h4⟩
  | .tup cs, v, hv => by
    simp only [shift, VR] at hv ⊢
    obtain ⟨vs, h1, h2, h4⟩ := hv
    exact ⟨vs, h1, by rw [h2, shifts_length], shifts_VR hk cs _ h4⟩
  | .sl b off len c f, v, hv => by
    simp only [shift, VR] at hv ⊢
    obtain ⟨g, o, cap, ty, n', s, hg, h⟩ := hv
    exact ⟨g, o, cap, ty, n', s, by unfold both; rw [if_pos ⟨by omega, by have := hk b _ hg; omega⟩, Nat.add_sub_cancel_left]; exact hg, h⟩
  | .ptr b off, v, hv => by
    simp only [shift, VR] at hv ⊢
    obtain ⟨g, o, hg, h⟩ := hv
    exact ⟨g, o, by unfold both; rw [if_pos ⟨by omega, by have := hk b _ hg; omega⟩, Nat.add_sub_cancel_left]; exact hg, h⟩
  | .clo f cs, v, hv => by
    simp only [shift, VR] at hv ⊢
    obtain ⟨vs, h1, h2, h4⟩ := hv
    exact ⟨vs, h1, by rw [h2, shifts_length], shifts_VR hk cs _ h4⟩
theorem shifts_VR {n k : Nat} (hk : ∀ b x, ρ' b = some x → b < k) : ∀ (cs : List AV) (get : Nat → Option Value), VRs P w I ρ' cs get → VRs P w I (both ρ ρ' n k) (shifts n cs) get
  | [], get, hv => by simp only [shifts, VRs]
  | c :: cs, get, hv => by
    simp only [shifts, VRs] at hv ⊢
    obtain ⟨⟨v, h1, h2⟩, h3⟩ := hv
    exact ⟨⟨v, h1, shift_VR hk c v h2⟩, shifts_VR hk cs _ h3⟩
end

/-- What a closed call comes to in its caller's memory. -/
theorem merge (hS : SR P w I ρ m) {Ic : Nat → Prop} (hIc : ∀ g, I g → Ic g) {rows : List (TypeId × List AV)} (hfree : ∀ b, m.next ≤ b → b < m.next + rows.length → ρ b = none)
    (hR : SR P w' I' ρ' (pushAll Mem.empty rows)) (hst : Step w Ic noneR Mem.empty w' I' ρ' (pushAll Mem.empty rows)) (hII : (∀ g, I' g → I g ∨ w.heap.size ≤ g) ∨ rows = []) :
    ∃ I'', (∀ g, I'' g ↔ I g ∨ (I' g ∧ w.heap.size ≤ g)) ∧ SR P w' I'' (both ρ ρ' m.next rows.length) (pushAll m rows) ∧ Step w I ρ m w' I'' (both ρ ρ' m.next rows.length) (pushAll m rows) := by
  have hnoWr : ∀ g, ¬ Wr noneR Mem.empty g := by rintro g ⟨b, k, o, h1, _⟩; simp [Mem.empty] at h1
  have hsame : ∀ g, g < w.heap.size → w'.heap[g]? = w.heap[g]? := fun g hg => hst.same g hg (hnoWr g)
  have hk : ∀ b x, ρ' b = some x → b < rows.length := fun b x h => by
    have := hst.lo b rfl (by rw [h]; simp)
    rw [pushAll_next] at this
    simp [Mem.empty] at this
    exact this
  have hnew : ∀ b g o, ρ' b = some (g, o) → w.heap.size ≤ g := fun b g o h => by
    have hb := hk b _ h
    have hat : (pushAll Mem.empty rows).at_ b = some ⟨rows[b].2, rows[b].1, .flat, true⟩ := by
      rw [pushAll_at, if_pos (by simp [Mem.empty]; exact hb)]
      simp [Mem.empty, List.getElem?_eq_getElem hb]
    rcases hst.own g ⟨b, _, o, hat, rfl, h⟩ with h | h
    · exact absurd h (hnoWr g)
    · exact h
  have hext := both_ext (ρ' := ρ') hfree
  refine ⟨fun g => I g ∨ (I' g ∧ w.heap.size ≤ g), fun g => Iff.rfl, ?_⟩
  have hkp : Keeps w w' I (fun g => I g ∨ (I' g ∧ w.heap.size ≤ g)) := ⟨fun _ h => .inl h, fun g hg => hsame g (hS.lt g hg), hst.shape⟩
  have hat : ∀ b x, (pushAll m rows).at_ b = some x → (m.next ≤ b ∧ b < m.next + rows.length ∧ (pushAll Mem.empty rows).at_ (b - m.next) = some x) ∨ (¬ (m.next ≤ b ∧ b < m.next + rows.length) ∧ m.at_ b = some x) := by
    intro b x h
    rw [pushAll_at] at h
    split at h
    · rename_i hc
      refine .inl ⟨hc.1, hc.2, ?_⟩
      rw [pushAll_at, if_pos (by simp [Mem.empty]; omega)]
      simpa [Mem.empty] using h
    · rename_i hc; exact .inr ⟨hc, h⟩
  have hρ1 : ∀ b, m.next ≤ b ∧ b < m.next + rows.length → both ρ ρ' m.next rows.length b = ρ' (b - m.next) := fun b h => by unfold both; rw [if_pos h]
  have hρ2 : ∀ b, ¬ (m.next ≤ b ∧ b < m.next + rows.length) → both ρ ρ' m.next rows.length b = ρ b := fun b h => by unfold both; rw [if_neg h]
  have hltb : ∀ b k g o, m.at_ b = some k → ρ b = some (g, o) → g < w.heap.size := fun b k g o h1 h2 => hS.ltb h1 h2
  refine ⟨⟨fun b x g o h1 h2 => ?_, fun b1 b2 k1 k2 g o1 o2 h1 h2 h3 h4 h5 => ?_, fun g hg => ?_⟩, ⟨hst.os, hst.tape, hst.output, hst.size, fun g hg _ => hsame g hg, hst.shape, fun _ h => .inl h, fun g hg => ?_, hext, fun b h1 h2 => ?_, fun g hg => ?_, ?_⟩⟩
  · rcases hat b x h1 with ⟨q1, q2, q3⟩ | ⟨q1, q2⟩
    · rw [hρ1 b ⟨q1, q2⟩] at h2
      have hB := hR.blk _ x g o q3 h2
      have hx : x.kind = .flat ∧ x.wr = true := by
        rw [pushAll_at] at q3
        split at q3
        · obtain ⟨r, _, rfl⟩ := Option.map_eq_some_iff.1 q3
          exact ⟨rfl, rfl⟩
        · simp [Mem.empty] at q3
      have hge := hnew _ _ _ h2
      refine ⟨hB.one, ?_, fun _ => ⟨fun hI => ?_, (hB.wr hx.2).2⟩, fun h => by rw [hx.2] at h; cases h⟩
      · obtain ⟨arr, fr, e1, e2⟩ := hB.cells
        refine ⟨arr, fr, e1, ?_⟩
        rw [if_pos hx.1] at e2 ⊢
        rcases hII with hII | hII
        · exact VRs_keep (⟨fun g hg => (hII g hg).imp id fun h => ⟨hg, h⟩, fun _ _ => rfl, fun _ _ h => h⟩ : Keeps w' w' I' _) (fun _ _ h => h) _ _ e2
        · subst hII; simp at q2; omega
      · rcases hI with hI | hI
        · have := hS.lt g hI; omega
        · exact (hB.wr hx.2).1 hI.1
    · rw [hρ2 b q1] at h2
      have hB := hS.blk b x g o q2 h2
      refine BR_keep hkp hext hB (hsame g (hltb b x g o q2 h2)) (fun hwr hI => ?_)
      rcases hI with hI | hI
      · exact (hB.wr hwr).1 hI
      · have := hltb b x g o q2 h2; omega
  · rcases hat b1 k1 h1 with ⟨q1, q2, q3⟩ | ⟨q1, q2⟩ <;> rcases hat b2 k2 h2 with ⟨p1, p2, p3⟩ | ⟨p1, p2⟩
    · rw [hρ1 b1 ⟨q1, q2⟩] at h3
      rw [hρ1 b2 ⟨p1, p2⟩] at h4
      have := hR.inj _ _ _ _ _ _ _ q3 p3 h3 h4 h5
      omega
    · rw [hρ1 b1 ⟨q1, q2⟩] at h3
      rw [hρ2 b2 p1] at h4
      have := hnew _ _ _ h3
      have := hltb _ _ _ _ p2 h4
      omega
    · rw [hρ2 b1 q1] at h3
      rw [hρ1 b2 ⟨p1, p2⟩] at h4
      have := hnew _ _ _ h4
      have := hltb _ _ _ _ q2 h3
      omega
    · rw [hρ2 b1 q1] at h3
      rw [hρ2 b2 p1] at h4
      exact hS.inj _ _ _ _ _ _ _ q2 p2 h3 h4 h5
  · rcases hg with hg | hg
    · exact Nat.lt_of_lt_of_le (hS.lt g hg) hst.size
    · exact hR.lt g hg.1
  · rcases hg with hg | hg
    · exact .inl hg
    · exact .inr (.inr hg.2)
  · unfold both at h2
    split at h2
    · rename_i hc; rw [pushAll_next]; exact hc
    · exact absurd h1 h2
  · obtain ⟨b, x, o, h1, h2, h3⟩ := hg
    rcases hat b x h1 with ⟨q1, q2, q3⟩ | ⟨q1, q2⟩
    · rw [hρ1 b ⟨q1, q2⟩] at h3
      exact .inr (hnew _ _ _ h3)
    · rw [hρ2 b q1] at h3
      exact .inl ⟨b, x, o, q2, h2, h3⟩
  · rw [pushAll_next]; omega

mutual
theorem scalar_VR {n : Nat} {I1 I2 : Nat → Prop} {ρ1 ρ2 : Real} : ∀ (av : AV) (v : Value), scalar av = true → VR P w I1 ρ1 av v → VR P w I2 ρ2 (shift n av) v
  | .val x, v, h, hv => by simpa only [shift, VR] using hv
  | .agg cs, v, h, hv => by
    simp only [scalar] at h
    simp only [shift, VR] at hv ⊢
    obtain ⟨vs, h1, h2, h3, h4⟩ := hv
    exact ⟨vs, h1, by rw [h2, shifts_length], shifts_one n cs h3, scalars_VR cs _ h h4⟩
  | .tup cs, v, h, hv => by
    simp only [scalar] at h
    simp only [shift, VR] at hv ⊢
    obtain ⟨vs, h1, h2, h4⟩ := hv
    exact ⟨vs, h1, by rw [h2, shifts_length], scalars_VR cs _ h h4⟩
  | .tree _ _ _ _, v, h, hv => by simp [scalar] at h
  | .tptr _ _, v, h, hv => by simp [scalar] at h
  | .emp _ _, v, h, hv => by simp [scalar] at h
  | .sl _ _ _ _ _, v, h, hv => by simp [scalar] at h
  | .ptr _ _, v, h, hv => by simp [scalar] at h
  | .clo _ _, v, h, hv => by simp [scalar] at h
theorem scalars_VR {n : Nat} {I1 I2 : Nat → Prop} {ρ1 ρ2 : Real} : ∀ (cs : List AV) (get : Nat → Option Value), scalars cs = true → VRs P w I1 ρ1 cs get → VRs P w I2 ρ2 (shifts n cs) get
  | [], get, h, hv => by simp only [shifts, VRs]
  | c :: cs, get, h, hv => by
    simp only [scalars, Bool.and_eq_true] at h
    simp only [shifts, VRs] at hv ⊢
    obtain ⟨⟨v, h1, h2⟩, h3⟩ := hv
    exact ⟨⟨v, h1, scalar_VR c v h.1 h2⟩, scalars_VR cs _ h.2 h3⟩
end

/-! a function's own answer -/
def idR (ρ : Real) (ids : List (Nat × Nat)) : Real := fun j => (ids[j]?).bind fun i => (ρ i.1).map fun x => (x.1, x.2 + i.2)

theorem idR_ext (ρ : Real) (ids : List (Nat × Nat)) (x : List (Nat × Nat)) : ∀ b y, idR ρ ids b = some y → idR ρ (ids ++ x) b = some y := by
  intro b y h
  unfold idR at h ⊢
  obtain ⟨i, hi, h⟩ := Option.bind_eq_some_iff.1 h
  rw [List.getElem?_append_left (List.getElem?_eq_some_iff.1 hi).1, hi]
  exact h

/-- rows that were emitted so far -/
def Emits (m : Mem) (ids : List (Nat × Nat)) (rows : List (TypeId × List AV)) : Prop :=
  rows.length = ids.length ∧ (∀ (j : Nat) (i : Nat × Nat), ids[j]? = some i → ∃ k, m.at_ i.1 = some k ∧ k.kind = .flat ∧ k.wr = true ∧ rows[j]? = some (k.el, k.cells.drop i.2)) ∧ ∀ (j j' : Nat) (i i' : Nat × Nat), ids[j]? = some i → ids[j']? = some i' → i.1 = i'.1 → j = j'

theorem Emits.snoc {ids : List (Nat × Nat)} {rows : List (TypeId × List AV)} (h : Emits m ids rows) {b off : Nat} {k : Blk} (hk : m.at_ b = some k) (hf : k.kind = .flat) (hw : k.wr = true) (hn : (ids.any fun i => i.1 == b) = false) : Emits m (ids ++ [(b, off)]) (rows ++ [(k.el, k.cells.drop off)]) := by
  obtain ⟨h1, h2, h3⟩ := h
  have hnot : ∀ (j : Nat) (i : Nat × Nat), ids[j]? = some i → i.1 ≠ b := fun j i hj e => by
    have := List.any_eq_false.1 hn i (List.mem_of_getElem? hj)
    simp [e] at this
  have hlast : ∀ (j : Nat) (i : Nat × Nat), (ids ++ [(b, off)])[j]? = some i → (ids[j]? = some i ∧ j < ids.length) ∨ (j = ids.length ∧ i = (b, off)) := fun j i hj => by
    rcases Nat.lt_or_ge j ids.length with hl | hl
    · rw [List.getElem?_append_left hl] at hj; exact .inl ⟨hj, hl⟩
    · rw [List.getElem?_append_right hl] at hj
      have := (List.getElem?_eq_some_iff.1 hj).1
      simp at this
      have e : j = ids.length := by omega
      subst e
      simp at hj
      exact .inr ⟨rfl, hj.symm⟩
  refine ⟨by simp [h1], fun j i hj => ?_, fun j j' i i' hj hj' e => ?_⟩
  · rcases hlast j i hj with ⟨hj, hl⟩ | ⟨rfl, rfl⟩
    · obtain ⟨k', e1, e2, e3, e4⟩ := h2 j i hj
      exact ⟨k', e1, e2, e3, by rw [List.getElem?_append_left (by omega)]; exact e4⟩
    · exact ⟨k, hk, hf, hw, by rw [← h1]; simp⟩
  · rcases hlast j i hj with ⟨hj, hl⟩ | ⟨rfl, rfl⟩ <;> rcases hlast j' i' hj' with ⟨hj', hl'⟩ | ⟨rfl, rfl⟩
    · exact h3 j j' i i' hj hj' e
    · exact absurd e (hnot j i hj)
    · exact absurd e.symm (hnot j' i' hj')
    · rfl

mutual
theorem canon_sound (hS : SR P w I ρ m) : ∀ (av : AV) (v : Value) (ids : List (Nat × Nat)) (rows : List (TypeId × List AV)) (r : AV × List (Nat × Nat) × List (TypeId × List AV)), canon m ids rows av = some r → VR P w I ρ av v → Emits m ids rows →
    Emits m r.2.1 r.2.2 ∧ (∃ x, r.2.1 = ids ++ x) ∧ VR P w I (idR ρ r.2.1) r.1 v ∧ (oneA av = oneA r.1)
  | .val x, v, ids, rows, r, h, hv, hE => by
    simp only [canon, Option.some.injEq] at h; subst h
    exact ⟨hE, ⟨[], by simp⟩, by simpa only [VR] using hv, rfl⟩
  | .tree _ _ _ _, v, ids, rows, r, h, hv, hE => by
    simp only [canon, Option.some.injEq] at h; subst h
    exact ⟨hE, ⟨[], by simp⟩, by simpa only [VR] using hv, rfl⟩
  | .tptr _ _, v, ids, rows, r, h, hv, hE => by
    simp only [canon, Option.some.injEq] at h; subst h
    exact ⟨hE, ⟨[], by simp⟩, by simpa only [VR] using hv, rfl⟩
  | .emp _ _, v, ids, rows, r, h, hv, hE => by
    simp only [canon, Option.some.injEq] at h; subst h
    exact ⟨hE, ⟨[], by simp⟩, by simpa only [VR] using hv, rfl⟩
  | .agg cs, v, ids, rows, r, h, hv, hE => by
    simp only [canon] at h
    obtain ⟨s, hs, rfl⟩ := Option.map_eq_some_iff.1 h
    simp only [VR] at hv
    obtain ⟨vs, rfl, h2, h3, h4⟩ := hv
    obtain ⟨e1, e2, e3, e4, e5⟩ := canons_sound hS cs _ ids rows s hs h4 hE
    refine ⟨e1, e2, ?_, rfl⟩
    simp only [VR]
    exact ⟨vs, rfl, by rw [h2, e4], e5 h3, e3⟩
  | .tup cs, v, ids, rows, r, h, hv, hE => by
    simp only [canon] at h
    obtain ⟨s, hs, rfl⟩ := Option.map_eq_some_iff.1 h
    simp only [VR] at hv
    obtain ⟨vs, rfl, h2, h4⟩ := hv
    obtain ⟨e1, e2, e3, e4, e5⟩ := canons_sound hS cs _ ids rows s hs h4 hE
    refine ⟨e1, e2, ?_, rfl⟩
    simp only [VR]
    exact ⟨vs, rfl, by rw [h2, e4], e3⟩
  | .sl b off len c f, v, ids, rows, r, h, hv, hE => by
    simp only [canon] at h
    obtain ⟨k, hk, h⟩ := Option.bind_eq_some_iff.1 h
    simp only [VR] at hv
    obtain ⟨g, o, cap, ty, n, s, hg, rfl, hlc, hf, hsh, hss, hroom⟩ := hv
    have hB := hS.blk b k g o hk hg
    split at h
    · rename_i hkf
      split at h
      · rename_i hw
        split at h
        · cases h
        · rename_i hn
          simp only [Option.some.injEq] at h; subst h
          refine ⟨hE.snoc hk hkf hw ((Bool.not_eq_true _).mp hn), ⟨_, rfl⟩, ?_, rfl⟩
          simp only [VR]
          refine ⟨g, o + off, cap, ty, n, s, ?_, rfl, hlc, hf, hsh, hss, by omega⟩
          unfold idR
          rw [hE.1, List.getElem?_append_right (Nat.le_refl _)]
          simp [hg]
      · rename_i hw
        simp only [Option.some.injEq] at h; subst h
        refine ⟨hE, ⟨[], by simp⟩, ?_, rfl⟩
        simp only [VR]
        refine ⟨g, o + off, cap, rfl, hB.im (by simpa using hw), hlc, hf, AllOne_drop hB.one _, ?_⟩
        exact VRs_congr (VRs_drop (hB.flatAt hkf) off) fun j _ => by rw [Nat.add_assoc]
    · cases h
  | .ptr _ _, v, ids, rows, r, h, hv, hE => by simp [canon] at h
  | .clo f [], v, ids, rows, r, h, hv, hE => by
    simp only [canon, Option.some.injEq] at h; subst h
    exact ⟨hE, ⟨[], by simp⟩, by simp only [VR, VRs] at hv ⊢; exact hv, rfl⟩
  | .clo f (_ :: _), v, ids, rows, r, h, hv, hE => by simp [canon] at h
theorem canons_sound (hS : SR P w I ρ m) : ∀ (cs : List AV) (get : Nat → Option Value) (ids : List (Nat × Nat)) (rows : List (TypeId × List AV)) (r : List AV × List (Nat × Nat) × List (TypeId × List AV)), canons m ids rows cs = some r → VRs P w I ρ cs get → Emits m ids rows →
    Emits m r.2.1 r.2.2 ∧ (∃ x, r.2.1 = ids ++ x) ∧ VRs P w I (idR ρ r.2.1) r.1 get ∧ r.1.length = cs.length ∧ (AllOne cs → AllOne r.1)
  | [], get, ids, rows, r, h, hv, hE => by
    simp only [canons, Option.some.injEq] at h; subst h
    exact ⟨hE, ⟨[], by simp⟩, by simp only [VRs], rfl, fun h => h⟩
  | c :: cs, get, ids, rows, r, h, hv, hE => by
    simp only [canons] at h
    obtain ⟨s, hs, h⟩ := Option.bind_eq_some_iff.1 h
    obtain ⟨t, ht, rfl⟩ := Option.map_eq_some_iff.1 h
    simp only [VRs] at hv
    obtain ⟨⟨v, h1, h2⟩, h3⟩ := hv
    obtain ⟨e1, ⟨x, e2⟩, e3, e4⟩ := canon_sound hS c v ids rows s hs h2 hE
    obtain ⟨f1, ⟨y, f2⟩, f3, f4, f5⟩ := canons_sound hS cs _ s.2.1 s.2.2 t ht h3 e1
    refine ⟨f1, ⟨x ++ y, by simp only; rw [f2, e2, List.append_assoc]⟩, ?_, by simp [f4], fun h z hz => ?_⟩
    · simp only [VRs]
      refine ⟨⟨v, h1, ?_⟩, f3⟩
      refine VR_keep (keeps_refl w I) ?_ _ _ e3
      rw [f2]
      exact idR_ext ρ _ _
    · rcases List.mem_cons.1 hz with rfl | hz
      · rw [← e4]; exact h c (by simp)
      · exact f5 (fun a ha => h a (by simp [ha])) z hz
end

theorem canonR_sound {w0 : World} {I0 : Nat → Prop} (hS : SR P w I ρ m) (hst : Step w0 I0 noneR Mem.empty w I ρ m) {av : AV} {v : Value} (hv : VR P w I ρ av v) {r : Res} (h : canonR m av = some r) :
    ∃ ρ', VR P w I ρ' r.v v ∧ SR P w I ρ' (pushAll Mem.empty r.rows) ∧ Step w0 I0 noneR Mem.empty w I ρ' (pushAll Mem.empty r.rows) := by
  unfold canonR at h
  obtain ⟨s, hs, rfl⟩ := Option.map_eq_some_iff.1 h
  obtain ⟨⟨e1, e2, e3⟩, _, e4, _⟩ := canon_sound hS av v [] [] s hs hv ⟨rfl, fun j i h => by simp at h, fun j j' i i' h => by simp at h⟩
  have hnoWr : ∀ g, ¬ Wr noneR Mem.empty g := by rintro g ⟨b, k, o, h1, _⟩; simp [Mem.empty] at h1
  have hat : ∀ b x, (pushAll Mem.empty s.2.2).at_ b = some x → ∀ g o, idR ρ s.2.1 b = some (g, o) → ∃ i k o', s.2.1[b]? = some i ∧ m.at_ i.1 = some k ∧ k.kind = .flat ∧ k.wr = true ∧ ρ i.1 = some (g, o') ∧ o = o' + i.2 ∧ x = ⟨k.cells.drop i.2, k.el, .flat, true⟩ := by
    intro b x hx g o hg
    unfold idR at hg
    obtain ⟨i, hi, hg⟩ := Option.bind_eq_some_iff.1 hg
    obtain ⟨y, hy, hyy⟩ := Option.map_eq_some_iff.1 hg
    simp only [Prod.mk.injEq] at hyy
    obtain ⟨rfl, rfl⟩ := hyy
    obtain ⟨k, k1, k2, k3, k4⟩ := e2 b i hi
    rw [pushAll_at] at hx
    split at hx
    · simp only [Mem.empty, Nat.sub_zero, k4, Option.map_some, Option.some.injEq] at hx
      exact ⟨i, k, y.2, hi, k1, k2, k3, hy, rfl, hx.symm⟩
    · simp [Mem.empty] at hx
  refine ⟨idR ρ s.2.1, e4, ⟨fun b x g o h1 h2 => ?_, fun b1 b2 k1 k2 g o1 o2 h1 h2 h3 h4 h5 => ?_, hS.lt⟩, ⟨hst.os, hst.tape, hst.output, hst.size, hst.same, hst.shape, hst.imm, hst.back, fun b x h => by simp [noneR] at h, fun b h1 h2 => ?_, fun g hg => ?_, by simp [Mem.empty]⟩⟩
  · obtain ⟨i, k, o', q1, q2, q3, q4, q5, rfl, rfl⟩ := hat b x h1 g o h2
    have hB := hS.blk i.1 k g o' q2 q5
    refine ⟨AllOne_drop hB.one _, ?_, fun _ => hB.wr q4, fun h => by cases h⟩
    obtain ⟨arr, fr, f1, f2⟩ := hB.cells
    rw [if_pos q3] at f2
    exact ⟨arr, fr, f1, by rw [if_pos rfl]; exact VRs_congr (VRs_drop f2 i.2) fun j _ => by rw [Nat.add_assoc]⟩
  · obtain ⟨i, k, o', q1, q2, q3, q4, q5, rfl, rfl⟩ := hat b1 k1 h1 g o1 h3
    obtain ⟨i', k', o'', p1, p2, p3, p4, p5, rfl, rfl⟩ := hat b2 k2 h2 g o2 h4
    exact e3 b1 b2 i i' q1 p1 (hS.inj _ _ _ _ _ _ _ q2 p2 q5 p5 q4)
  · unfold idR at h2
    cases hb : s.2.1[b]? with
    | none => rw [hb] at h2; simp at h2
    | some i =>
      have := (List.getElem?_eq_some_iff.1 hb).1
      rw [pushAll_next]
      simp [Mem.empty]
      omega
  · obtain ⟨b, x, o, h1, h2, h3⟩ := hg
    obtain ⟨i, k, o', q1, q2, q3, q4, q5, rfl, rfl⟩ := hat b x h1 g o h3
    exact hst.own g ⟨i.1, k, o', q2, q4, q5⟩
end
end Go.Tw
