/- Stores, conversions, append, copy: sound. -/
import Derived.Test.YtenmbfplceeolaaTwG
set_option linter.unusedVariables false
set_option linter.unusedSimpArgs false
namespace Go.Tw
open Go

section
variable {P : Program} {w : World} {I : Nat → Prop} {ρ : Real} {m : Mem}

theorem cells_list (v : Value) : v.cells.toList.length = v.cells.size := by simp

theorem run_storeVar {t : TypeId} {n : Nat} (hn : szE P t = some n) {a : Addr} {v : Value} (hs : v.cells.size = n) {r : Result Unit} (h : (storeCells a v.cells.toList).run P w = r) : (storeVar t a v).run P w = r := by
  simp [storeVar, run_sz hn, hs, h]

theorem frozen_of_wr {k : Blk} {g o : Nat} (h : BR P w I ρ k g o) (hw : k.wr = true) {arr : Array Value} {ty : TypeId} {fr : Nat × Nat} (hh : w.heap[g]? = some (.cells arr ty fr)) : ∀ j, w.frozen? ⟨g, j, none⟩ = true → arr.size ≤ j :=
  fun j hj => (h.wr hw).2 j hj arr.size ty (shape_of_heap hh)

/-- what a write makes of the cells that were -/
theorem splice_VRs {cs xs : List AV} {off o p : Nat} (hp : p = o + off) (hle : off + xs.length ≤ cs.length) {arr arr' : Array Value} {vs : List Value} (hvs : vs.length = xs.length)
    (hc : VRs P w I ρ cs (fun j => arr[o + j]?)) (hx : VRs P w I ρ xs (fun j => vs[j]?)) (ha : ∀ i, arr'[i]? = if p ≤ i ∧ i < p + vs.length ∧ i < arr.size then vs[i - p]? else arr[i]?) : VRs P w I ρ (splice cs off xs) (fun j => arr'[o + j]?) := by
  subst hp
  refine VRs_iff.2 fun j c hj => ?_
  rw [splice_get _ _ _ hle] at hj
  simp only [ha]
  split at hj
  · rename_i hr
    have hjc : j < cs.length := by omega
    obtain ⟨u, hu⟩ := VRs_len hc hjc
    have hlt : o + j < arr.size := (Array.getElem?_eq_some_iff.1 hu).1
    rw [if_pos (by omega)]
    obtain ⟨v, h1, h2⟩ := VRs_at hx hj
    exact ⟨v, by rw [show o + j - (o + off) = j - off by omega]; exact h1, h2⟩
  · rename_i hr
    rw [if_neg (by omega)]
    exact VRs_at hc hj

theorem blk_self (x : Option Blk) : (match x with
    | some k => ∃ wr, x = some ⟨k.cells, k.el, k.kind, wr⟩ ∧ (wr = true → k.wr = true)
    | none => x = none) := by
  cases x with
  | none => rfl
  | some k => exact ⟨k.wr, rfl, fun h => h⟩
mutual
theorem fz_blk : ∀ (av : AV) (m m' : Mem) (av' : AV), fz m av = some (av', m') → ∀ b, match m.at_ b with
    | some k => ∃ wr, m'.at_ b = some ⟨k.cells, k.el, k.kind, wr⟩ ∧ (wr = true → k.wr = true)
    | none => m'.at_ b = none
  | .val x, m, m', av', h, b => by
    simp only [fz, Option.some.injEq, Prod.mk.injEq] at h; obtain ⟨rfl, rfl⟩ := h; exact blk_self _
  | .tree n c cs f, m, m', av', h, b => by
    simp only [fz, Option.some.injEq, Prod.mk.injEq] at h; obtain ⟨rfl, rfl⟩ := h; exact blk_self _
  | .tptr o cs, m, m', av', h, b => by
    simp only [fz, Option.some.injEq, Prod.mk.injEq] at h; obtain ⟨rfl, rfl⟩ := h; exact blk_self _
  | .emp c f, m, m', av', h, b => by
    simp only [fz, Option.some.injEq, Prod.mk.injEq] at h; obtain ⟨rfl, rfl⟩ := h; exact blk_self _
  | .agg cs, m, m', av', h, b => by
    simp only [fz] at h
    obtain ⟨r, hr, h⟩ := Option.map_eq_some_iff.1 h
    simp only [Prod.mk.injEq] at h
    obtain ⟨rfl, rfl⟩ := h
    exact fzs_blk cs m r.2 r.1 hr b
  | .sl c off len cc full, m, m', av', h, b => by
    simp only [fz] at h
    split at h
    · rename_i cells el wr hb
      simp only [Option.some.injEq, Prod.mk.injEq] at h
      obtain ⟨rfl, rfl⟩ := h
      by_cases e : b = c
      · subst e; rw [hb]; exact ⟨false, by simp [Mem.put], fun h => by cases h⟩
      · have : (m.put c (some ⟨cells, el, .flat, false⟩)).at_ b = m.at_ b := by simp [Mem.put, e]
        rw [this]
        exact blk_self _
    · cases h
  | .ptr _ _, m, m', av', h, b => by simp [fz] at h
  | .tup _, m, m', av', h, b => by simp [fz] at h
  | .clo f [], m, m', av', h, b => by
    simp only [fz, Option.some.injEq, Prod.mk.injEq] at h; obtain ⟨rfl, rfl⟩ := h; exact blk_self _
  | .clo f (c :: cs), m, m', av', h, b => by simp [fz] at h
theorem fzs_blk : ∀ (cs : List AV) (m m' : Mem) (cs' : List AV), fzs m cs = some (cs', m') → ∀ b, match m.at_ b with
    | some k => ∃ wr, m'.at_ b = some ⟨k.cells, k.el, k.kind, wr⟩ ∧ (wr = true → k.wr = true)
    | none => m'.at_ b = none
  | [], m, m', cs', h, b => by
    simp only [fzs, Option.some.injEq, Prod.mk.injEq] at h; obtain ⟨rfl, rfl⟩ := h; exact blk_self _
  | c :: cs, m, m', cs', h, b => by
    simp only [fzs] at h
    obtain ⟨r, hr, h⟩ := Option.bind_eq_some_iff.1 h
    obtain ⟨s, hs, h⟩ := Option.map_eq_some_iff.1 h
    simp only [Prod.mk.injEq] at h
    obtain ⟨rfl, rfl⟩ := h
    have h1 := fz_blk c m r.2 r.1 hr b
    have h2 := fzs_blk cs r.2 s.2 s.1 hs b
    cases hq : m.at_ b with
    | none => rw [hq] at h1; simp only at h1; rw [h1] at h2; exact h2
    | some k =>
      rw [hq] at h1
      simp only at h1
      obtain ⟨wr, h3, h4⟩ := h1
      rw [h3] at h2
      simp only at h2
      obtain ⟨wr', h5, h6⟩ := h2
      exact ⟨wr', h5, fun h => h4 (h6 h)⟩
end

theorem storeE_sound (hS : SR P w I ρ m) {t : TypeId} {slot : Option Nat} {x a : AV} {out : Out} (h : storeE P m t slot x a = some out) {v va : Value} (hv : VR P w I ρ x v) (ha : VR P w I ρ a va) :
    Does P w I ρ m ((Instr.storeAt t va v).run P w) (fun _ => undef) out va := by
  unfold storeE at h
  split at h
  · rename_i b off
    obtain ⟨n, hn, h⟩ := Option.bind_eq_some_iff.1 h
    obtain ⟨k, hk, h⟩ := Option.bind_eq_some_iff.1 h
    split at h
    · rename_i hc
      obtain ⟨c1, c2, c3, c4, c0⟩ := hc
      simp only [VR] at ha
      obtain ⟨g, o, hb, rfl⟩ := ha
      have hB := hS.blk b k g o hk hb
      obtain ⟨arr, fr, hh, hcells⟩ := hB.cells
      obtain ⟨g1, g2, g3⟩ := AV_cells_VRs c4 hv
      have hvl : v.cells.toList.length = x.cells.length := by rw [cells_list, g1]
      have hsz : o + off + v.cells.toList.length ≤ arr.size := by
        obtain ⟨u, hu⟩ := VRs_len hcells (j := off + n - 1) (by omega)
        have := (Array.getElem?_eq_some_iff.1 hu).1
        omega
      have hone := VRs_one (P := P) (w := w) (I := I) (ρ := ρ) g2 hvl (by simpa using g3)
      have hrun : (Instr.storeAt t (.pointer (some ⟨g, o + off, none⟩)) v).run P w = .ok () (w.setCells g (o + off) v.cells.toList) := by
        have := run_write (P := P) (w := w) hh (frozen_of_wr hB c3 hh) hsz hone
        simp [Instr.storeAt, Instr.sureAddr, run_storeVar hn (by rw [g1, c1]) this]
      split at h
      · -- a hole: written once, immutable from now on
        rename_i hkind
        obtain ⟨d, hd, h⟩ := Option.bind_eq_some_iff.1 h
        split at h
        · rename_i hc2
          obtain ⟨c5, c6⟩ := hc2
          obtain ⟨r, hr, h⟩ := Option.bind_eq_some_iff.1 h
          simp only [Option.some.injEq] at h
          subst h
          obtain ⟨e1, e2⟩ := SR_drop hS b
          obtain ⟨I1, a1, b1, f1, d1, d2, d3⟩ := fzs_sound x.cells (m.put b none) r.2 I r.1 _ hr e1 g3
          have s12 := e2.trans b1
          have hng : ¬ I g := (hB.wr c3).1
          have hdom : ∀ b' k' x' o', r.2.at_ b' = some k' → ρ b' = some (x', o') → x' ≠ g := by
            rintro b' k' x' o' q1 q2 rfl
            have := fzs_blk x.cells (m.put b none) r.2 r.1 hr b'
            by_cases e : b' = b
            · have h0 : (m.put b none).at_ b' = none := by simp [Mem.put, e]
              rw [h0] at this
              rw [this] at q1
              cases q1
            · have h0 : (m.put b none).at_ b' = m.at_ b' := by simp [Mem.put, e]
              rw [h0] at this
              cases hq : m.at_ b' with
              | none => rw [hq] at this; rw [this] at q1; cases q1
              | some k2 => exact e (hS.inj b b' k k2 _ o o' hk hq hb q2 c3).symm
          have hng1 : ¬ I1 g := by
            intro hI
            rcases b1.back g hI with h1 | ⟨b', k', o', h1, h2, h3⟩ | h1
            · exact hng h1
            · by_cases e : b' = b
              · simp [Mem.put, e] at h1
              · have h0 : (m.put b none).at_ b' = m.at_ b' := by simp [Mem.put, e]
                rw [h0] at h1
                exact e (hS.inj b b' k k' _ o o' hk h1 hb h3 c3).symm
            · have := heap_lt hh; omega
          obtain ⟨arr', h1, h2, h3⟩ := setCells_heap g v.cells.toList (o + off) w arr k.el fr hh
          obtain ⟨r1, r2, r3, r4⟩ := setCells_rest g v.cells.toList (o + off) w
          have hsh : ∀ x y, w.shape? x = some y → (w.setCells g (o + off) v.cells.toList).shape? x = some y := by
            intro x y hx
            by_cases e : x = g
            · subst e
              rw [shape_of_heap h1, h2, ← shape_of_heap hh]; exact hx
            · rw [shape_same (setCells_other g _ _ w x e)]; exact hx
          have hkp : Keeps w (w.setCells g (o + off) v.cells.toList) I1 (fun y => I1 y ∨ y = g) := ⟨fun _ h => .inl h, fun y hy => setCells_other g _ _ w y (fun e => hng1 (e ▸ hy)), hsh⟩
          refine ⟨(), _, (fun y => I1 y ∨ y = g), ρ, hrun, by simp only [undefA, undef, VR], ⟨fun b' k' x' o' q1 q2 => ?_, a1.inj, fun y hy => ?_⟩, ⟨r1, r2, r3, by rw [r4]; exact Nat.le_refl _, fun y hy hn => setCells_other g _ _ w y (fun e => hn ⟨b, k, o, hk, c3, by rw [e]; exact hb⟩), hsh, fun y hy => .inl (s12.imm y hy), fun y hy => ?_, fun _ _ h => h, fun b h1 h2 => absurd h1 h2, fun y hy => s12.own y hy, s12.next⟩, fun d' y hy => ?_⟩
          · refine BR_keep hkp (fun _ _ h => h) (a1.blk b' k' x' o' q1 q2) (setCells_other g _ _ w x' (hdom b' k' x' o' q1 q2)) (fun hwr hI => ?_)
            rcases hI with hI | hI
            · exact ((a1.blk b' k' x' o' q1 q2).wr hwr).1 hI
            · exact hdom b' k' x' o' q1 q2 hI
          · rw [r4]
            rcases hy with hy | rfl
            · exact a1.lt y hy
            · exact heap_lt hh
          · rcases hy with hy | rfl
            · exact s12.back y hy
            · exact .inr (.inl ⟨b, k, o, hk, c3, hb⟩)
          · simp only [Option.some.injEq, Prod.mk.injEq] at hy
            obtain ⟨rfl, rfl⟩ := hy
            simp only [VR]
            refine ⟨g, o + off, rfl, .inr rfl, d3 g2, ?_⟩
            refine VRs_congr (VRs_keep hkp (fun _ _ h => h) _ _ d1) fun j hj => ?_
            rw [cell_of_row _ _ _ _ _ _ h1, h3, if_pos (by omega)]
            simp
        · cases h
      · rename_i hkind
        simp only [outV, Option.some.injEq] at h
        subst h
        rw [hkind] at hcells
        obtain ⟨s1, s2⟩ := SR_write (k' := ⟨splice k.cells off x.cells, k.el, .var, true⟩) hS hk c3 hb (vs := v.cells.toList) (p := o + off) ⟨rfl, rfl, AllOne_splice hB.one g2 _⟩ (fun arr0 fr0 e0 hc0 arr' e1 e2 => by
          rw [hkind] at hc0
          simp only [reduceCtorEq, if_false] at hc0 ⊢
          exact splice_VRs rfl (by omega) hvl hc0 (by simpa using g3) e2)
        exact ⟨(), _, _, _, hrun, by simp only [undefA, undef, VR], s1, s2, fun d y h => by cases h⟩
      · rename_i hkind
        obtain ⟨r, hr, h⟩ := Option.bind_eq_some_iff.1 h
        obtain ⟨k1, hk1, h⟩ := Option.bind_eq_some_iff.1 h
        split at h
        · rename_i hw1
          simp only [outV, Option.some.injEq] at h
          subst h
          obtain ⟨I1, a1, b1, e1, d1, d2, d3⟩ := fzs_sound x.cells m r.2 I r.1 _ hr hS g3
          have hblk := fzs_blk x.cells m r.2 r.1 hr b
          rw [hk] at hblk
          obtain ⟨wr, h5, h6⟩ := hblk
          rw [hk1, Option.some.injEq] at h5
          subst h5
          simp only at hw1
          obtain ⟨s1, s2⟩ := SR_write (k' := ⟨splice k.cells off r.1, k.el, .flat, true⟩) a1 hk1 hw1 hb (vs := v.cells.toList) (p := o + off) ⟨rfl, rfl, AllOne_splice hB.one (d3 g2) _⟩ (fun arr0 fr0 e0 hc0 arr' e1 e2 => by
            simp only [hkind, if_true] at hc0 ⊢
            exact splice_VRs rfl (by rw [d2]; omega) (by rw [d2]; exact hvl) hc0 (by simpa using d1) e2)
          exact ⟨(), _, _, _, hrun, by simp only [undefA, undef, VR], s1, b1.trans s2, fun d y h => by cases h⟩
        · cases h
    · cases h
  · cases h
end
end Go.Tw
