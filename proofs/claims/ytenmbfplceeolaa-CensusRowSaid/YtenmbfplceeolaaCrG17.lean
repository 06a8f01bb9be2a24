import Derived.Test.YtenmbfplceeolaaCmG16
/- Wiped drives: plain laws. -/
set_option linter.unusedVariables false
set_option linter.unusedSimpArgs false
set_option maxRecDepth 10000
namespace Go.Proofs.Ytenmbfplceeolaa
open Go Go.Tw Go.Proofs

/-- is a drive wiped? -/
def wipB (l : List Bool) (i : Nat) : Bool := l.getD i false
/-- a row with its first n drives wiped where told -/
def wipeP (l : List Bool) (ps : List PairB) (n : Nat) : List PairB := ps.mapIdx fun i p => if i < n ∧ wipB l i = true then ([], []) else p
/-- how many are wiped -/
def goneN (l : List Bool) (n : Nat) : Nat := ((List.range n).filter (wipB l)).length
theorem goneN_succ (l : List Bool) (n : Nat) : goneN l (n + 1) = goneN l n + (if wipB l n = true then 1 else 0) := by
  unfold goneN
  rw [List.range_succ, List.filter_append, List.length_append]
  cases h : wipB l n <;> simp [h]
theorem goneN_le (l : List Bool) (n : Nat) : goneN l n ≤ n := by
  unfold goneN
  have := List.length_filter_le (wipB l) (List.range n)
  rw [List.length_range] at this
  exact this
theorem wipe_len (l : List Bool) (ps : List PairB) (n : Nat) : (wipeP l ps n).length = ps.length := by simp [wipeP]
theorem wipe_at {l : List Bool} {ps : List PairB} {n i : Nat} {p : PairB} (h : ps[i]? = some p) : (wipeP l ps n)[i]? = some (if i < n ∧ wipB l i = true then ([], []) else p) := by
  unfold wipeP
  rw [List.getElem?_mapIdx, h]
  rfl
theorem wipe_zero (l : List Bool) (ps : List PairB) : wipeP l ps 0 = ps := by
  apply List.ext_getElem?
  intro i
  cases h : ps[i]? with
  | none => rw [List.getElem?_eq_none (by rw [wipe_len]; exact List.getElem?_eq_none_iff.1 h)]
  | some p => rw [wipe_at h, if_neg (by omega)]
theorem wipe_row {k r c : Int} {l : List Bool} {ps : List PairB} {n : Nat} (h : rowB k r c ps = true) : rowB k r c (wipeP l ps n) = true := by
  unfold rowB at h ⊢
  simp only [Bool.and_eq_true, decide_eq_true_eq, List.all_eq_true] at h ⊢
  refine ⟨by rw [wipe_len]; exact h.1, fun p hp => ?_⟩
  obtain ⟨i, hi⟩ := List.getElem?_of_mem hp
  have hil := (List.getElem?_eq_some_iff.1 hi).1
  rw [wipe_len] at hil
  have hpi : ps[i]? = some ps[i] := List.getElem?_eq_getElem hil
  rw [wipe_at hpi] at hi
  split at hi
  · cases hi; rfl
  · cases hi; exact h.2 _ (List.mem_of_getElem? hpi)
theorem wipe_chk {k r c w : Int} {l : List Bool} {ps : List PairB} {n : Nat} (h : chkI k r c w ps = 0) : chkI k r c w (wipeP l ps n) = 0 := by
  obtain ⟨h1, h2, _⟩ := chk_ok h
  unfold chkI
  rw [h1, wipe_row h2]
  rfl
theorem wipe_held {k r c w : Int} {l : List Bool} {ps : List PairB} {n i : Nat} (hm : mayB k r c w = true) {x : Int × Int} (h : (heldsP k r c w ps)[i]? = some x) : (heldsP k r c w (wipeP l ps n))[i]? = some (if i < n ∧ wipB l i = true then (0, 0) else x) := by
  have hil := (List.getElem?_eq_some_iff.1 h).1
  rw [helds_len] at hil
  have hpi : ps[i]? = some ps[i] := List.getElem?_eq_getElem hil
  rw [helds_at hpi] at h
  cases h
  rw [helds_at (wipe_at hpi)]
  split
  · simp only [blank_held k r c w i hm]
  · rfl
theorem wipe_holds {k r c w : Int} {l : List Bool} {ps : List PairB} {n i : Nat} (hm : mayB k r c w = true) {v : Int} (hv : 0 < v) : holdsAt (heldsP k r c w (wipeP l ps n)) i v = (holdsAt (heldsP k r c w ps) i v && !(decide (i < n) && wipB l i)) := by
  unfold holdsAt
  cases h : (heldsP k r c w ps)[i]? with
  | none =>
    have : (heldsP k r c w (wipeP l ps n))[i]? = none := by
      rw [List.getElem?_eq_none_iff, helds_len] at h ⊢
      rw [wipe_len]
      exact h
    rw [this]
    rfl
  | some x =>
    rw [wipe_held hm h]
    by_cases hc : i < n ∧ wipB l i = true
    · rw [if_pos hc]
      have : ¬ (0 : Int) = v := by omega
      simp [hc.1, hc.2, this]
    · rw [if_neg hc]
      have : (decide (i < n) && wipB l i) = false := by
        rw [Bool.and_eq_false_iff]
        by_cases h1 : i < n
        · right
          cases hw : wipB l i with
          | false => rfl
          | true => exact absurd ⟨h1, hw⟩ hc
        · left; simpa using h1
      rw [this]
      simp
theorem wipe_cells_le {k r c w : Int} {l : List Bool} {ps : List PairB} {n : Nat} (hm : mayB k r c w = true) {v : Int} (hv : 0 < v) : ∀ m, (cellsN (heldsP k r c w (wipeP l ps n)) v m).length ≤ (cellsN (heldsP k r c w ps) v m).length
  | 0 => Nat.le_refl _
  | m + 1 => by
    have ih := wipe_cells_le (l := l) (ps := ps) (n := n) hm hv m
    rw [cellsN_succ, cellsN_succ, wipe_holds hm hv, List.length_append, List.length_append]
    cases h : holdsAt (heldsP k r c w ps) m v <;> cases h2 : (decide (m < n) && wipB l m) <;> simp <;> omega
theorem wipe_cells_ge {k r c w : Int} {l : List Bool} {ps : List PairB} {n : Nat} (hm : mayB k r c w = true) {v : Int} (hv : 0 < v) : ∀ m, (cellsN (heldsP k r c w ps) v m).length ≤ (cellsN (heldsP k r c w (wipeP l ps n)) v m).length + goneN l m
  | 0 => Nat.zero_le _
  | m + 1 => by
    have ih := wipe_cells_ge (l := l) (ps := ps) (n := n) hm hv m
    rw [cellsN_succ, cellsN_succ, wipe_holds hm hv, List.length_append, List.length_append, goneN_succ]
    cases h : holdsAt (heldsP k r c w ps) m v <;> cases h2 : wipB l m <;> cases h3 : decide (m < n) <;> simp <;> omega
/-- what counts where drives are wiped counts where they are not -/
theorem wipe_cnt {k r c w : Int} {l : List Bool} {ps : List PairB} {n : Nat} (hc : chkI k r c w ps = 0) {v : Int} (hv : v ∈ cntP k r c w (wipeP l ps n)) : v ∈ cntP k r c w ps := by
  obtain ⟨hm, _⟩ := chk_ok hc
  have hc2 := wipe_chk (l := l) (n := n) hc
  unfold cntP at hv ⊢
  rw [cnt_mem] at hv ⊢
  unfold talT at hv ⊢
  rw [if_pos hc2] at hv
  rw [if_pos hc]
  obtain ⟨h1, h2⟩ := hv
  obtain ⟨h3, h4, i, x, hx, hh⟩ := ((versF_falls _).mem v).1 h1
  have hil := (List.getElem?_eq_some_iff.1 hx).1
  rw [helds_len, wipe_len] at hil
  have hy : (heldsP k r c w ps)[i]? = some ((heldsP k r c w ps)[i]'(by rw [helds_len]; exact hil)) := List.getElem?_eq_getElem _
  rw [wipe_held hm hy] at hx
  refine ⟨((versF_falls _).mem v).2 ⟨h3, h4, i, _, hy, ?_⟩, ?_⟩
  · split at hx
    · cases hx; simp at hh; omega
    · cases hx; exact hh
  · unfold cntB at h2 ⊢
    rw [helds_len, wipe_len] at h2
    rw [helds_len]
    rw [decide_eq_true_eq] at h2 ⊢
    have := wipe_cells_le (l := l) (ps := ps) (n := n) hm h3 ps.length
    omega
theorem tal_pw (k r c w : Int) (ps : List PairB) : (talT k r c w ps).Pairwise (· > ·) ∧ ∀ x ∈ talT k r c w ps, 1 ≤ x ∧ x ≤ 1073741824 := by
  unfold talT
  split
  · refine ⟨(versF_falls _).pw, fun x hx => ?_⟩
    have := ((versF_falls _).mem x).1 hx
    have := helds_lt x this.2.2
    omega
  · exact ⟨.nil, fun x hx => by cases hx⟩
theorem win_mem {k r c w : Int} {ps : List PairB} (h : 1 ≤ (cntP k r c w ps).length) : (cntP k r c w ps).getD 0 0 ∈ cntP k r c w ps := by
  cases hl : cntP k r c w ps with
  | nil => rw [hl] at h; simp at h
  | cons a l => exact List.mem_cons_self
theorem win_ge {k r c w : Int} {ps : List PairB} {v : Int} (hv : v ∈ cntP k r c w ps) : v ≤ (cntP k r c w ps).getD 0 0 := by
  obtain ⟨h1, h2⟩ := tal_pw k r c w ps
  unfold cntP at hv ⊢
  rw [cnt_mem] at hv
  exact cnt_zero h1 (fun x hx => (h2 x hx).1) hv.1 hv.2
/-- W5 of the winner -/
theorem wipe_le {k r c w : Int} {l : List Bool} {ps : List PairB} {n : Nat} (hc : chkI k r c w ps = 0) (h : 1 ≤ (cntP k r c w (wipeP l ps n)).length) : 1 ≤ (cntP k r c w ps).length ∧ (cntP k r c w (wipeP l ps n)).getD 0 0 ≤ (cntP k r c w ps).getD 0 0 := by
  have hm := wipe_cnt hc (win_mem h)
  exact ⟨List.length_pos_of_mem hm, win_ge hm⟩
theorem wipe_all {k r c w : Int} {l : List Bool} {ps : List PairB} (hc : chkI k r c w ps = 0) (hg : goneN l ps.length = ps.length) : (cntP k r c w (wipeP l ps ps.length)).length = 0 := by
  obtain ⟨hm, _⟩ := chk_ok hc
  have hall : ∀ i, i < ps.length → wipB l i = true := by
    have key : ∀ n, goneN l n = n → ∀ i, i < n → wipB l i = true := by
      intro n
      induction n with
      | zero => intro _ i h; omega
      | succ n ih =>
        intro h i hi
        rw [goneN_succ] at h
        have := goneN_le l n
        cases hw : wipB l n with
        | false => rw [hw] at h; simp at h; omega
        | true =>
          rw [hw] at h
          simp at h
          by_cases hin : i = n
          · rw [hin]; exact hw
          · exact ih h i (by omega)
    exact key _ hg
  by_cases h0 : (cntP k r c w (wipeP l ps ps.length)).length = 0
  · exact h0
  · exfalso
    have hv := win_mem (k := k) (r := r) (c := c) (w := w) (ps := wipeP l ps ps.length) (by omega)
    generalize (cntP k r c w (wipeP l ps ps.length)).getD 0 0 = v at hv
    unfold cntP at hv
    rw [cnt_mem] at hv
    unfold talT at hv
    rw [if_pos (wipe_chk hc)] at hv
    obtain ⟨h3, _, i, x, hx, hh⟩ := ((versF_falls _).mem v).1 hv.1
    have hil := (List.getElem?_eq_some_iff.1 hx).1
    rw [helds_len, wipe_len] at hil
    have hy : (heldsP k r c w ps)[i]? = some ((heldsP k r c w ps)[i]'(by rw [helds_len]; exact hil)) := List.getElem?_eq_getElem _
    rw [wipe_held hm hy, if_pos ⟨hil, hall i hil⟩] at hx
    cases hx
    simp at hh
    omega
theorem wipe_keeps {k r c w : Int} {l : List Bool} {ps : List PairB} (hc : chkI k r c w ps = 0) (his : 1 ≤ (cntP k r c w ps).length) (hmis : (missN (heldsP k r c w ps) ((cntP k r c w ps).getD 0 0) ps.length).length = 0) (hg : (goneN l ps.length : Int) ≤ r) : 1 ≤ (cntP k r c w (wipeP l ps ps.length)).length ∧ (cntP k r c w (wipeP l ps ps.length)).getD 0 0 = (cntP k r c w ps).getD 0 0 := by
  obtain ⟨hm, _, hkr, _⟩ := chk_ok hc
  have hmn := may_n hm
  have hw := win_mem his
  generalize hW : (cntP k r c w ps).getD 0 0 = W at *
  have hw2 := hw
  unfold cntP at hw2
  rw [cnt_mem] at hw2
  obtain ⟨hwT, hwc⟩ := hw2
  have hb := (tal_pw k r c w ps).2 W hwT
  have hcm := cells_miss (heldsP k r c w ps) W ps.length
  have hge := wipe_cells_ge (l := l) (ps := ps) (n := ps.length) hm (v := W) (by omega) ps.length
  have hcnt : (k : Int) ≤ ((cellsN (heldsP k r c w (wipeP l ps ps.length)) W ps.length).length : Nat) := by omega
  have hmem : W ∈ cntP k r c w (wipeP l ps ps.length) := by
    unfold cntP
    rw [cnt_mem]
    constructor
    · unfold talT
      rw [if_pos (wipe_chk hc)]
      refine ((versF_falls _).mem W).2 ⟨by omega, by omega, ?_⟩
      have hpos : (cellsN (heldsP k r c w (wipeP l ps ps.length)) W ps.length) ≠ [] := by
        intro h
        rw [h] at hcnt
        simp at hcnt
        omega
      obtain ⟨x, hx⟩ := List.exists_mem_of_ne_nil _ hpos
      obtain ⟨i, _, _, hh⟩ := cells_mem.1 hx
      unfold holdsAt at hh
      cases hy : (heldsP k r c w (wipeP l ps ps.length))[i]? with
      | none => rw [hy] at hh; simp at hh
      | some y =>
        rw [hy] at hh
        exact ⟨i, y, hy, by simpa using hh⟩
    · unfold cntB
      rw [helds_len, wipe_len, decide_eq_true_eq]
      exact hcnt
  have h1 : 1 ≤ (cntP k r c w (wipeP l ps ps.length)).length := List.length_pos_of_mem hmem
  refine ⟨h1, ?_⟩
  have h2 := win_ge hmem
  have h3 := (wipe_le hc h1).2
  rw [hW] at h3
  omega
end Go.Proofs.Ytenmbfplceeolaa

set_option linter.unusedVariables false
set_option linter.unusedSimpArgs false
set_option maxRecDepth 10000
namespace Go.Proofs.Ytenmbfplceeolaa
open Go Go.Tw Go.Proofs

def boolsA (l : List Bool) : List AV := l.map boolV
theorem bool_at {l : List Bool} {x : List AV} {i : Nat} {b : Bool} (h : l[i]? = some b) : (boolsA l ++ x)[i]? = some (.val (.bool b)) := by
  have hi := (List.getElem?_eq_some_iff.1 h).1
  rw [List.getElem?_append_left (by simpa [boolsA] using hi)]
  simp [boolsA, h, boolV]
/-- cells of a row with its first drives wiped -/
def wcA (l : List Bool) (cs : List AV) (n : Nat) : List AV := cs.mapIdx fun j c => if j / 2 < n ∧ wipB l (j / 2) = true then nilS else c
theorem wcA_len (l : List Bool) (cs : List AV) (n : Nat) : (wcA l cs n).length = cs.length := by simp [wcA]
theorem wcA_at {l : List Bool} {cs : List AV} {n j : Nat} {c : AV} (h : cs[j]? = some c) : (wcA l cs n)[j]? = some (if j / 2 < n ∧ wipB l (j / 2) = true then nilS else c) := by
  unfold wcA
  rw [List.getElem?_mapIdx, h]
  rfl
theorem wcA_ext {l : List Bool} {cs : List AV} {n n' : Nat} (h : ∀ j, j < cs.length → (j / 2 < n ∧ wipB l (j / 2) = true ↔ j / 2 < n' ∧ wipB l (j / 2) = true)) : wcA l cs n = wcA l cs n' := by
  apply List.ext_getElem?
  intro j
  cases hc : cs[j]? with
  | none =>
    have := List.getElem?_eq_none_iff.1 hc
    rw [List.getElem?_eq_none (by rw [wcA_len]; exact this), List.getElem?_eq_none (by rw [wcA_len]; exact this)]
  | some c =>
    have hj := (List.getElem?_eq_some_iff.1 hc).1
    rw [wcA_at hc, wcA_at hc]
    simp only [h j hj]
theorem wcA_zero (l : List Bool) (cs : List AV) : wcA l cs 0 = cs := by
  apply List.ext_getElem?
  intro j
  cases hc : cs[j]? with
  | none => rw [List.getElem?_eq_none (by rw [wcA_len]; exact List.getElem?_eq_none_iff.1 hc)]
  | some c => rw [wcA_at hc, if_neg (by omega)]
theorem wcA_put {l : List Bool} {cs : List AV} {i : Nat} (hw : wipB l i = true) (hi : i * 2 + 2 ≤ cs.length) : splice (wcA l cs i) (i * 2) [nilS, nilS] = wcA l cs (i + 1) := by
  unfold splice
  apply List.ext_getElem?
  intro j
  have hl := wcA_len l cs i
  have htl : ((wcA l cs i).take (i * 2)).length = i * 2 := by rw [List.length_take, hl]; omega
  by_cases hj : j < i * 2
  · rw [List.append_assoc, List.getElem?_append_left (by rw [htl]; exact hj), List.getElem?_take_of_lt hj]
    have hc : cs[j]? = some (cs[j]'(by omega)) := List.getElem?_eq_getElem _
    rw [wcA_at hc, wcA_at hc]
    have h1 : j / 2 < i := by omega
    have h2 : j / 2 < i + 1 := by omega
    simp [h1, h2]
  · rw [List.append_assoc, List.getElem?_append_right (by rw [htl]; omega), htl]
    by_cases hj2 : j < i * 2 + 2
    · have hc : cs[j]? = some (cs[j]'(by omega)) := List.getElem?_eq_getElem _
      have h1 : j / 2 = i := by omega
      rw [wcA_at hc, h1, if_pos ⟨by omega, hw⟩]
      have : j - i * 2 = 0 ∨ j - i * 2 = 1 := by omega
      rcases this with e | e <;> rw [e] <;> rfl
    · rw [List.getElem?_append_right (by simp; omega), List.getElem?_drop]
      have e : i * 2 + ([nilS, nilS] : List AV).length + (j - i * 2 - ([nilS, nilS] : List AV).length) = j := by simp; omega
      rw [e]
      cases hc : cs[j]? with
      | none =>
        have := List.getElem?_eq_none_iff.1 hc
        rw [List.getElem?_eq_none (by rw [wcA_len]; exact this), List.getElem?_eq_none (by rw [wcA_len]; exact this)]
      | some c =>
        rw [wcA_at hc, wcA_at hc, if_neg (by omega)]
        have h1 : ¬ j / 2 < i + 1 := by omega
        simp [h1]
theorem row_len {v : AV} {ps : List PairB} {cells : List AV} (hv : RowV v ps cells) : ps.length * 2 ≤ cells.length := by
  by_cases h : ps.length = 0
  · rw [h]; omega
  · obtain ⟨p, hp⟩ : ∃ p, ps[ps.length - 1]? = some p := ⟨_, List.getElem?_eq_getElem (by omega)⟩
    obtain ⟨a, b, xa, xb, h1, h2, _⟩ := hv.at_ _ _ hp
    have := (List.getElem?_eq_some_iff.1 h2).1
    omega
theorem plains_of : ∀ (l : List AV), (∀ c ∈ l, plain c = true) → plains l = true
  | [], _ => rfl
  | c :: l, h => by simp only [plains, h c (by simp), plains_of l fun x hx => h x (by simp [hx]), Bool.and_self]
theorem wiped_row {v : AV} {ps : List PairB} {cells : List AV} (hv : RowV v ps cells) (l : List Bool) (n : Nat) : RowV (.tree ps.length ps.length (wcA l (cells.take (ps.length * 2)) n) false) (wipeP l ps n) (wcA l (cells.take (ps.length * 2)) n) ∧ plains (wcA l (cells.take (ps.length * 2)) n) = true := by
  have hcl := row_len hv
  have hat : ∀ i p, ps[i]? = some p → ∃ a b xa xb, (cells.take (ps.length * 2))[i * 2]? = some a ∧ (cells.take (ps.length * 2))[i * 2 + 1]? = some b ∧ RdSl a p.1.length (bytesA p.1 ++ xa) ∧ RdSl b p.2.length (bytesA p.2 ++ xb) := by
    intro i p hp
    have hi := (List.getElem?_eq_some_iff.1 hp).1
    obtain ⟨a, b, xa, xb, h1, h2, h3, h4⟩ := hv.at_ i p hp
    exact ⟨a, b, xa, xb, by rw [List.getElem?_take_of_lt (by omega)]; exact h1, by rw [List.getElem?_take_of_lt (by omega)]; exact h2, h3, h4⟩
  refine ⟨⟨⟨.inr (.inr ⟨ps.length, false, by rw [wipe_len], by rw [wipe_len]; exact Nat.le_refl _⟩)⟩, fun i p hp => ?_⟩, plains_of _ fun c hc => ?_⟩
  · have hi := (List.getElem?_eq_some_iff.1 hp).1
    rw [wipe_len] at hi
    have hq : ps[i]? = some ps[i] := List.getElem?_eq_getElem hi
    obtain ⟨a, b, xa, xb, h1, h2, h3, h4⟩ := hat i _ hq
    rw [wipe_at hq] at hp
    have e1 : i * 2 / 2 = i := by omega
    have e2 : (i * 2 + 1) / 2 = i := by omega
    by_cases hc : i < n ∧ wipB l i = true
    · rw [if_pos hc] at hp
      cases hp
      exact ⟨nilS, nilS, [], [], by rw [wcA_at h1, e1, if_pos hc], by rw [wcA_at h2, e2, if_pos hc], nil_rd, nil_rd⟩
    · rw [if_neg hc] at hp
      cases hp
      exact ⟨a, b, xa, xb, by rw [wcA_at h1, e1, if_neg hc], by rw [wcA_at h2, e2, if_neg hc], h3, h4⟩
  · obtain ⟨j, hj⟩ := List.getElem?_of_mem hc
    have hjl := (List.getElem?_eq_some_iff.1 hj).1
    rw [wcA_len, List.length_take] at hjl
    have hi : j / 2 < ps.length := by omega
    obtain ⟨a, b, xa, xb, h1, h2, h3, h4⟩ := hat (j / 2) _ (List.getElem?_eq_getElem hi)
    have hjj : j = j / 2 * 2 ∨ j = j / 2 * 2 + 1 := by omega
    rcases hjj with e | e
    · rw [← e] at h1
      rw [wcA_at h1] at hj
      split at hj
      · cases hj; rfl
      · cases hj; exact h3.plain
    · rw [← e] at h2
      rw [wcA_at h2] at hj
      split at hj
      · cases hj; rfl
      · cases hj; exact h4.plain
end Go.Proofs.Ytenmbfplceeolaa

set_option linter.unusedVariables false
set_option linter.unusedSimpArgs false
set_option maxRecDepth 10000
namespace Go.Proofs.Ytenmbfplceeolaa
open Go Go.Tw Go.Proofs

def firm : AV → Bool
  | .val _ => true
  | .tree .. => true
  | _ => false
theorem fz_firm {P : Program} {rows : List (TypeId × List AV)} (d : Nat) : ∀ (cs : List AV), (∀ c ∈ cs, firm c = true) → fzVs P rows d cs = cs ∧ fzOks P rows d cs = true
  | [], _ => by unfold fzVs fzOks; exact ⟨rfl, rfl⟩
  | c :: cs, h => by
    obtain ⟨h1, h2⟩ := fz_firm (P := P) (rows := rows) d cs fun x hx => h x (by simp [hx])
    have hc := h c (by simp)
    unfold fzVs fzOks
    rw [h1, h2]
    cases c <;> simp [firm] at hc <;> (cases d <;> (unfold fzV fzOk; exact ⟨rfl, rfl⟩))
theorem frozen_ownV {P : Program} {f : FuncId} {args : List AV} {el : TypeId} {n : Nat} {cells : List AV} (hk : kindT P el = .var) (hf : ∀ c ∈ cells, firm c = true) (h : FSpec P f args (ownR el n cells)) : FSpec P f args ⟨treeR n cells, []⟩ := by
  obtain ⟨h1, h2⟩ := fz_firm (P := P) (rows := (ownR el n cells).rows) 0 cells hf
  have h3 := fspec_frozen 1 h (by
    unfold ownR at h2 ⊢
    split
    · simp [fzOk, nilS]
    · rename_i hn
      rw [if_neg hn] at h2
      simp only at h2
      simp [fzOk, hk, h2])
  have e2 : fzV P (ownR el n cells).rows 1 (ownR el n cells).v = treeR n cells := by
    unfold treeR
    unfold ownR at h1 ⊢
    split
    · simp [fzV, nilS]
    · rename_i hn
      rw [if_neg hn] at h1
      simp only at h1
      simp [fzV, hk, h1]
  rw [e2] at h3
  exact h3
theorem firm_treeR (n : Nat) (cs : List AV) : firm (treeR n cs) = true := by unfold treeR; split <;> rfl
theorem tCells_firm (hs : List (Int × Int)) (T : List Int) : ∀ c ∈ tCells hs T, firm c = true := by
  intro x hx
  unfold tCells at hx
  rw [List.mem_flatMap] at hx
  obtain ⟨v, _, hx⟩ := hx
  rw [List.mem_cons, List.mem_singleton] at hx
  rcases hx with rfl | rfl
  · rfl
  · exact firm_treeR _ _
theorem ref14_All_fz (k r c w : Int) (v : AV) (ps : List PairB) (cells : List AV) (hv : RowV v ps cells) (hm : mayB k r c w = true) (hn : ps.length ≤ 1000000) : FSpec Try.prog 84 [parV k r c w, v] ⟨treeR (versF (heldsP k r c w ps)).length (tCells (heldsP k r c w ps) (versF (heldsP k r c w ps))), []⟩ :=
  frozen_ownV (by kernel_rfl) (tCells_firm _ _) (ref14_All k r c w v ps cells hv hm hn)
/-- where the parameters and the row may be -/
theorem all_talT {k r c w : Int} {v : AV} {ps : List PairB} {cells : List AV} (hv : RowV v ps cells) (hc : chkI k r c w ps = 0) : FSpec Try.prog 84 [parV k r c w, v] ⟨treeR (talT k r c w ps).length (tCells (heldsP k r c w ps) (talT k r c w ps)), []⟩ := by
  obtain ⟨hm, _, _, h16⟩ := chk_ok hc
  have h := ref14_All_fz k r c w v ps cells hv hm (by omega)
  have : talT k r c w ps = versF (heldsP k r c w ps) := by unfold talT; rw [if_pos hc]
  rw [this]
  exact h
theorem ref14_Tallies (k r c w : Int) (v : AV) (ps : List PairB) (cells : List AV) (hv : RowV v ps cells) : FSpec Try.prog 43 [parV k r c w, v] ⟨.tup [treeR (talT k r c w ps).length (tCells (heldsP k r c w ps) (talT k r c w ps)), intV (chkI k r c w ps)], []⟩ := by
  have hp := hv.rd.plain
  have hk := ref14_Check k r c w v ps cells hv
  by_cases hc : chkI k r c w ps = 0
  · have ha := all_talT hv hc
    rw [hc] at hk ⊢
    generalize talT k r c w ps = T at *
    generalize heldsP k r c w ps = hs at *
    have hcan := fun m ids rows => rd_canon (P := Try.prog) (m := m) (treeR_rd T.length (tCells hs T)) 3 ids rows
    refine fspec_of_body follows Try.func43 (by unfold Try.f43; rfl) (by unfold Try.f43; simp) onceA (by unfold Try.f43; simp) (by kernel_rfl) ?_; unfold Try.f43
    simp only [↓pre, post, ↓reduceIte, Nat.reduceEqDiff, Nat.reduceAdd, Nat.reduceMul, Nat.reduceSub, Nat.reduceLeDiff, Nat.reduceMod, Nat.reduceDiv, reduceCtorEq, Nat.reduceLT, Nat.reduceGT, Nat.reduceBEq, Option.isSome_some, ne_eq, Int.reduceEq, not_false_eq_true, bin_quo, bin_rem, List.length_cons, List.length_nil, List.map_cons, List.map_nil, List.append_nil, List.cons_append, List.nil_append, List.take_succ_cons, List.take_zero, List.drop_succ_cons, List.drop_zero, Nat.zero_add, Nat.add_zero, Nat.zero_le, Nat.le_refl, decide_true, decide_false, Bool.not_true, Bool.not_false, stepW, opE, intV, parV, boxE, loadE, partE, faddrE, fieldE, checkE, extractE, resultsE, resEs, resE, buildE, fillE, splice, if_true, if_false, Bool.false_eq_true, true_and, and_true, AV.cells, okA, oneA, fzs, fz, opTmp, Option.bind_some, Option.map_some, List.getElem?_cons_zero, List.getElem?_cons_succ, and_self, canonR, canon, canons, shift, shifts, pushAll, pushFrom, tys43, onceA, postU]
    (first | refine call_plain (hk) (by first | rfl | simp only [plains, plain, plain_treeR, parV, intV, boolV, Bool.and_true, Bool.and_self, *]) ?_ | refine call_pure (hk) (by first | rfl | simp only [plains, plain, plain_treeR, parV, intV, boolV, Bool.and_true, Bool.and_self, *]) (by intro k; first | rfl | simp only [shift, shifts, intV, boolV, *]) ?_); simp only [↓pre, post, ↓reduceIte, Nat.reduceEqDiff, Nat.reduceAdd, Nat.reduceMul, Nat.reduceSub, Nat.reduceLeDiff, Nat.reduceMod, Nat.reduceDiv, reduceCtorEq, Nat.reduceLT, Nat.reduceGT, Nat.reduceBEq, Option.isSome_some, ne_eq, Int.reduceEq, not_false_eq_true, bin_quo, bin_rem, List.length_cons, List.length_nil, List.map_cons, List.map_nil, List.append_nil, List.cons_append, List.nil_append, List.take_succ_cons, List.take_zero, List.drop_succ_cons, List.drop_zero, Nat.zero_add, Nat.add_zero, Nat.zero_le, Nat.le_refl, decide_true, decide_false, Bool.not_true, Bool.not_false, stepW, opE, intV, parV, boxE, loadE, partE, faddrE, fieldE, checkE, extractE, resultsE, resEs, resE, buildE, fillE, splice, if_true, if_false, Bool.false_eq_true, true_and, and_true, AV.cells, okA, oneA, fzs, fz, opTmp, Option.bind_some, Option.map_some, List.getElem?_cons_zero, List.getElem?_cons_succ, and_self, canonR, canon, canons, shift, shifts, pushAll, pushFrom, tys43, onceA, postU, postFz, hcan]; (first | refine call_plain (ha) (by first | rfl | simp only [plains, plain, plain_treeR, parV, intV, boolV, Bool.and_true, Bool.and_self, *]) ?_ | refine call_pure (ha) (by first | rfl | simp only [plains, plain, plain_treeR, parV, intV, boolV, Bool.and_true, Bool.and_self, *]) (by intro k; first | rfl | simp only [shift, shifts, intV, boolV, *]) ?_); simp only [↓pre, post, ↓reduceIte, Nat.reduceEqDiff, Nat.reduceAdd, Nat.reduceMul, Nat.reduceSub, Nat.reduceLeDiff, Nat.reduceMod, Nat.reduceDiv, reduceCtorEq, Nat.reduceLT, Nat.reduceGT, Nat.reduceBEq, Option.isSome_some, ne_eq, Int.reduceEq, not_false_eq_true, bin_quo, bin_rem, List.length_cons, List.length_nil, List.map_cons, List.map_nil, List.append_nil, List.cons_append, List.nil_append, List.take_succ_cons, List.take_zero, List.drop_succ_cons, List.drop_zero, Nat.zero_add, Nat.add_zero, Nat.zero_le, Nat.le_refl, decide_true, decide_false, Bool.not_true, Bool.not_false, stepW, opE, intV, parV, boxE, loadE, partE, faddrE, fieldE, checkE, extractE, resultsE, resEs, resE, buildE, fillE, splice, if_true, if_false, Bool.false_eq_true, true_and, and_true, AV.cells, okA, oneA, fzs, fz, opTmp, Option.bind_some, Option.map_some, List.getElem?_cons_zero, List.getElem?_cons_succ, and_self, canonR, canon, canons, shift, shifts, pushAll, pushFrom, tys43, onceA, postU, postFz, hcan]
  · have hT : talT k r c w ps = [] := by unfold talT; rw [if_neg hc]
    rw [hT]
    have n1 : treeR ([] : List Int).length (tCells (heldsP k r c w ps) []) = nilS := rfl
    rw [n1]
    generalize chkI k r c w ps = ck at *
    refine fspec_of_body follows Try.func43 (by unfold Try.f43; rfl) (by unfold Try.f43; simp) onceA (by unfold Try.f43; simp) (by kernel_rfl) ?_; unfold Try.f43
    simp only [↓pre, post, ↓reduceIte, Nat.reduceEqDiff, Nat.reduceAdd, Nat.reduceMul, Nat.reduceSub, Nat.reduceLeDiff, Nat.reduceMod, Nat.reduceDiv, reduceCtorEq, Nat.reduceLT, Nat.reduceGT, Nat.reduceBEq, Option.isSome_some, ne_eq, Int.reduceEq, not_false_eq_true, bin_quo, bin_rem, List.length_cons, List.length_nil, List.map_cons, List.map_nil, List.append_nil, List.cons_append, List.nil_append, List.take_succ_cons, List.take_zero, List.drop_succ_cons, List.drop_zero, Nat.zero_add, Nat.add_zero, Nat.zero_le, Nat.le_refl, decide_true, decide_false, Bool.not_true, Bool.not_false, stepW, opE, intV, parV, boxE, loadE, partE, faddrE, fieldE, checkE, extractE, resultsE, resEs, resE, buildE, fillE, splice, if_true, if_false, Bool.false_eq_true, true_and, and_true, AV.cells, okA, oneA, fzs, fz, opTmp, Option.bind_some, Option.map_some, List.getElem?_cons_zero, List.getElem?_cons_succ, and_self, canonR, canon, canons, shift, shifts, pushAll, pushFrom, tys43, onceA, postU]
    (first | refine call_plain (hk) (by first | rfl | simp only [plains, plain, plain_treeR, parV, intV, boolV, Bool.and_true, Bool.and_self, *]) ?_ | refine call_pure (hk) (by first | rfl | simp only [plains, plain, plain_treeR, parV, intV, boolV, Bool.and_true, Bool.and_self, *]) (by intro k; first | rfl | simp only [shift, shifts, intV, boolV, *]) ?_); simp only [↓pre, post, ↓reduceIte, Nat.reduceEqDiff, Nat.reduceAdd, Nat.reduceMul, Nat.reduceSub, Nat.reduceLeDiff, Nat.reduceMod, Nat.reduceDiv, reduceCtorEq, Nat.reduceLT, Nat.reduceGT, Nat.reduceBEq, Option.isSome_some, ne_eq, Int.reduceEq, not_false_eq_true, bin_quo, bin_rem, List.length_cons, List.length_nil, List.map_cons, List.map_nil, List.append_nil, List.cons_append, List.nil_append, List.take_succ_cons, List.take_zero, List.drop_succ_cons, List.drop_zero, Nat.zero_add, Nat.add_zero, Nat.zero_le, Nat.le_refl, decide_true, decide_false, Bool.not_true, Bool.not_false, stepW, opE, intV, parV, boxE, loadE, partE, faddrE, fieldE, checkE, extractE, resultsE, resEs, resE, buildE, fillE, splice, if_true, if_false, Bool.false_eq_true, true_and, and_true, AV.cells, okA, oneA, fzs, fz, opTmp, Option.bind_some, Option.map_some, List.getElem?_cons_zero, List.getElem?_cons_succ, and_self, canonR, canon, canons, shift, shifts, pushAll, pushFrom, tys43, onceA, postU, postFz, hc]
    rfl
/-- the first that counts, or none -/
def cntS (l : List Int) (W : Int) : Prop := (l = [] ∧ W = 0) ∨ (l = [W] ∧ 0 < W)
theorem ref14_Counts (k r c w : Int) (v : AV) (ps : List PairB) (cells : List AV) (hv : RowV v ps cells) (hc : chkI k r c w ps = 0) : FSpec Try.prog 85 [parV k r c w, v] ⟨.tup [intV ((cntP k r c w ps).getD 0 0), intV ((cntP k r c w ps).getD 1 0)], []⟩ := by
  have hp := hv.rd.plain
  have ha := all_talT hv hc
  have hTl := talT_len k r c w ps
  obtain ⟨hpw, hge⟩ := tal_pw k r c w ps
  unfold cntP
  generalize talT k r c w ps = T at *
  generalize heldsP k r c w ps = hs at *
  have hrd := treeR_rd T.length (tCells hs T)
  replace hpw := Hid.mk hpw
  replace hge := Hid.mk hge
  replace hTl := Hid.mk hTl
  replace hc := Hid.mk hc
  refine fspec_of_body follows Try.func85 (by unfold Try.f85; rfl) (by unfold Try.f85; simp) onceA (by unfold Try.f85; simp) (by kernel_rfl) ?_; unfold Try.f85
  simp only [↓pre, post, ↓reduceIte, Nat.reduceEqDiff, Nat.reduceAdd, Nat.reduceMul, Nat.reduceSub, Nat.reduceLeDiff, Nat.reduceMod, Nat.reduceDiv, reduceCtorEq, Nat.reduceLT, Nat.reduceGT, Nat.reduceBEq, Option.isSome_some, ne_eq, Int.reduceEq, not_false_eq_true, bin_quo, bin_rem, List.length_cons, List.length_nil, List.map_cons, List.map_nil, List.append_nil, List.cons_append, List.nil_append, List.take_succ_cons, List.take_zero, List.drop_succ_cons, List.drop_zero, Nat.zero_add, Nat.add_zero, Nat.zero_le, Nat.le_refl, decide_true, decide_false, Bool.not_true, Bool.not_false, stepW, opE, intV, parV, boxE, loadE, partE, faddrE, fieldE, checkE, extractE, resultsE, resEs, resE, buildE, fillE, splice, if_true, if_false, Bool.false_eq_true, true_and, and_true, AV.cells, okA, oneA, fzs, fz, opTmp, Option.bind_some, Option.map_some, List.getElem?_cons_zero, List.getElem?_cons_succ, and_self, canonR, canon, canons, shift, shifts, pushAll, pushFrom, tys85, onceA, postU]
  (first | refine call_plain (ha) (by first | rfl | simp only [plains, plain, plain_treeR, parV, intV, boolV, Bool.and_true, Bool.and_self, *]) ?_ | refine call_pure (ha) (by first | rfl | simp only [plains, plain, plain_treeR, parV, intV, boolV, Bool.and_true, Bool.and_self, *]) (by intro k; first | rfl | simp only [shift, shifts, intV, boolV, *]) ?_); simp only [↓pre, post, ↓reduceIte, Nat.reduceEqDiff, Nat.reduceAdd, Nat.reduceMul, Nat.reduceSub, Nat.reduceLeDiff, Nat.reduceMod, Nat.reduceDiv, reduceCtorEq, Nat.reduceLT, Nat.reduceGT, Nat.reduceBEq, Option.isSome_some, ne_eq, Int.reduceEq, not_false_eq_true, bin_quo, bin_rem, List.length_cons, List.length_nil, List.map_cons, List.map_nil, List.append_nil, List.cons_append, List.nil_append, List.take_succ_cons, List.take_zero, List.drop_succ_cons, List.drop_zero, Nat.zero_add, Nat.add_zero, Nat.zero_le, Nat.le_refl, decide_true, decide_false, Bool.not_true, Bool.not_false, stepW, opE, intV, parV, boxE, loadE, partE, faddrE, fieldE, checkE, extractE, resultsE, resEs, resE, buildE, fillE, splice, if_true, if_false, Bool.false_eq_true, true_and, and_true, AV.cells, okA, oneA, fzs, fz, opTmp, Option.bind_some, Option.map_some, List.getElem?_cons_zero, List.getElem?_cons_succ, and_self, canonR, canon, canons, shift, shifts, pushAll, pushFrom, tys85, onceA, postU, postA, boolV, cond_t, cond_f, eq_self, Nat.mul_one, postFz]
  rw [codeW_loop]
  refine loop_intro (fun q e m => ∃ i W, q + i = T.length ∧ e 1 = v ∧ e 2 = .tptr 0 [intV k, intV r, intV c, intV w] ∧ e 6 = treeR T.length (tCells hs T) ∧ e 7 = intV W ∧ e 8 = intV (i : Nat) ∧ Hid (cntS (cntT k hs (T.take i)) W)) T.length ⟨0, 0, by omega, rfl, rfl, rfl, rfl, rfl, ⟨.inl ⟨rfl, rfl⟩⟩⟩ ?_
  rintro q e m ⟨i, W, hqi, e1, e2, e6, e7, e8, hJ⟩
  replace hqi := Hid.mk hqi
  by_cases hlt : i < T.length
  · have hlt' : ((i : Nat) : Int) < ((T.length : Nat) : Int) := by omega
    have w1 := wrap_succ (n := i) (by have := hTl.out; omega)
    obtain ⟨z, hz⟩ : ∃ z, T[i]? = some z := ⟨_, List.getElem?_eq_getElem hlt⟩
    obtain ⟨t1, t2⟩ := tCells_at hs T i z hz
    have hz1 := hge.out z (List.mem_of_getElem? hz)
    have hcell : RdSl (tCell hs z) (cellsN hs z hs.length).length (intsA (cellsN hs z hs.length)) := treeR_rd _ _
    have htk : T.take (i + 1) = T.take i ++ [z] := by rw [List.take_add_one, hz]; rfl
    have hsplit : cntT k hs T = cntT k hs (T.take i) ++ ((if cntB k hs z = true then [z] else []) ++ cntT k hs (T.drop (i + 1))) := by
      conv => lhs; rw [← List.take_append_drop (i + 1) T, htk]
      unfold cntT
      rw [List.filter_append, List.filter_append, List.append_assoc]
      cases h : cntB k hs z <;> simp [h]
    have hct : cntT k hs (T.take (i + 1)) = cntT k hs (T.take i) ++ (if cntB k hs z = true then [z] else []) := by
      unfold cntT
      rw [htk, List.filter_append]
      cases h : cntB k hs z <;> simp [h]
    replace hz := Hid.mk hz
    replace htk := Hid.mk htk
    replace hct := Hid.mk hct
    replace hsplit := Hid.mk hsplit
    by_cases hb : ((cellsN hs z hs.length).length : Nat) < k
    · have hcb : cntB k hs z = false := by unfold cntB; rw [decide_eq_false (by omega)]
      simp only [↓pre, post, ↓reduceIte, Nat.reduceEqDiff, Nat.reduceAdd, Nat.reduceMul, Nat.reduceSub, Nat.reduceLeDiff, Nat.reduceMod, Nat.reduceDiv, reduceCtorEq, Nat.reduceLT, Nat.reduceGT, Nat.reduceBEq, Option.isSome_some, ne_eq, Int.reduceEq, not_false_eq_true, bin_quo, bin_rem, List.length_cons, List.length_nil, List.map_cons, List.map_nil, List.append_nil, List.cons_append, List.nil_append, List.take_succ_cons, List.take_zero, List.drop_succ_cons, List.drop_zero, Nat.zero_add, Nat.add_zero, Nat.zero_le, Nat.le_refl, decide_true, decide_false, Bool.not_true, Bool.not_false, stepW, opE, intV, parV, boxE, loadE, partE, faddrE, fieldE, checkE, extractE, resultsE, resEs, resE, buildE, fillE, splice, if_true, if_false, Bool.false_eq_true, true_and, and_true, AV.cells, okA, oneA, fzs, fz, opTmp, Option.bind_some, Option.map_some, List.getElem?_cons_zero, List.getElem?_cons_succ, and_self, canonR, canon, canons, shift, shifts, pushAll, pushFrom, tys85, onceA, postU, postA, boolV, cond_t, cond_f, eq_self, Nat.mul_one, postFz, e1, e2, e6, e7, e8, hlt', hrd.len', hrd.addr', hlt, t1, t2, hcell.len', hb, w1]
      refine ⟨q - 1, by have := hqi.out; omega, i + 1, W, by have := hqi.out; omega, rfl, rfl, ⟨?_⟩⟩
      rw [hct.out, if_neg (by rw [hcb]; decide), List.append_nil]
      exact hJ.out
    · have hcb : cntB k hs z = true := by unfold cntB; rw [decide_eq_true (by omega)]
      by_cases hW : 0 < W
      · have hl : cntT k hs T = W :: z :: cntT k hs (T.drop (i + 1)) := by
          rcases hJ.out with ⟨_, h0⟩ | ⟨h0, _⟩
          · omega
          · rw [hsplit.out, h0, if_pos hcb]; rfl
        rw [hl]
        simp only [↓pre, post, ↓reduceIte, Nat.reduceEqDiff, Nat.reduceAdd, Nat.reduceMul, Nat.reduceSub, Nat.reduceLeDiff, Nat.reduceMod, Nat.reduceDiv, reduceCtorEq, Nat.reduceLT, Nat.reduceGT, Nat.reduceBEq, Option.isSome_some, ne_eq, Int.reduceEq, not_false_eq_true, bin_quo, bin_rem, List.length_cons, List.length_nil, List.map_cons, List.map_nil, List.append_nil, List.cons_append, List.nil_append, List.take_succ_cons, List.take_zero, List.drop_succ_cons, List.drop_zero, Nat.zero_add, Nat.add_zero, Nat.zero_le, Nat.le_refl, decide_true, decide_false, Bool.not_true, Bool.not_false, stepW, opE, intV, parV, boxE, loadE, partE, faddrE, fieldE, checkE, extractE, resultsE, resEs, resE, buildE, fillE, splice, if_true, if_false, Bool.false_eq_true, true_and, and_true, AV.cells, okA, oneA, fzs, fz, opTmp, Option.bind_some, Option.map_some, List.getElem?_cons_zero, List.getElem?_cons_succ, and_self, canonR, canon, canons, shift, shifts, pushAll, pushFrom, tys85, onceA, postU, postA, boolV, cond_t, cond_f, eq_self, Nat.mul_one, postFz, e1, e2, e6, e7, e8, hlt', hrd.len', hrd.addr', hlt, t1, t2, hcell.len', hb, hW]
        rfl
      · simp only [↓pre, post, ↓reduceIte, Nat.reduceEqDiff, Nat.reduceAdd, Nat.reduceMul, Nat.reduceSub, Nat.reduceLeDiff, Nat.reduceMod, Nat.reduceDiv, reduceCtorEq, Nat.reduceLT, Nat.reduceGT, Nat.reduceBEq, Option.isSome_some, ne_eq, Int.reduceEq, not_false_eq_true, bin_quo, bin_rem, List.length_cons, List.length_nil, List.map_cons, List.map_nil, List.append_nil, List.cons_append, List.nil_append, List.take_succ_cons, List.take_zero, List.drop_succ_cons, List.drop_zero, Nat.zero_add, Nat.add_zero, Nat.zero_le, Nat.le_refl, decide_true, decide_false, Bool.not_true, Bool.not_false, stepW, opE, intV, parV, boxE, loadE, partE, faddrE, fieldE, checkE, extractE, resultsE, resEs, resE, buildE, fillE, splice, if_true, if_false, Bool.false_eq_true, true_and, and_true, AV.cells, okA, oneA, fzs, fz, opTmp, Option.bind_some, Option.map_some, List.getElem?_cons_zero, List.getElem?_cons_succ, and_self, canonR, canon, canons, shift, shifts, pushAll, pushFrom, tys85, onceA, postU, postA, boolV, cond_t, cond_f, eq_self, Nat.mul_one, postFz, e1, e2, e6, e7, e8, hlt', hrd.len', hrd.addr', hlt, t1, t2, hcell.len', hb, hW, w1]
        refine ⟨q - 1, by have := hqi.out; omega, i + 1, z, by have := hqi.out; omega, rfl, rfl, ⟨?_⟩⟩
        rw [hct.out, if_pos hcb]
        rcases hJ.out with ⟨h0, _⟩ | ⟨_, h0⟩
        · rw [h0]; exact .inr ⟨rfl, by omega⟩
        · omega
  · have hlt' : ¬ ((i : Nat) : Int) < ((T.length : Nat) : Int) := by omega
    have htk : T.take i = T := by rw [List.take_of_length_le (by omega)]
    rw [htk] at hJ
    have hg : (cntT k hs T).getD 0 0 = W ∧ (cntT k hs T).getD 1 0 = 0 := by
      rcases hJ.out with ⟨h0, h1⟩ | ⟨h0, _⟩
      · rw [h0, h1]; exact ⟨rfl, rfl⟩
      · rw [h0]; exact ⟨rfl, rfl⟩
    rw [hg.1, hg.2]
    simp only [↓pre, post, ↓reduceIte, Nat.reduceEqDiff, Nat.reduceAdd, Nat.reduceMul, Nat.reduceSub, Nat.reduceLeDiff, Nat.reduceMod, Nat.reduceDiv, reduceCtorEq, Nat.reduceLT, Nat.reduceGT, Nat.reduceBEq, Option.isSome_some, ne_eq, Int.reduceEq, not_false_eq_true, bin_quo, bin_rem, List.length_cons, List.length_nil, List.map_cons, List.map_nil, List.append_nil, List.cons_append, List.nil_append, List.take_succ_cons, List.take_zero, List.drop_succ_cons, List.drop_zero, Nat.zero_add, Nat.add_zero, Nat.zero_le, Nat.le_refl, decide_true, decide_false, Bool.not_true, Bool.not_false, stepW, opE, intV, parV, boxE, loadE, partE, faddrE, fieldE, checkE, extractE, resultsE, resEs, resE, buildE, fillE, splice, if_true, if_false, Bool.false_eq_true, true_and, and_true, AV.cells, okA, oneA, fzs, fz, opTmp, Option.bind_some, Option.map_some, List.getElem?_cons_zero, List.getElem?_cons_succ, and_self, canonR, canon, canons, shift, shifts, pushAll, pushFrom, tys85, onceA, postU, postA, boolV, cond_t, cond_f, eq_self, Nat.mul_one, postFz, e1, e2, e6, e7, e8, hlt', hrd.len']
end Go.Proofs.Ytenmbfplceeolaa

set_option linter.unusedVariables false
set_option linter.unusedSimpArgs false
set_option maxRecDepth 10000
namespace Go.Proofs.Ytenmbfplceeolaa
open Go Go.Tw Go.Proofs

/-- what counts is above nothing just if it is there -/
theorem cnt_pos {k r c w : Int} {ps : List PairB} (j : Nat) : decide (0 < (cntP k r c w ps).getD j 0) = decide (j + 1 ≤ (cntP k r c w ps).length) := by
  have hg := (tal_pw k r c w ps).2
  by_cases h : j + 1 ≤ (cntP k r c w ps).length
  · rw [decide_eq_true h, decide_eq_true_eq]
    have hm : (cntP k r c w ps).getD j 0 ∈ cntP k r c w ps := by
      rw [List.getD_eq_getElem?_getD, List.getElem?_eq_getElem (by omega)]
      exact List.getElem_mem _
    unfold cntP at hm ⊢
    have := hg _ ((cnt_mem (hs := heldsP k r c w ps)).1 hm).1
    omega
  · rw [decide_eq_false h, decide_eq_false_iff_not, List.getD_eq_getElem?_getD, List.getElem?_eq_none (by omega)]
    simp
theorem ref14_Winner (k r c w : Int) (v : AV) (ps : List PairB) (cells : List AV) (hv : RowV v ps cells) : FSpec Try.prog 44 [parV k r c w, v] ⟨winV k r c w ps, []⟩ := by
  have hp := hv.rd.plain
  have hk := ref14_Check k r c w v ps cells hv
  unfold winV
  by_cases hc : chkI k r c w ps = 0
  · have ha := ref14_Counts k r c w v ps cells hv hc
    have hd := cnt_pos (k := k) (r := r) (c := c) (w := w) (ps := ps) 0
    rw [hc] at hk ⊢
    rw [← hd]
    generalize (cntP k r c w ps).getD 0 0 = W at *
    generalize (cntP k r c w ps).getD 1 0 = R at *
    replace hd := Hid.mk hd
    refine fspec_of_body follows Try.func44 (by unfold Try.f44; rfl) (by unfold Try.f44; simp) onceA (by unfold Try.f44; simp) (by kernel_rfl) ?_; unfold Try.f44
    simp only [↓pre, post, ↓reduceIte, Nat.reduceEqDiff, Nat.reduceAdd, Nat.reduceMul, Nat.reduceSub, Nat.reduceLeDiff, Nat.reduceMod, Nat.reduceDiv, reduceCtorEq, Nat.reduceLT, Nat.reduceGT, Nat.reduceBEq, Option.isSome_some, ne_eq, Int.reduceEq, not_false_eq_true, bin_quo, bin_rem, List.length_cons, List.length_nil, List.map_cons, List.map_nil, List.append_nil, List.cons_append, List.nil_append, List.take_succ_cons, List.take_zero, List.drop_succ_cons, List.drop_zero, Nat.zero_add, Nat.add_zero, Nat.zero_le, Nat.le_refl, decide_true, decide_false, Bool.not_true, Bool.not_false, stepW, opE, intV, parV, boxE, loadE, partE, faddrE, fieldE, checkE, extractE, resultsE, resEs, resE, buildE, fillE, splice, if_true, if_false, Bool.false_eq_true, true_and, and_true, AV.cells, okA, oneA, fzs, fz, opTmp, Option.bind_some, Option.map_some, List.getElem?_cons_zero, List.getElem?_cons_succ, and_self, canonR, canon, canons, shift, shifts, pushAll, pushFrom, tys44, onceA, postU, boolV]
    (first | refine call_plain (hk) (by first | rfl | simp only [plains, plain, plain_treeR, parV, intV, boolV, Bool.and_true, Bool.and_self, *]) ?_ | refine call_pure (hk) (by first | rfl | simp only [plains, plain, plain_treeR, parV, intV, boolV, Bool.and_true, Bool.and_self, *]) (by intro k; first | rfl | simp only [shift, shifts, intV, boolV, *]) ?_); simp only [↓pre, post, ↓reduceIte, Nat.reduceEqDiff, Nat.reduceAdd, Nat.reduceMul, Nat.reduceSub, Nat.reduceLeDiff, Nat.reduceMod, Nat.reduceDiv, reduceCtorEq, Nat.reduceLT, Nat.reduceGT, Nat.reduceBEq, Option.isSome_some, ne_eq, Int.reduceEq, not_false_eq_true, bin_quo, bin_rem, List.length_cons, List.length_nil, List.map_cons, List.map_nil, List.append_nil, List.cons_append, List.nil_append, List.take_succ_cons, List.take_zero, List.drop_succ_cons, List.drop_zero, Nat.zero_add, Nat.add_zero, Nat.zero_le, Nat.le_refl, decide_true, decide_false, Bool.not_true, Bool.not_false, stepW, opE, intV, parV, boxE, loadE, partE, faddrE, fieldE, checkE, extractE, resultsE, resEs, resE, buildE, fillE, splice, if_true, if_false, Bool.false_eq_true, true_and, and_true, AV.cells, okA, oneA, fzs, fz, opTmp, Option.bind_some, Option.map_some, List.getElem?_cons_zero, List.getElem?_cons_succ, and_self, canonR, canon, canons, shift, shifts, pushAll, pushFrom, tys44, onceA, postU, postFz, boolV]; (first | refine call_plain (ha) (by first | rfl | simp only [plains, plain, plain_treeR, parV, intV, boolV, Bool.and_true, Bool.and_self, *]) ?_ | refine call_pure (ha) (by first | rfl | simp only [plains, plain, plain_treeR, parV, intV, boolV, Bool.and_true, Bool.and_self, *]) (by intro k; first | rfl | simp only [shift, shifts, intV, boolV, *]) ?_); simp only [↓pre, post, ↓reduceIte, Nat.reduceEqDiff, Nat.reduceAdd, Nat.reduceMul, Nat.reduceSub, Nat.reduceLeDiff, Nat.reduceMod, Nat.reduceDiv, reduceCtorEq, Nat.reduceLT, Nat.reduceGT, Nat.reduceBEq, Option.isSome_some, ne_eq, Int.reduceEq, not_false_eq_true, bin_quo, bin_rem, List.length_cons, List.length_nil, List.map_cons, List.map_nil, List.append_nil, List.cons_append, List.nil_append, List.take_succ_cons, List.take_zero, List.drop_succ_cons, List.drop_zero, Nat.zero_add, Nat.add_zero, Nat.zero_le, Nat.le_refl, decide_true, decide_false, Bool.not_true, Bool.not_false, stepW, opE, intV, parV, boxE, loadE, partE, faddrE, fieldE, checkE, extractE, resultsE, resEs, resE, buildE, fillE, splice, if_true, if_false, Bool.false_eq_true, true_and, and_true, AV.cells, okA, oneA, fzs, fz, opTmp, Option.bind_some, Option.map_some, List.getElem?_cons_zero, List.getElem?_cons_succ, and_self, canonR, canon, canons, shift, shifts, pushAll, pushFrom, tys44, onceA, postU, postFz, boolV]
  · rw [cntP_bad hc]
    generalize chkI k r c w ps = ck at *
    refine fspec_of_body follows Try.func44 (by unfold Try.f44; rfl) (by unfold Try.f44; simp) onceA (by unfold Try.f44; simp) (by kernel_rfl) ?_; unfold Try.f44
    simp only [↓pre, post, ↓reduceIte, Nat.reduceEqDiff, Nat.reduceAdd, Nat.reduceMul, Nat.reduceSub, Nat.reduceLeDiff, Nat.reduceMod, Nat.reduceDiv, reduceCtorEq, Nat.reduceLT, Nat.reduceGT, Nat.reduceBEq, Option.isSome_some, ne_eq, Int.reduceEq, not_false_eq_true, bin_quo, bin_rem, List.length_cons, List.length_nil, List.map_cons, List.map_nil, List.append_nil, List.cons_append, List.nil_append, List.take_succ_cons, List.take_zero, List.drop_succ_cons, List.drop_zero, Nat.zero_add, Nat.add_zero, Nat.zero_le, Nat.le_refl, decide_true, decide_false, Bool.not_true, Bool.not_false, stepW, opE, intV, parV, boxE, loadE, partE, faddrE, fieldE, checkE, extractE, resultsE, resEs, resE, buildE, fillE, splice, if_true, if_false, Bool.false_eq_true, true_and, and_true, AV.cells, okA, oneA, fzs, fz, opTmp, Option.bind_some, Option.map_some, List.getElem?_cons_zero, List.getElem?_cons_succ, and_self, canonR, canon, canons, shift, shifts, pushAll, pushFrom, tys44, onceA, postU, boolV]
    (first | refine call_plain (hk) (by first | rfl | simp only [plains, plain, plain_treeR, parV, intV, boolV, Bool.and_true, Bool.and_self, *]) ?_ | refine call_pure (hk) (by first | rfl | simp only [plains, plain, plain_treeR, parV, intV, boolV, Bool.and_true, Bool.and_self, *]) (by intro k; first | rfl | simp only [shift, shifts, intV, boolV, *]) ?_); simp only [↓pre, post, ↓reduceIte, Nat.reduceEqDiff, Nat.reduceAdd, Nat.reduceMul, Nat.reduceSub, Nat.reduceLeDiff, Nat.reduceMod, Nat.reduceDiv, reduceCtorEq, Nat.reduceLT, Nat.reduceGT, Nat.reduceBEq, Option.isSome_some, ne_eq, Int.reduceEq, not_false_eq_true, bin_quo, bin_rem, List.length_cons, List.length_nil, List.map_cons, List.map_nil, List.append_nil, List.cons_append, List.nil_append, List.take_succ_cons, List.take_zero, List.drop_succ_cons, List.drop_zero, Nat.zero_add, Nat.add_zero, Nat.zero_le, Nat.le_refl, decide_true, decide_false, Bool.not_true, Bool.not_false, stepW, opE, intV, parV, boxE, loadE, partE, faddrE, fieldE, checkE, extractE, resultsE, resEs, resE, buildE, fillE, splice, if_true, if_false, Bool.false_eq_true, true_and, and_true, AV.cells, okA, oneA, fzs, fz, opTmp, Option.bind_some, Option.map_some, List.getElem?_cons_zero, List.getElem?_cons_succ, and_self, canonR, canon, canons, shift, shifts, pushAll, pushFrom, tys44, onceA, postU, postFz, boolV, hc]
    rfl
theorem ref14_Runner (k r c w : Int) (v : AV) (ps : List PairB) (cells : List AV) (hv : RowV v ps cells) : FSpec Try.prog 46 [parV k r c w, v] ⟨runV k r c w ps, []⟩ := by
  have hp := hv.rd.plain
  have hk := ref14_Check k r c w v ps cells hv
  unfold runV
  by_cases hc : chkI k r c w ps = 0
  · have ha := ref14_Counts k r c w v ps cells hv hc
    have hd := cnt_pos (k := k) (r := r) (c := c) (w := w) (ps := ps) 1
    rw [hc] at hk ⊢
    rw [← hd]
    generalize (cntP k r c w ps).getD 0 0 = W at *
    generalize (cntP k r c w ps).getD 1 0 = R at *
    replace hd := Hid.mk hd
    refine fspec_of_body follows Try.func46 (by unfold Try.f46; rfl) (by unfold Try.f46; simp) onceA (by unfold Try.f46; simp) (by kernel_rfl) ?_; unfold Try.f46
    simp only [↓pre, post, ↓reduceIte, Nat.reduceEqDiff, Nat.reduceAdd, Nat.reduceMul, Nat.reduceSub, Nat.reduceLeDiff, Nat.reduceMod, Nat.reduceDiv, reduceCtorEq, Nat.reduceLT, Nat.reduceGT, Nat.reduceBEq, Option.isSome_some, ne_eq, Int.reduceEq, not_false_eq_true, bin_quo, bin_rem, List.length_cons, List.length_nil, List.map_cons, List.map_nil, List.append_nil, List.cons_append, List.nil_append, List.take_succ_cons, List.take_zero, List.drop_succ_cons, List.drop_zero, Nat.zero_add, Nat.add_zero, Nat.zero_le, Nat.le_refl, decide_true, decide_false, Bool.not_true, Bool.not_false, stepW, opE, intV, parV, boxE, loadE, partE, faddrE, fieldE, checkE, extractE, resultsE, resEs, resE, buildE, fillE, splice, if_true, if_false, Bool.false_eq_true, true_and, and_true, AV.cells, okA, oneA, fzs, fz, opTmp, Option.bind_some, Option.map_some, List.getElem?_cons_zero, List.getElem?_cons_succ, and_self, canonR, canon, canons, shift, shifts, pushAll, pushFrom, tys46, onceA, postU, boolV]
    (first | refine call_plain (hk) (by first | rfl | simp only [plains, plain, plain_treeR, parV, intV, boolV, Bool.and_true, Bool.and_self, *]) ?_ | refine call_pure (hk) (by first | rfl | simp only [plains, plain, plain_treeR, parV, intV, boolV, Bool.and_true, Bool.and_self, *]) (by intro k; first | rfl | simp only [shift, shifts, intV, boolV, *]) ?_); simp only [↓pre, post, ↓reduceIte, Nat.reduceEqDiff, Nat.reduceAdd, Nat.reduceMul, Nat.reduceSub, Nat.reduceLeDiff, Nat.reduceMod, Nat.reduceDiv, reduceCtorEq, Nat.reduceLT, Nat.reduceGT, Nat.reduceBEq, Option.isSome_some, ne_eq, Int.reduceEq, not_false_eq_true, bin_quo, bin_rem, List.length_cons, List.length_nil, List.map_cons, List.map_nil, List.append_nil, List.cons_append, List.nil_append, List.take_succ_cons, List.take_zero, List.drop_succ_cons, List.drop_zero, Nat.zero_add, Nat.add_zero, Nat.zero_le, Nat.le_refl, decide_true, decide_false, Bool.not_true, Bool.not_false, stepW, opE, intV, parV, boxE, loadE, partE, faddrE, fieldE, checkE, extractE, resultsE, resEs, resE, buildE, fillE, splice, if_true, if_false, Bool.false_eq_true, true_and, and_true, AV.cells, okA, oneA, fzs, fz, opTmp, Option.bind_some, Option.map_some, List.getElem?_cons_zero, List.getElem?_cons_succ, and_self, canonR, canon, canons, shift, shifts, pushAll, pushFrom, tys46, onceA, postU, postFz, boolV]; (first | refine call_plain (ha) (by first | rfl | simp only [plains, plain, plain_treeR, parV, intV, boolV, Bool.and_true, Bool.and_self, *]) ?_ | refine call_pure (ha) (by first | rfl | simp only [plains, plain, plain_treeR, parV, intV, boolV, Bool.and_true, Bool.and_self, *]) (by intro k; first | rfl | simp only [shift, shifts, intV, boolV, *]) ?_); simp only [↓pre, post, ↓reduceIte, Nat.reduceEqDiff, Nat.reduceAdd, Nat.reduceMul, Nat.reduceSub, Nat.reduceLeDiff, Nat.reduceMod, Nat.reduceDiv, reduceCtorEq, Nat.reduceLT, Nat.reduceGT, Nat.reduceBEq, Option.isSome_some, ne_eq, Int.reduceEq, not_false_eq_true, bin_quo, bin_rem, List.length_cons, List.length_nil, List.map_cons, List.map_nil, List.append_nil, List.cons_append, List.nil_append, List.take_succ_cons, List.take_zero, List.drop_succ_cons, List.drop_zero, Nat.zero_add, Nat.add_zero, Nat.zero_le, Nat.le_refl, decide_true, decide_false, Bool.not_true, Bool.not_false, stepW, opE, intV, parV, boxE, loadE, partE, faddrE, fieldE, checkE, extractE, resultsE, resEs, resE, buildE, fillE, splice, if_true, if_false, Bool.false_eq_true, true_and, and_true, AV.cells, okA, oneA, fzs, fz, opTmp, Option.bind_some, Option.map_some, List.getElem?_cons_zero, List.getElem?_cons_succ, and_self, canonR, canon, canons, shift, shifts, pushAll, pushFrom, tys46, onceA, postU, postFz, boolV]
  · rw [cntP_bad hc]
    generalize chkI k r c w ps = ck at *
    refine fspec_of_body follows Try.func46 (by unfold Try.f46; rfl) (by unfold Try.f46; simp) onceA (by unfold Try.f46; simp) (by kernel_rfl) ?_; unfold Try.f46
    simp only [↓pre, post, ↓reduceIte, Nat.reduceEqDiff, Nat.reduceAdd, Nat.reduceMul, Nat.reduceSub, Nat.reduceLeDiff, Nat.reduceMod, Nat.reduceDiv, reduceCtorEq, Nat.reduceLT, Nat.reduceGT, Nat.reduceBEq, Option.isSome_some, ne_eq, Int.reduceEq, not_false_eq_true, bin_quo, bin_rem, List.length_cons, List.length_nil, List.map_cons, List.map_nil, List.append_nil, List.cons_append, List.nil_append, List.take_succ_cons, List.take_zero, List.drop_succ_cons, List.drop_zero, Nat.zero_add, Nat.add_zero, Nat.zero_le, Nat.le_refl, decide_true, decide_false, Bool.not_true, Bool.not_false, stepW, opE, intV, parV, boxE, loadE, partE, faddrE, fieldE, checkE, extractE, resultsE, resEs, resE, buildE, fillE, splice, if_true, if_false, Bool.false_eq_true, true_and, and_true, AV.cells, okA, oneA, fzs, fz, opTmp, Option.bind_some, Option.map_some, List.getElem?_cons_zero, List.getElem?_cons_succ, and_self, canonR, canon, canons, shift, shifts, pushAll, pushFrom, tys46, onceA, postU, boolV]
    (first | refine call_plain (hk) (by first | rfl | simp only [plains, plain, plain_treeR, parV, intV, boolV, Bool.and_true, Bool.and_self, *]) ?_ | refine call_pure (hk) (by first | rfl | simp only [plains, plain, plain_treeR, parV, intV, boolV, Bool.and_true, Bool.and_self, *]) (by intro k; first | rfl | simp only [shift, shifts, intV, boolV, *]) ?_); simp only [↓pre, post, ↓reduceIte, Nat.reduceEqDiff, Nat.reduceAdd, Nat.reduceMul, Nat.reduceSub, Nat.reduceLeDiff, Nat.reduceMod, Nat.reduceDiv, reduceCtorEq, Nat.reduceLT, Nat.reduceGT, Nat.reduceBEq, Option.isSome_some, ne_eq, Int.reduceEq, not_false_eq_true, bin_quo, bin_rem, List.length_cons, List.length_nil, List.map_cons, List.map_nil, List.append_nil, List.cons_append, List.nil_append, List.take_succ_cons, List.take_zero, List.drop_succ_cons, List.drop_zero, Nat.zero_add, Nat.add_zero, Nat.zero_le, Nat.le_refl, decide_true, decide_false, Bool.not_true, Bool.not_false, stepW, opE, intV, parV, boxE, loadE, partE, faddrE, fieldE, checkE, extractE, resultsE, resEs, resE, buildE, fillE, splice, if_true, if_false, Bool.false_eq_true, true_and, and_true, AV.cells, okA, oneA, fzs, fz, opTmp, Option.bind_some, Option.map_some, List.getElem?_cons_zero, List.getElem?_cons_succ, and_self, canonR, canon, canons, shift, shifts, pushAll, pushFrom, tys46, onceA, postU, postFz, boolV, hc]
    rfl
/-- the losers are all above the winner -/
theorem los_filter {k : Int} {hs : List (Int × Int)} {T : List Int} (hp : T.Pairwise (· > ·)) (h1 : ∀ v ∈ T, 1 ≤ v) : T.filter (fun v => decide ((cntT k hs T).getD 0 0 < v)) = losT k hs T := by
  have hlg := fun i v => los_lt (k := k) (hs := hs) (i := i) (v := v) hp h1
  have hle := fun i v => los_ge (k := k) (hs := hs) (i := i) (v := v) hp h1
  generalize (cntT k hs T).getD 0 0 = W at *
  have hsp : T = losT k hs T ++ T.drop (losT k hs T).length := by
    unfold losT
    have := List.takeWhile_append_dropWhile (p := fun v => !cntB k hs v) (l := T)
    have h2 : T.drop (T.takeWhile fun v => !cntB k hs v).length = T.dropWhile fun v => !cntB k hs v := by
      conv => lhs; arg 2; rw [← this]
      rw [List.drop_left]
    rw [h2, this]
  generalize losT k hs T = L at *
  rw [hsp, List.filter_append]
  have e1 : L.filter (fun v => decide (W < v)) = L := by
    rw [List.filter_eq_self]
    intro a ha
    obtain ⟨i, hi⟩ := List.getElem?_of_mem ha
    have hil := (List.getElem?_eq_some_iff.1 hi).1
    have : T[i]? = some a := by rw [hsp, List.getElem?_append_left hil]; exact hi
    exact decide_eq_true (hlg i a this hil).1
  have e2 : (T.drop L.length).filter (fun v => decide (W < v)) = [] := by
    rw [List.filter_eq_nil_iff]
    intro a ha
    obtain ⟨i, hi⟩ := List.getElem?_of_mem ha
    rw [List.getElem?_drop] at hi
    have := hle _ a hi (by omega)
    rw [decide_eq_true_eq]
    omega
  rw [e1, e2, List.append_nil]
theorem ref14_Losers (k r c w : Int) (v : AV) (ps : List PairB) (cells : List AV) (hv : RowV v ps cells) : FSpec Try.prog 48 [parV k r c w, v] ⟨.tup [treeR (losT k (heldsP k r c w ps) (talT k r c w ps)).length (intsA (losT k (heldsP k r c w ps) (talT k r c w ps))), intV (chkI k r c w ps)], []⟩ := by
  refine frozen_ownE (el := 3) (by kernel_rfl) ?_
  have hp := hv.rd.plain
  have hk := ref14_Check k r c w v ps cells hv
  by_cases hc : chkI k r c w ps = 0
  · have ha := ref14_Counts k r c w v ps cells hv hc
    have hl := all_talT hv hc
    have hTl := talT_len k r c w ps
    obtain ⟨hpw, hge⟩ := tal_pw k r c w ps
    have hlf := los_filter (k := k) (hs := heldsP k r c w ps) hpw fun v hv => (hge v hv).1
    rw [hc] at hk ⊢
    rw [← hlf]
    unfold cntP at ha
    generalize (cntT k (heldsP k r c w ps) (talT k r c w ps)).getD 0 0 = W at *
    generalize (cntT k (heldsP k r c w ps) (talT k r c w ps)).getD 1 0 = R at *
    generalize talT k r c w ps = T at *
    generalize heldsP k r c w ps = hs at *
    have hrd := treeR_rd T.length (tCells hs T)
    generalize hres : ownE 3 (T.filter fun v => decide (W < v)).length (intsA (T.filter fun v => decide (W < v))) 0 = res
    replace hres := Hid.mk hres
    replace hTl := Hid.mk hTl
    replace hpw := Hid.mk hpw
    replace hge := Hid.mk hge
    replace hlf := Hid.mk hlf
    replace hc := Hid.mk hc
    refine fspec_of_body follows Try.func48 (by unfold Try.f48; rfl) (by unfold Try.f48; simp) onceA (by unfold Try.f48; simp) (by kernel_rfl) ?_; unfold Try.f48
    simp only [↓pre, post, ↓reduceIte, Nat.reduceEqDiff, Nat.reduceAdd, Nat.reduceMul, Nat.reduceSub, Nat.reduceLeDiff, Nat.reduceMod, Nat.reduceDiv, reduceCtorEq, Nat.reduceLT, Nat.reduceGT, Nat.reduceBEq, Option.isSome_some, ne_eq, Int.reduceEq, not_false_eq_true, bin_quo, bin_rem, List.length_cons, List.length_nil, List.map_cons, List.map_nil, List.append_nil, List.cons_append, List.nil_append, List.take_succ_cons, List.take_zero, List.drop_succ_cons, List.drop_zero, Nat.zero_add, Nat.add_zero, Nat.zero_le, Nat.le_refl, decide_true, decide_false, Bool.not_true, Bool.not_false, stepW, opE, intV, parV, boxE, loadE, partE, faddrE, fieldE, checkE, extractE, resultsE, resEs, resE, buildE, fillE, splice, if_true, if_false, Bool.false_eq_true, true_and, and_true, AV.cells, okA, oneA, fzs, fz, opTmp, Option.bind_some, Option.map_some, List.getElem?_cons_zero, List.getElem?_cons_succ, and_self, canonR, canon, canons, shift, shifts, pushAll, pushFrom, tys48, onceA, postU]
    (first | refine call_plain (hk) (by first | rfl | simp only [plains, plain, plain_treeR, parV, intV, boolV, Bool.and_true, Bool.and_self, *]) ?_ | refine call_pure (hk) (by first | rfl | simp only [plains, plain, plain_treeR, parV, intV, boolV, Bool.and_true, Bool.and_self, *]) (by intro k; first | rfl | simp only [shift, shifts, intV, boolV, *]) ?_); simp only [↓pre, post, ↓reduceIte, Nat.reduceEqDiff, Nat.reduceAdd, Nat.reduceMul, Nat.reduceSub, Nat.reduceLeDiff, Nat.reduceMod, Nat.reduceDiv, reduceCtorEq, Nat.reduceLT, Nat.reduceGT, Nat.reduceBEq, Option.isSome_some, ne_eq, Int.reduceEq, not_false_eq_true, bin_quo, bin_rem, List.length_cons, List.length_nil, List.map_cons, List.map_nil, List.append_nil, List.cons_append, List.nil_append, List.take_succ_cons, List.take_zero, List.drop_succ_cons, List.drop_zero, Nat.zero_add, Nat.add_zero, Nat.zero_le, Nat.le_refl, decide_true, decide_false, Bool.not_true, Bool.not_false, stepW, opE, intV, parV, boxE, loadE, partE, faddrE, fieldE, checkE, extractE, resultsE, resEs, resE, buildE, fillE, splice, if_true, if_false, Bool.false_eq_true, true_and, and_true, AV.cells, okA, oneA, fzs, fz, opTmp, Option.bind_some, Option.map_some, List.getElem?_cons_zero, List.getElem?_cons_succ, and_self, canonR, canon, canons, shift, shifts, pushAll, pushFrom, tys48, onceA, postU, postA, boolV, cond_t, cond_f, eq_self, Nat.mul_one, postFz]; (first | refine call_plain (ha) (by first | rfl | simp only [plains, plain, plain_treeR, parV, intV, boolV, Bool.and_true, Bool.and_self, *]) ?_ | refine call_pure (ha) (by first | rfl | simp only [plains, plain, plain_treeR, parV, intV, boolV, Bool.and_true, Bool.and_self, *]) (by intro k; first | rfl | simp only [shift, shifts, intV, boolV, *]) ?_); simp only [↓pre, post, ↓reduceIte, Nat.reduceEqDiff, Nat.reduceAdd, Nat.reduceMul, Nat.reduceSub, Nat.reduceLeDiff, Nat.reduceMod, Nat.reduceDiv, reduceCtorEq, Nat.reduceLT, Nat.reduceGT, Nat.reduceBEq, Option.isSome_some, ne_eq, Int.reduceEq, not_false_eq_true, bin_quo, bin_rem, List.length_cons, List.length_nil, List.map_cons, List.map_nil, List.append_nil, List.cons_append, List.nil_append, List.take_succ_cons, List.take_zero, List.drop_succ_cons, List.drop_zero, Nat.zero_add, Nat.add_zero, Nat.zero_le, Nat.le_refl, decide_true, decide_false, Bool.not_true, Bool.not_false, stepW, opE, intV, parV, boxE, loadE, partE, faddrE, fieldE, checkE, extractE, resultsE, resEs, resE, buildE, fillE, splice, if_true, if_false, Bool.false_eq_true, true_and, and_true, AV.cells, okA, oneA, fzs, fz, opTmp, Option.bind_some, Option.map_some, List.getElem?_cons_zero, List.getElem?_cons_succ, and_self, canonR, canon, canons, shift, shifts, pushAll, pushFrom, tys48, onceA, postU, postA, boolV, cond_t, cond_f, eq_self, Nat.mul_one, postFz]; (first | refine call_plain (hl) (by first | rfl | simp only [plains, plain, plain_treeR, parV, intV, boolV, Bool.and_true, Bool.and_self, *]) ?_ | refine call_pure (hl) (by first | rfl | simp only [plains, plain, plain_treeR, parV, intV, boolV, Bool.and_true, Bool.and_self, *]) (by intro k; first | rfl | simp only [shift, shifts, intV, boolV, *]) ?_); simp only [↓pre, post, ↓reduceIte, Nat.reduceEqDiff, Nat.reduceAdd, Nat.reduceMul, Nat.reduceSub, Nat.reduceLeDiff, Nat.reduceMod, Nat.reduceDiv, reduceCtorEq, Nat.reduceLT, Nat.reduceGT, Nat.reduceBEq, Option.isSome_some, ne_eq, Int.reduceEq, not_false_eq_true, bin_quo, bin_rem, List.length_cons, List.length_nil, List.map_cons, List.map_nil, List.append_nil, List.cons_append, List.nil_append, List.take_succ_cons, List.take_zero, List.drop_succ_cons, List.drop_zero, Nat.zero_add, Nat.add_zero, Nat.zero_le, Nat.le_refl, decide_true, decide_false, Bool.not_true, Bool.not_false, stepW, opE, intV, parV, boxE, loadE, partE, faddrE, fieldE, checkE, extractE, resultsE, resEs, resE, buildE, fillE, splice, if_true, if_false, Bool.false_eq_true, true_and, and_true, AV.cells, okA, oneA, fzs, fz, opTmp, Option.bind_some, Option.map_some, List.getElem?_cons_zero, List.getElem?_cons_succ, and_self, canonR, canon, canons, shift, shifts, pushAll, pushFrom, tys48, onceA, postU, postA, boolV, cond_t, cond_f, eq_self, Nat.mul_one, postFz]
    rw [codeW_loop]
    refine loop_intro (fun q e m => ∃ i lv, q + i = T.length ∧ e 7 = intV W ∧ e 9 = treeR T.length (tCells hs T) ∧ e 10 = lv ∧ e 11 = intV (i : Nat) ∧ Hid (Own m 3 1 lv ((T.take i).filter fun v => decide (W < v)).length (intsA ((T.take i).filter fun v => decide (W < v))))) T.length ⟨0, nilS, by omega, rfl, rfl, rfl, rfl, ⟨own_nil⟩⟩ ?_
    rintro q e m ⟨i, lv, hqi, e7, e9, e10, e11, hJ⟩
    replace hqi := Hid.mk hqi
    by_cases hlt : i < T.length
    · have hlt' : ((i : Nat) : Int) < ((T.length : Nat) : Int) := by omega
      have w1 := wrap_succ (n := i) (by have := hTl.out; omega)
      obtain ⟨z, hz⟩ : ∃ z, T[i]? = some z := ⟨_, List.getElem?_eq_getElem hlt⟩
      obtain ⟨t1, t2⟩ := tCells_at hs T i z hz
      have htk : T.take (i + 1) = T.take i ++ [z] := by rw [List.take_add_one, hz]; rfl
      have hct : (T.take (i + 1)).filter (fun v => decide (W < v)) = (T.take i).filter (fun v => decide (W < v)) ++ (if W < z then [z] else []) := by
        rw [htk, List.filter_append]
        by_cases h : W < z <;> simp [h]
      have hcl : ((T.take i).filter fun v => decide (W < v)).length ≤ 1073741824 := by
        have := List.length_filter_le (fun v => decide (W < v)) (T.take i)
        have := List.length_take_le i T
        have := hTl.out
        omega
      replace hz := Hid.mk hz
      replace htk := Hid.mk htk
      replace hct := Hid.mk hct
      replace hcl := Hid.mk hcl
      by_cases hb : W < z
      · simp only [↓pre, post, ↓reduceIte, Nat.reduceEqDiff, Nat.reduceAdd, Nat.reduceMul, Nat.reduceSub, Nat.reduceLeDiff, Nat.reduceMod, Nat.reduceDiv, reduceCtorEq, Nat.reduceLT, Nat.reduceGT, Nat.reduceBEq, Option.isSome_some, ne_eq, Int.reduceEq, not_false_eq_true, bin_quo, bin_rem, List.length_cons, List.length_nil, List.map_cons, List.map_nil, List.append_nil, List.cons_append, List.nil_append, List.take_succ_cons, List.take_zero, List.drop_succ_cons, List.drop_zero, Nat.zero_add, Nat.add_zero, Nat.zero_le, Nat.le_refl, decide_true, decide_false, Bool.not_true, Bool.not_false, stepW, opE, intV, parV, boxE, loadE, partE, faddrE, fieldE, checkE, extractE, resultsE, resEs, resE, buildE, fillE, splice, if_true, if_false, Bool.false_eq_true, true_and, and_true, AV.cells, okA, oneA, fzs, fz, opTmp, Option.bind_some, Option.map_some, List.getElem?_cons_zero, List.getElem?_cons_succ, and_self, canonR, canon, canons, shift, shifts, pushAll, pushFrom, tys48, onceA, postU, postA, boolV, cond_t, cond_f, eq_self, Nat.mul_one, postFz, postV, e7, e9, e10, e11, hlt', hrd.len', hrd.addr', hlt, t1, t2, hb, w1]
        refine app_keep (kd := .flat) (sz := 1) (y := 8) (zl := [.int .i64 0]) (by kernel_rfl) hJ.out (by kernel_rfl) (by kernel_rfl) (by kernel_rfl) rfl srcT1 (by rfl) (by have := hcl.out; omega) (by have := hcl.out; omega) ?_
        intro lv' m3 ho' hnx' hkeep hbl
        simp only [↓pre, post, ↓reduceIte, Nat.reduceEqDiff, Nat.reduceAdd, Nat.reduceMul, Nat.reduceSub, Nat.reduceLeDiff, Nat.reduceMod, Nat.reduceDiv, reduceCtorEq, Nat.reduceLT, Nat.reduceGT, Nat.reduceBEq, Option.isSome_some, ne_eq, Int.reduceEq, not_false_eq_true, bin_quo, bin_rem, List.length_cons, List.length_nil, List.map_cons, List.map_nil, List.append_nil, List.cons_append, List.nil_append, List.take_succ_cons, List.take_zero, List.drop_succ_cons, List.drop_zero, Nat.zero_add, Nat.add_zero, Nat.zero_le, Nat.le_refl, decide_true, decide_false, Bool.not_true, Bool.not_false, stepW, opE, intV, parV, boxE, loadE, partE, faddrE, fieldE, checkE, extractE, resultsE, resEs, resE, buildE, fillE, splice, if_true, if_false, Bool.false_eq_true, true_and, and_true, AV.cells, okA, oneA, fzs, fz, opTmp, Option.bind_some, Option.map_some, List.getElem?_cons_zero, List.getElem?_cons_succ, and_self, canonR, canon, canons, shift, shifts, pushAll, pushFrom, tys48, onceA, postU, postA, boolV, cond_t, cond_f, eq_self, Nat.mul_one, postFz, e7, e9, e10, e11, w1]
        refine ⟨q - 1, by have := hqi.out; omega, i + 1, lv', by have := hqi.out; omega, rfl, rfl, ⟨?_⟩⟩
        rw [hct.out, if_pos hb, List.length_append, intsA_append]
        exact ho'
      · simp only [↓pre, post, ↓reduceIte, Nat.reduceEqDiff, Nat.reduceAdd, Nat.reduceMul, Nat.reduceSub, Nat.reduceLeDiff, Nat.reduceMod, Nat.reduceDiv, reduceCtorEq, Nat.reduceLT, Nat.reduceGT, Nat.reduceBEq, Option.isSome_some, ne_eq, Int.reduceEq, not_false_eq_true, bin_quo, bin_rem, List.length_cons, List.length_nil, List.map_cons, List.map_nil, List.append_nil, List.cons_append, List.nil_append, List.take_succ_cons, List.take_zero, List.drop_succ_cons, List.drop_zero, Nat.zero_add, Nat.add_zero, Nat.zero_le, Nat.le_refl, decide_true, decide_false, Bool.not_true, Bool.not_false, stepW, opE, intV, parV, boxE, loadE, partE, faddrE, fieldE, checkE, extractE, resultsE, resEs, resE, buildE, fillE, splice, if_true, if_false, Bool.false_eq_true, true_and, and_true, AV.cells, okA, oneA, fzs, fz, opTmp, Option.bind_some, Option.map_some, List.getElem?_cons_zero, List.getElem?_cons_succ, and_self, canonR, canon, canons, shift, shifts, pushAll, pushFrom, tys48, onceA, postU, postA, boolV, cond_t, cond_f, eq_self, Nat.mul_one, postFz, postV, e7, e9, e10, e11, hlt', hrd.len', hrd.addr', hlt, t1, t2, hb, w1]
        refine ⟨q - 1, by have := hqi.out; omega, i + 1, lv, by have := hqi.out; omega, rfl, rfl, ⟨?_⟩⟩
        rw [hct.out, if_neg hb, List.append_nil]
        exact hJ.out
    · have hlt' : ¬ ((i : Nat) : Int) < ((T.length : Nat) : Int) := by omega
      have htk : T.take i = T := by rw [List.take_of_length_le (by omega)]
      rw [htk] at hJ
      have hcan := own_canon (P := Try.prog) (by kernel_rfl) hJ.out
      simp only [↓pre, post, ↓reduceIte, Nat.reduceEqDiff, Nat.reduceAdd, Nat.reduceMul, Nat.reduceSub, Nat.reduceLeDiff, Nat.reduceMod, Nat.reduceDiv, reduceCtorEq, Nat.reduceLT, Nat.reduceGT, Nat.reduceBEq, Option.isSome_some, ne_eq, Int.reduceEq, not_false_eq_true, bin_quo, bin_rem, List.length_cons, List.length_nil, List.map_cons, List.map_nil, List.append_nil, List.cons_append, List.nil_append, List.take_succ_cons, List.take_zero, List.drop_succ_cons, List.drop_zero, Nat.zero_add, Nat.add_zero, Nat.zero_le, Nat.le_refl, decide_true, decide_false, Bool.not_true, Bool.not_false, stepW, opE, intV, parV, boxE, loadE, partE, faddrE, fieldE, checkE, extractE, resultsE, resEs, resE, buildE, fillE, splice, if_true, if_false, Bool.false_eq_true, true_and, and_true, AV.cells, okA, oneA, fzs, fz, opTmp, Option.bind_some, Option.map_some, List.getElem?_cons_zero, List.getElem?_cons_succ, and_self, canonR, canon, canons, shift, shifts, pushAll, pushFrom, tys48, onceA, postU, postA, boolV, cond_t, cond_f, eq_self, Nat.mul_one, postFz, e7, e9, e10, e11, hlt', hrd.len', hcan]
      rw [← hres.out]
      rfl
  · have hT : talT k r c w ps = [] := by unfold talT; rw [if_neg hc]
    rw [hT]
    have n2 : ownE 3 (losT k (heldsP k r c w ps) ([] : List Int)).length (intsA (losT k (heldsP k r c w ps) ([] : List Int))) (chkI k r c w ps) = ⟨.tup [nilS, intV (chkI k r c w ps)], []⟩ := rfl
    rw [n2]
    generalize chkI k r c w ps = ck at *
    refine fspec_of_body follows Try.func48 (by unfold Try.f48; rfl) (by unfold Try.f48; simp) onceA (by unfold Try.f48; simp) (by kernel_rfl) ?_; unfold Try.f48
    simp only [↓pre, post, ↓reduceIte, Nat.reduceEqDiff, Nat.reduceAdd, Nat.reduceMul, Nat.reduceSub, Nat.reduceLeDiff, Nat.reduceMod, Nat.reduceDiv, reduceCtorEq, Nat.reduceLT, Nat.reduceGT, Nat.reduceBEq, Option.isSome_some, ne_eq, Int.reduceEq, not_false_eq_true, bin_quo, bin_rem, List.length_cons, List.length_nil, List.map_cons, List.map_nil, List.append_nil, List.cons_append, List.nil_append, List.take_succ_cons, List.take_zero, List.drop_succ_cons, List.drop_zero, Nat.zero_add, Nat.add_zero, Nat.zero_le, Nat.le_refl, decide_true, decide_false, Bool.not_true, Bool.not_false, stepW, opE, intV, parV, boxE, loadE, partE, faddrE, fieldE, checkE, extractE, resultsE, resEs, resE, buildE, fillE, splice, if_true, if_false, Bool.false_eq_true, true_and, and_true, AV.cells, okA, oneA, fzs, fz, opTmp, Option.bind_some, Option.map_some, List.getElem?_cons_zero, List.getElem?_cons_succ, and_self, canonR, canon, canons, shift, shifts, pushAll, pushFrom, tys48, onceA, postU]
    (first | refine call_plain (hk) (by first | rfl | simp only [plains, plain, plain_treeR, parV, intV, boolV, Bool.and_true, Bool.and_self, *]) ?_ | refine call_pure (hk) (by first | rfl | simp only [plains, plain, plain_treeR, parV, intV, boolV, Bool.and_true, Bool.and_self, *]) (by intro k; first | rfl | simp only [shift, shifts, intV, boolV, *]) ?_); simp only [↓pre, post, ↓reduceIte, Nat.reduceEqDiff, Nat.reduceAdd, Nat.reduceMul, Nat.reduceSub, Nat.reduceLeDiff, Nat.reduceMod, Nat.reduceDiv, reduceCtorEq, Nat.reduceLT, Nat.reduceGT, Nat.reduceBEq, Option.isSome_some, ne_eq, Int.reduceEq, not_false_eq_true, bin_quo, bin_rem, List.length_cons, List.length_nil, List.map_cons, List.map_nil, List.append_nil, List.cons_append, List.nil_append, List.take_succ_cons, List.take_zero, List.drop_succ_cons, List.drop_zero, Nat.zero_add, Nat.add_zero, Nat.zero_le, Nat.le_refl, decide_true, decide_false, Bool.not_true, Bool.not_false, stepW, opE, intV, parV, boxE, loadE, partE, faddrE, fieldE, checkE, extractE, resultsE, resEs, resE, buildE, fillE, splice, if_true, if_false, Bool.false_eq_true, true_and, and_true, AV.cells, okA, oneA, fzs, fz, opTmp, Option.bind_some, Option.map_some, List.getElem?_cons_zero, List.getElem?_cons_succ, and_self, canonR, canon, canons, shift, shifts, pushAll, pushFrom, tys48, onceA, postU, postFz, nilS, hc]
end Go.Proofs.Ytenmbfplceeolaa

set_option linter.unusedVariables false
set_option linter.unusedSimpArgs false
set_option maxRecDepth 10000
namespace Go.Proofs.Ytenmbfplceeolaa
open Go Go.Tw Go.Proofs

theorem ref14_Missing (k r c w ver : Int) (v : AV) (ps : List PairB) (cells : List AV) (hv : RowV v ps cells) : FSpec Try.prog 49 [parV k r c w, v, intV ver] ⟨.tup [treeR (missL k r c w ver ps).length (intsA (missL k r c w ver ps)), intV (missE k r c w ver ps)], []⟩ := by
  refine frozen_ownE (el := 3) (by kernel_rfl) ?_
  have hp := hv.rd.plain
  have hk := ref14_Check k r c w v ps cells hv
  have hvr := ref10_Version ver
  by_cases hc : chkI k r c w ps = 0
  · cases hvb : verB ver with
    | false =>
      have h1 : ¬ (1 ≤ ver ∧ ver ≤ 1073741824) := by unfold verB at hvb; simpa using hvb
      have he : missE k r c w ver ps = 2 := by unfold missE; rw [if_pos hc, if_neg h1]
      have hl : missL k r c w ver ps = [] := by unfold missL; rw [he]; rfl
      rw [hl, he]
      rw [hvb] at hvr
      rw [hc] at hk
      replace hc := Hid.mk hc
      replace he := Hid.mk he
      replace hl := Hid.mk hl
      replace h1 := Hid.mk h1
      refine fspec_of_body follows Try.func49 (by unfold Try.f49; rfl) (by unfold Try.f49; simp) onceA (by unfold Try.f49; simp) (by kernel_rfl) ?_; unfold Try.f49
      simp only [↓pre, post, ↓reduceIte, Nat.reduceEqDiff, Nat.reduceAdd, Nat.reduceMul, Nat.reduceSub, Nat.reduceLeDiff, Nat.reduceMod, Nat.reduceDiv, reduceCtorEq, Nat.reduceLT, Nat.reduceGT, Nat.reduceBEq, Option.isSome_some, ne_eq, Int.reduceEq, not_false_eq_true, bin_quo, bin_rem, List.length_cons, List.length_nil, List.map_cons, List.map_nil, List.append_nil, List.cons_append, List.nil_append, List.take_succ_cons, List.take_zero, List.drop_succ_cons, List.drop_zero, Nat.zero_add, Nat.add_zero, Nat.zero_le, Nat.le_refl, decide_true, decide_false, Bool.not_true, Bool.not_false, stepW, opE, intV, parV, boxE, loadE, partE, faddrE, fieldE, checkE, extractE, resultsE, resEs, resE, buildE, fillE, splice, if_true, if_false, Bool.false_eq_true, true_and, and_true, AV.cells, okA, oneA, fzs, fz, opTmp, Option.bind_some, Option.map_some, List.getElem?_cons_zero, List.getElem?_cons_succ, and_self, canonR, canon, canons, shift, shifts, pushAll, pushFrom, tys49, onceA, postU, boolV]
      (first | refine call_plain (hk) (by first | rfl | simp only [plains, plain, plain_treeR, parV, intV, boolV, Bool.and_true, Bool.and_self, *]) ?_ | refine call_pure (hk) (by first | rfl | simp only [plains, plain, plain_treeR, parV, intV, boolV, Bool.and_true, Bool.and_self, *]) (by intro k; first | rfl | simp only [shift, shifts, intV, boolV, *]) ?_); simp only [↓pre, post, ↓reduceIte, Nat.reduceEqDiff, Nat.reduceAdd, Nat.reduceMul, Nat.reduceSub, Nat.reduceLeDiff, Nat.reduceMod, Nat.reduceDiv, reduceCtorEq, Nat.reduceLT, Nat.reduceGT, Nat.reduceBEq, Option.isSome_some, ne_eq, Int.reduceEq, not_false_eq_true, bin_quo, bin_rem, List.length_cons, List.length_nil, List.map_cons, List.map_nil, List.append_nil, List.cons_append, List.nil_append, List.take_succ_cons, List.take_zero, List.drop_succ_cons, List.drop_zero, Nat.zero_add, Nat.add_zero, Nat.zero_le, Nat.le_refl, decide_true, decide_false, Bool.not_true, Bool.not_false, stepW, opE, intV, parV, boxE, loadE, partE, faddrE, fieldE, checkE, extractE, resultsE, resEs, resE, buildE, fillE, splice, if_true, if_false, Bool.false_eq_true, true_and, and_true, AV.cells, okA, oneA, fzs, fz, opTmp, Option.bind_some, Option.map_some, List.getElem?_cons_zero, List.getElem?_cons_succ, and_self, canonR, canon, canons, shift, shifts, pushAll, pushFrom, tys49, onceA, postU, boolV]; (first | refine call_plain (hvr) (by first | rfl | simp only [plains, plain, plain_treeR, parV, intV, boolV, Bool.and_true, Bool.and_self, *]) ?_ | refine call_pure (hvr) (by first | rfl | simp only [plains, plain, plain_treeR, parV, intV, boolV, Bool.and_true, Bool.and_self, *]) (by intro k; first | rfl | simp only [shift, shifts, intV, boolV, *]) ?_); simp only [↓pre, post, ↓reduceIte, Nat.reduceEqDiff, Nat.reduceAdd, Nat.reduceMul, Nat.reduceSub, Nat.reduceLeDiff, Nat.reduceMod, Nat.reduceDiv, reduceCtorEq, Nat.reduceLT, Nat.reduceGT, Nat.reduceBEq, Option.isSome_some, ne_eq, Int.reduceEq, not_false_eq_true, bin_quo, bin_rem, List.length_cons, List.length_nil, List.map_cons, List.map_nil, List.append_nil, List.cons_append, List.nil_append, List.take_succ_cons, List.take_zero, List.drop_succ_cons, List.drop_zero, Nat.zero_add, Nat.add_zero, Nat.zero_le, Nat.le_refl, decide_true, decide_false, Bool.not_true, Bool.not_false, stepW, opE, intV, parV, boxE, loadE, partE, faddrE, fieldE, checkE, extractE, resultsE, resEs, resE, buildE, fillE, splice, if_true, if_false, Bool.false_eq_true, true_and, and_true, AV.cells, okA, oneA, fzs, fz, opTmp, Option.bind_some, Option.map_some, List.getElem?_cons_zero, List.getElem?_cons_succ, and_self, canonR, canon, canons, shift, shifts, pushAll, pushFrom, tys49, onceA, postU, boolV]
      rfl
    | true =>
      have h1 : 1 ≤ ver ∧ ver ≤ 1073741824 := by unfold verB at hvb; simpa using hvb
      have he : missE k r c w ver ps = 0 := by unfold missE; rw [if_pos hc, if_pos h1]
      have hl : missL k r c w ver ps = missN (heldsP k r c w ps) ver ps.length := by unfold missL; rw [he]; rfl
      rw [hl, he]
      rw [hvb] at hvr
      rw [hc] at hk
      obtain ⟨hm, _, _, hn⟩ := chk_ok hc
      have hho := fun i (hi : i < ps.length) => ref14_Holds k r c w ver v ps cells i hv hm hi (by omega)
      generalize hhs : heldsP k r c w ps = hs at *
      generalize hN : ps.length = N at *
      generalize hres : ownE 3 (missN hs ver N).length (intsA (missN hs ver N)) 0 = res
      have hrd := hv.rd
      rw [hN] at hrd
      replace hn := Hid.mk hn
      replace hhs := Hid.mk hhs
      replace hres := Hid.mk hres
      replace hc := Hid.mk hc
      replace he := Hid.mk he
      replace hl := Hid.mk hl
      replace h1 := Hid.mk h1
      replace hm := Hid.mk hm
      replace hho := Hid.mk hho
      refine fspec_of_body follows Try.func49 (by unfold Try.f49; rfl) (by unfold Try.f49; simp) onceA (by unfold Try.f49; simp) (by kernel_rfl) ?_; unfold Try.f49
      simp only [↓pre, post, ↓reduceIte, Nat.reduceEqDiff, Nat.reduceAdd, Nat.reduceMul, Nat.reduceSub, Nat.reduceLeDiff, Nat.reduceMod, Nat.reduceDiv, reduceCtorEq, Nat.reduceLT, Nat.reduceGT, Nat.reduceBEq, Option.isSome_some, ne_eq, Int.reduceEq, not_false_eq_true, bin_quo, bin_rem, List.length_cons, List.length_nil, List.map_cons, List.map_nil, List.append_nil, List.cons_append, List.nil_append, List.take_succ_cons, List.take_zero, List.drop_succ_cons, List.drop_zero, Nat.zero_add, Nat.add_zero, Nat.zero_le, Nat.le_refl, decide_true, decide_false, Bool.not_true, Bool.not_false, stepW, opE, intV, parV, boxE, loadE, partE, faddrE, fieldE, checkE, extractE, resultsE, resEs, resE, buildE, fillE, splice, if_true, if_false, Bool.false_eq_true, true_and, and_true, AV.cells, okA, oneA, fzs, fz, opTmp, Option.bind_some, Option.map_some, List.getElem?_cons_zero, List.getElem?_cons_succ, and_self, canonR, canon, canons, shift, shifts, pushAll, pushFrom, tys49, onceA, postU, boolV]
      (first | refine call_plain (hk) (by first | rfl | simp only [plains, plain, plain_treeR, parV, intV, boolV, Bool.and_true, Bool.and_self, *]) ?_ | refine call_pure (hk) (by first | rfl | simp only [plains, plain, plain_treeR, parV, intV, boolV, Bool.and_true, Bool.and_self, *]) (by intro k; first | rfl | simp only [shift, shifts, intV, boolV, *]) ?_); simp only [↓pre, post, ↓reduceIte, Nat.reduceEqDiff, Nat.reduceAdd, Nat.reduceMul, Nat.reduceSub, Nat.reduceLeDiff, Nat.reduceMod, Nat.reduceDiv, reduceCtorEq, Nat.reduceLT, Nat.reduceGT, Nat.reduceBEq, Option.isSome_some, ne_eq, Int.reduceEq, not_false_eq_true, bin_quo, bin_rem, List.length_cons, List.length_nil, List.map_cons, List.map_nil, List.append_nil, List.cons_append, List.nil_append, List.take_succ_cons, List.take_zero, List.drop_succ_cons, List.drop_zero, Nat.zero_add, Nat.add_zero, Nat.zero_le, Nat.le_refl, decide_true, decide_false, Bool.not_true, Bool.not_false, stepW, opE, intV, parV, boxE, loadE, partE, faddrE, fieldE, checkE, extractE, resultsE, resEs, resE, buildE, fillE, splice, if_true, if_false, Bool.false_eq_true, true_and, and_true, AV.cells, okA, oneA, fzs, fz, opTmp, Option.bind_some, Option.map_some, List.getElem?_cons_zero, List.getElem?_cons_succ, and_self, canonR, canon, canons, shift, shifts, pushAll, pushFrom, tys49, onceA, postU, postA, boolV, cond_t, cond_f, eq_self, Nat.mul_one, postV]; (first | refine call_plain (hvr) (by first | rfl | simp only [plains, plain, plain_treeR, parV, intV, boolV, Bool.and_true, Bool.and_self, *]) ?_ | refine call_pure (hvr) (by first | rfl | simp only [plains, plain, plain_treeR, parV, intV, boolV, Bool.and_true, Bool.and_self, *]) (by intro k; first | rfl | simp only [shift, shifts, intV, boolV, *]) ?_); simp only [↓pre, post, ↓reduceIte, Nat.reduceEqDiff, Nat.reduceAdd, Nat.reduceMul, Nat.reduceSub, Nat.reduceLeDiff, Nat.reduceMod, Nat.reduceDiv, reduceCtorEq, Nat.reduceLT, Nat.reduceGT, Nat.reduceBEq, Option.isSome_some, ne_eq, Int.reduceEq, not_false_eq_true, bin_quo, bin_rem, List.length_cons, List.length_nil, List.map_cons, List.map_nil, List.append_nil, List.cons_append, List.nil_append, List.take_succ_cons, List.take_zero, List.drop_succ_cons, List.drop_zero, Nat.zero_add, Nat.add_zero, Nat.zero_le, Nat.le_refl, decide_true, decide_false, Bool.not_true, Bool.not_false, stepW, opE, intV, parV, boxE, loadE, partE, faddrE, fieldE, checkE, extractE, resultsE, resEs, resE, buildE, fillE, splice, if_true, if_false, Bool.false_eq_true, true_and, and_true, AV.cells, okA, oneA, fzs, fz, opTmp, Option.bind_some, Option.map_some, List.getElem?_cons_zero, List.getElem?_cons_succ, and_self, canonR, canon, canons, shift, shifts, pushAll, pushFrom, tys49, onceA, postU, postA, boolV, cond_t, cond_f, eq_self, Nat.mul_one, postV]
      rw [codeW_loop]
      refine loop_intro (fun q e m => ∃ i lv, q + i = N ∧ e 1 = v ∧ e 2 = intV ver ∧ e 3 = .tptr 0 [intV k, intV r, intV c, intV w] ∧ e 9 = lv ∧ e 10 = intV (i : Nat) ∧ Hid (Own m 3 1 lv (missN hs ver i).length (intsA (missN hs ver i)))) N ⟨0, nilS, by omega, rfl, rfl, rfl, rfl, rfl, ⟨own_nil⟩⟩ ?_
      rintro q e m ⟨i, lv, hqi, e1, e2, e3, e9, e10, hJ⟩
      replace hqi := Hid.mk hqi
      by_cases hlt : i < N
      · have hlt' : ((i : Nat) : Int) < ((N : Nat) : Int) := by omega
        have w1 := wrap_succ (n := i) (by have := hn.out; omega)
        have hms := missN_succ hs ver i
        have hml := missN_le hs ver i
        have hh := hho.out i hlt
        replace hms := Hid.mk hms
        replace hml := Hid.mk hml
        cases hho2 : holdsAt hs i ver with
        | true =>
          rw [hho2] at hh
          simp only [↓pre, post, ↓reduceIte, Nat.reduceEqDiff, Nat.reduceAdd, Nat.reduceMul, Nat.reduceSub, Nat.reduceLeDiff, Nat.reduceMod, Nat.reduceDiv, reduceCtorEq, Nat.reduceLT, Nat.reduceGT, Nat.reduceBEq, Option.isSome_some, ne_eq, Int.reduceEq, not_false_eq_true, bin_quo, bin_rem, List.length_cons, List.length_nil, List.map_cons, List.map_nil, List.append_nil, List.cons_append, List.nil_append, List.take_succ_cons, List.take_zero, List.drop_succ_cons, List.drop_zero, Nat.zero_add, Nat.add_zero, Nat.zero_le, Nat.le_refl, decide_true, decide_false, Bool.not_true, Bool.not_false, stepW, opE, intV, parV, boxE, loadE, partE, faddrE, fieldE, checkE, extractE, resultsE, resEs, resE, buildE, fillE, splice, if_true, if_false, Bool.false_eq_true, true_and, and_true, AV.cells, okA, oneA, fzs, fz, opTmp, Option.bind_some, Option.map_some, List.getElem?_cons_zero, List.getElem?_cons_succ, and_self, canonR, canon, canons, shift, shifts, pushAll, pushFrom, tys49, onceA, postU, postA, boolV, cond_t, cond_f, eq_self, Nat.mul_one, postV, e1, e2, e3, e9, e10, hlt', hrd.len']
          (first | refine call_plain (hh) (by first | rfl | simp only [plains, plain, plain_treeR, parV, intV, boolV, Bool.and_true, Bool.and_self, *]) ?_ | refine call_pure (hh) (by first | rfl | simp only [plains, plain, plain_treeR, parV, intV, boolV, Bool.and_true, Bool.and_self, *]) (by intro k; first | rfl | simp only [shift, shifts, intV, boolV, *]) ?_); simp only [↓pre, post, ↓reduceIte, Nat.reduceEqDiff, Nat.reduceAdd, Nat.reduceMul, Nat.reduceSub, Nat.reduceLeDiff, Nat.reduceMod, Nat.reduceDiv, reduceCtorEq, Nat.reduceLT, Nat.reduceGT, Nat.reduceBEq, Option.isSome_some, ne_eq, Int.reduceEq, not_false_eq_true, bin_quo, bin_rem, List.length_cons, List.length_nil, List.map_cons, List.map_nil, List.append_nil, List.cons_append, List.nil_append, List.take_succ_cons, List.take_zero, List.drop_succ_cons, List.drop_zero, Nat.zero_add, Nat.add_zero, Nat.zero_le, Nat.le_refl, decide_true, decide_false, Bool.not_true, Bool.not_false, stepW, opE, intV, parV, boxE, loadE, partE, faddrE, fieldE, checkE, extractE, resultsE, resEs, resE, buildE, fillE, splice, if_true, if_false, Bool.false_eq_true, true_and, and_true, AV.cells, okA, oneA, fzs, fz, opTmp, Option.bind_some, Option.map_some, List.getElem?_cons_zero, List.getElem?_cons_succ, and_self, canonR, canon, canons, shift, shifts, pushAll, pushFrom, tys49, onceA, postU, postA, boolV, cond_t, cond_f, eq_self, Nat.mul_one, postV, e1, e2, e3, e9, e10, w1]
          refine ⟨q - 1, by have := hqi.out; omega, i + 1, lv, by have := hqi.out; omega, rfl, rfl, ⟨?_⟩⟩
          rw [hms.out, hho2, if_pos rfl, List.append_nil]
          exact hJ.out
        | false =>
          rw [hho2] at hh
          simp only [↓pre, post, ↓reduceIte, Nat.reduceEqDiff, Nat.reduceAdd, Nat.reduceMul, Nat.reduceSub, Nat.reduceLeDiff, Nat.reduceMod, Nat.reduceDiv, reduceCtorEq, Nat.reduceLT, Nat.reduceGT, Nat.reduceBEq, Option.isSome_some, ne_eq, Int.reduceEq, not_false_eq_true, bin_quo, bin_rem, List.length_cons, List.length_nil, List.map_cons, List.map_nil, List.append_nil, List.cons_append, List.nil_append, List.take_succ_cons, List.take_zero, List.drop_succ_cons, List.drop_zero, Nat.zero_add, Nat.add_zero, Nat.zero_le, Nat.le_refl, decide_true, decide_false, Bool.not_true, Bool.not_false, stepW, opE, intV, parV, boxE, loadE, partE, faddrE, fieldE, checkE, extractE, resultsE, resEs, resE, buildE, fillE, splice, if_true, if_false, Bool.false_eq_true, true_and, and_true, AV.cells, okA, oneA, fzs, fz, opTmp, Option.bind_some, Option.map_some, List.getElem?_cons_zero, List.getElem?_cons_succ, and_self, canonR, canon, canons, shift, shifts, pushAll, pushFrom, tys49, onceA, postU, postA, boolV, cond_t, cond_f, eq_self, Nat.mul_one, postV, e1, e2, e3, e9, e10, hlt', hrd.len']
          (first | refine call_plain (hh) (by first | rfl | simp only [plains, plain, plain_treeR, parV, intV, boolV, Bool.and_true, Bool.and_self, *]) ?_ | refine call_pure (hh) (by first | rfl | simp only [plains, plain, plain_treeR, parV, intV, boolV, Bool.and_true, Bool.and_self, *]) (by intro k; first | rfl | simp only [shift, shifts, intV, boolV, *]) ?_); simp only [↓pre, post, ↓reduceIte, Nat.reduceEqDiff, Nat.reduceAdd, Nat.reduceMul, Nat.reduceSub, Nat.reduceLeDiff, Nat.reduceMod, Nat.reduceDiv, reduceCtorEq, Nat.reduceLT, Nat.reduceGT, Nat.reduceBEq, Option.isSome_some, ne_eq, Int.reduceEq, not_false_eq_true, bin_quo, bin_rem, List.length_cons, List.length_nil, List.map_cons, List.map_nil, List.append_nil, List.cons_append, List.nil_append, List.take_succ_cons, List.take_zero, List.drop_succ_cons, List.drop_zero, Nat.zero_add, Nat.add_zero, Nat.zero_le, Nat.le_refl, decide_true, decide_false, Bool.not_true, Bool.not_false, stepW, opE, intV, parV, boxE, loadE, partE, faddrE, fieldE, checkE, extractE, resultsE, resEs, resE, buildE, fillE, splice, if_true, if_false, Bool.false_eq_true, true_and, and_true, AV.cells, okA, oneA, fzs, fz, opTmp, Option.bind_some, Option.map_some, List.getElem?_cons_zero, List.getElem?_cons_succ, and_self, canonR, canon, canons, shift, shifts, pushAll, pushFrom, tys49, onceA, postU, postA, boolV, cond_t, cond_f, eq_self, Nat.mul_one, postV, e1, e2, e3, e9, e10, w1]
          refine app_keep (kd := .flat) (sz := 1) (y := 8) (zl := [.int .i64 0]) (by kernel_rfl) hJ.out (by kernel_rfl) (by kernel_rfl) (by kernel_rfl) rfl srcT1 (by rfl) (by have := hml.out; have := hn.out; omega) (by have := hml.out; have := hn.out; omega) ?_
          intro lv' m3 ho' hnx' hkeep hbl
          simp only [↓pre, post, ↓reduceIte, Nat.reduceEqDiff, Nat.reduceAdd, Nat.reduceMul, Nat.reduceSub, Nat.reduceLeDiff, Nat.reduceMod, Nat.reduceDiv, reduceCtorEq, Nat.reduceLT, Nat.reduceGT, Nat.reduceBEq, Option.isSome_some, ne_eq, Int.reduceEq, not_false_eq_true, bin_quo, bin_rem, List.length_cons, List.length_nil, List.map_cons, List.map_nil, List.append_nil, List.cons_append, List.nil_append, List.take_succ_cons, List.take_zero, List.drop_succ_cons, List.drop_zero, Nat.zero_add, Nat.add_zero, Nat.zero_le, Nat.le_refl, decide_true, decide_false, Bool.not_true, Bool.not_false, stepW, opE, intV, parV, boxE, loadE, partE, faddrE, fieldE, checkE, extractE, resultsE, resEs, resE, buildE, fillE, splice, if_true, if_false, Bool.false_eq_true, true_and, and_true, AV.cells, okA, oneA, fzs, fz, opTmp, Option.bind_some, Option.map_some, List.getElem?_cons_zero, List.getElem?_cons_succ, and_self, canonR, canon, canons, shift, shifts, pushAll, pushFrom, tys49, onceA, postU, postA, boolV, cond_t, cond_f, eq_self, Nat.mul_one, postV, e1, e2, e3, e9, e10, w1]
          refine ⟨q - 1, by have := hqi.out; omega, i + 1, lv', by have := hqi.out; omega, rfl, rfl, ⟨?_⟩⟩
          rw [hms.out, hho2, if_neg (by decide), List.length_append, intsA_append]
          exact ho'
      · have hlt' : ¬ ((i : Nat) : Int) < ((N : Nat) : Int) := by omega
        have hiN : i = N := by have := hqi.out; omega
        subst hiN
        have hcan := own_canon (P := Try.prog) (by kernel_rfl) hJ.out
        simp only [↓pre, post, ↓reduceIte, Nat.reduceEqDiff, Nat.reduceAdd, Nat.reduceMul, Nat.reduceSub, Nat.reduceLeDiff, Nat.reduceMod, Nat.reduceDiv, reduceCtorEq, Nat.reduceLT, Nat.reduceGT, Nat.reduceBEq, Option.isSome_some, ne_eq, Int.reduceEq, not_false_eq_true, bin_quo, bin_rem, List.length_cons, List.length_nil, List.map_cons, List.map_nil, List.append_nil, List.cons_append, List.nil_append, List.take_succ_cons, List.take_zero, List.drop_succ_cons, List.drop_zero, Nat.zero_add, Nat.add_zero, Nat.zero_le, Nat.le_refl, decide_true, decide_false, Bool.not_true, Bool.not_false, stepW, opE, intV, parV, boxE, loadE, partE, faddrE, fieldE, checkE, extractE, resultsE, resEs, resE, buildE, fillE, splice, if_true, if_false, Bool.false_eq_true, true_and, and_true, AV.cells, okA, oneA, fzs, fz, opTmp, Option.bind_some, Option.map_some, List.getElem?_cons_zero, List.getElem?_cons_succ, and_self, canonR, canon, canons, shift, shifts, pushAll, pushFrom, tys49, onceA, postU, postA, boolV, cond_t, cond_f, eq_self, Nat.mul_one, postV, e1, e2, e3, e9, e10, hlt', hrd.len', hcan]
        rw [← hres.out]
        rfl
  · have he : missE k r c w ver ps = chkI k r c w ps := by unfold missE; rw [if_neg hc]
    have hl : missL k r c w ver ps = [] := by unfold missL; rw [he, if_neg hc]
    rw [hl, he]
    generalize chkI k r c w ps = ck at *
    replace he := Hid.mk he
    refine fspec_of_body follows Try.func49 (by unfold Try.f49; rfl) (by unfold Try.f49; simp) onceA (by unfold Try.f49; simp) (by kernel_rfl) ?_; unfold Try.f49
    simp only [↓pre, post, ↓reduceIte, Nat.reduceEqDiff, Nat.reduceAdd, Nat.reduceMul, Nat.reduceSub, Nat.reduceLeDiff, Nat.reduceMod, Nat.reduceDiv, reduceCtorEq, Nat.reduceLT, Nat.reduceGT, Nat.reduceBEq, Option.isSome_some, ne_eq, Int.reduceEq, not_false_eq_true, bin_quo, bin_rem, List.length_cons, List.length_nil, List.map_cons, List.map_nil, List.append_nil, List.cons_append, List.nil_append, List.take_succ_cons, List.take_zero, List.drop_succ_cons, List.drop_zero, Nat.zero_add, Nat.add_zero, Nat.zero_le, Nat.le_refl, decide_true, decide_false, Bool.not_true, Bool.not_false, stepW, opE, intV, parV, boxE, loadE, partE, faddrE, fieldE, checkE, extractE, resultsE, resEs, resE, buildE, fillE, splice, if_true, if_false, Bool.false_eq_true, true_and, and_true, AV.cells, okA, oneA, fzs, fz, opTmp, Option.bind_some, Option.map_some, List.getElem?_cons_zero, List.getElem?_cons_succ, and_self, canonR, canon, canons, shift, shifts, pushAll, pushFrom, tys49, onceA, postU]
    (first | refine call_plain (hk) (by first | rfl | simp only [plains, plain, plain_treeR, parV, intV, boolV, Bool.and_true, Bool.and_self, *]) ?_ | refine call_pure (hk) (by first | rfl | simp only [plains, plain, plain_treeR, parV, intV, boolV, Bool.and_true, Bool.and_self, *]) (by intro k; first | rfl | simp only [shift, shifts, intV, boolV, *]) ?_); simp only [↓pre, post, ↓reduceIte, Nat.reduceEqDiff, Nat.reduceAdd, Nat.reduceMul, Nat.reduceSub, Nat.reduceLeDiff, Nat.reduceMod, Nat.reduceDiv, reduceCtorEq, Nat.reduceLT, Nat.reduceGT, Nat.reduceBEq, Option.isSome_some, ne_eq, Int.reduceEq, not_false_eq_true, bin_quo, bin_rem, List.length_cons, List.length_nil, List.map_cons, List.map_nil, List.append_nil, List.cons_append, List.nil_append, List.take_succ_cons, List.take_zero, List.drop_succ_cons, List.drop_zero, Nat.zero_add, Nat.add_zero, Nat.zero_le, Nat.le_refl, decide_true, decide_false, Bool.not_true, Bool.not_false, stepW, opE, intV, parV, boxE, loadE, partE, faddrE, fieldE, checkE, extractE, resultsE, resEs, resE, buildE, fillE, splice, if_true, if_false, Bool.false_eq_true, true_and, and_true, AV.cells, okA, oneA, fzs, fz, opTmp, Option.bind_some, Option.map_some, List.getElem?_cons_zero, List.getElem?_cons_succ, and_self, canonR, canon, canons, shift, shifts, pushAll, pushFrom, tys49, onceA, postU, nilS, hc]
    rfl
/-- tallies that are read -/
structure TalV (v : AV) (hs : List (Int × Int)) (T : List Int) (cells : List AV) : Prop where
  rd : RdSl v T.length cells
  at_ : ∀ i z, T[i]? = some z → ∃ a x, cells[i * 2]? = some (intV z) ∧ cells[i * 2 + 1]? = some a ∧ RdSl a (cellsN hs z hs.length).length (intsA (cellsN hs z hs.length) ++ x)
theorem tal_tree (hs : List (Int × Int)) (T : List Int) : TalV (treeR T.length (tCells hs T)) hs T (tCells hs T) :=
  ⟨treeR_rd _ _, fun i z hz => by
    obtain ⟨h1, h2⟩ := tCells_at hs T i z hz
    exact ⟨_, [], h1, h2, by rw [List.append_nil]; exact treeR_rd _ _⟩⟩
theorem ref14_Same (hs : List (Int × Int)) (T : List Int) (v v' : AV) (cells cells' : List AV) (hT : T.length ≤ 1073741824) (hl : ∀ z ∈ T, (cellsN hs z hs.length).length ≤ 1000000000000) (hv : TalV v hs T cells) (hv' : TalV v' hs T cells') : FSpec Try.prog 50 [v, v'] ⟨boolV true, []⟩ := by
  have hp := hv.rd.plain
  have hp' := hv'.rd.plain
  replace hT := Hid.mk hT
  replace hl := Hid.mk hl
  refine fspec_of_body follows Try.func50 (by unfold Try.f50; rfl) (by unfold Try.f50; simp) onceA (by unfold Try.f50; simp) (by kernel_rfl) ?_; unfold Try.f50
  simp only [↓pre, post, ↓reduceIte, Nat.reduceEqDiff, Nat.reduceAdd, Nat.reduceMul, Nat.reduceSub, Nat.reduceLeDiff, Nat.reduceMod, Nat.reduceDiv, reduceCtorEq, Nat.reduceLT, Nat.reduceGT, Nat.reduceBEq, Option.isSome_some, ne_eq, Int.reduceEq, not_false_eq_true, bin_quo, bin_rem, List.length_cons, List.length_nil, List.map_cons, List.map_nil, List.append_nil, List.cons_append, List.nil_append, List.take_succ_cons, List.take_zero, List.drop_succ_cons, List.drop_zero, Nat.zero_add, Nat.add_zero, Nat.zero_le, Nat.le_refl, decide_true, decide_false, Bool.not_true, Bool.not_false, stepW, opE, intV, parV, boxE, loadE, partE, faddrE, fieldE, checkE, extractE, resultsE, resEs, resE, buildE, fillE, splice, if_true, if_false, Bool.false_eq_true, true_and, and_true, AV.cells, okA, oneA, fzs, fz, opTmp, Option.bind_some, Option.map_some, List.getElem?_cons_zero, List.getElem?_cons_succ, and_self, canonR, canon, canons, shift, shifts, pushAll, pushFrom, tys50, onceA, postU, postA, boolV, cond_t, cond_f, eq_self, Nat.mul_one, postV, hv.rd.len', hv'.rd.len']
  rw [codeW_loop]
  refine loop_intro (fun q e m => ∃ i, q + i = T.length ∧ e 0 = v ∧ e 1 = v' ∧ e 5 = intV (i : Nat)) T.length ⟨0, by omega, rfl, rfl, rfl⟩ ?_
  rintro q e m ⟨i, hqi, e0, e1, e5⟩
  replace hqi := Hid.mk hqi
  by_cases hlt : i < T.length
  · have hlt' : ((i : Nat) : Int) < ((T.length : Nat) : Int) := by omega
    have w1 := wrap_succ (n := i) (by have := hT.out; omega)
    obtain ⟨z, hz⟩ : ∃ z, T[i]? = some z := ⟨_, List.getElem?_eq_getElem hlt⟩
    obtain ⟨a, x, t1, t2, ra⟩ := hv.at_ i z hz
    obtain ⟨a', x', t1', t2', ra'⟩ := hv'.at_ i z hz
    have hcl := hl.out z (List.mem_of_getElem? hz)
    have pa := ra.plain
    have pa' := ra'.plain
    have hsi := ref12_SameInts a a' _ _ x x' ra ra' hcl hcl
    have hss : sameI (cellsN hs z hs.length) (cellsN hs z hs.length) = true := by unfold sameI; simp
    rw [hss] at hsi
    replace hz := Hid.mk hz
    replace hcl := Hid.mk hcl
    simp only [↓pre, post, ↓reduceIte, Nat.reduceEqDiff, Nat.reduceAdd, Nat.reduceMul, Nat.reduceSub, Nat.reduceLeDiff, Nat.reduceMod, Nat.reduceDiv, reduceCtorEq, Nat.reduceLT, Nat.reduceGT, Nat.reduceBEq, Option.isSome_some, ne_eq, Int.reduceEq, not_false_eq_true, bin_quo, bin_rem, List.length_cons, List.length_nil, List.map_cons, List.map_nil, List.append_nil, List.cons_append, List.nil_append, List.take_succ_cons, List.take_zero, List.drop_succ_cons, List.drop_zero, Nat.zero_add, Nat.add_zero, Nat.zero_le, Nat.le_refl, decide_true, decide_false, Bool.not_true, Bool.not_false, stepW, opE, intV, parV, boxE, loadE, partE, faddrE, fieldE, checkE, extractE, resultsE, resEs, resE, buildE, fillE, splice, if_true, if_false, Bool.false_eq_true, true_and, and_true, AV.cells, okA, oneA, fzs, fz, opTmp, Option.bind_some, Option.map_some, List.getElem?_cons_zero, List.getElem?_cons_succ, and_self, canonR, canon, canons, shift, shifts, pushAll, pushFrom, tys50, onceA, postU, postA, boolV, cond_t, cond_f, eq_self, Nat.mul_one, postV, e0, e1, e5, hlt', hv.rd.len', hv'.rd.len', hv.rd.addr', hv'.rd.addr', hlt, t1, t2, t1', t2']
    (first | refine call_plain (hsi) (by first | rfl | simp only [plains, plain, plain_treeR, parV, intV, boolV, Bool.and_true, Bool.and_self, *]) ?_ | refine call_pure (hsi) (by first | rfl | simp only [plains, plain, plain_treeR, parV, intV, boolV, Bool.and_true, Bool.and_self, *]) (by intro k; first | rfl | simp only [shift, shifts, intV, boolV, *]) ?_); simp only [↓pre, post, ↓reduceIte, Nat.reduceEqDiff, Nat.reduceAdd, Nat.reduceMul, Nat.reduceSub, Nat.reduceLeDiff, Nat.reduceMod, Nat.reduceDiv, reduceCtorEq, Nat.reduceLT, Nat.reduceGT, Nat.reduceBEq, Option.isSome_some, ne_eq, Int.reduceEq, not_false_eq_true, bin_quo, bin_rem, List.length_cons, List.length_nil, List.map_cons, List.map_nil, List.append_nil, List.cons_append, List.nil_append, List.take_succ_cons, List.take_zero, List.drop_succ_cons, List.drop_zero, Nat.zero_add, Nat.add_zero, Nat.zero_le, Nat.le_refl, decide_true, decide_false, Bool.not_true, Bool.not_false, stepW, opE, intV, parV, boxE, loadE, partE, faddrE, fieldE, checkE, extractE, resultsE, resEs, resE, buildE, fillE, splice, if_true, if_false, Bool.false_eq_true, true_and, and_true, AV.cells, okA, oneA, fzs, fz, opTmp, Option.bind_some, Option.map_some, List.getElem?_cons_zero, List.getElem?_cons_succ, and_self, canonR, canon, canons, shift, shifts, pushAll, pushFrom, tys50, onceA, postU, postA, boolV, cond_t, cond_f, eq_self, Nat.mul_one, postV, e0, e1, e5, w1, pick_t, pick_f]
    exact ⟨q - 1, by have := hqi.out; omega, i + 1, by have := hqi.out; omega, rfl⟩
  · have hlt' : ¬ ((i : Nat) : Int) < ((T.length : Nat) : Int) := by omega
    simp only [↓pre, post, ↓reduceIte, Nat.reduceEqDiff, Nat.reduceAdd, Nat.reduceMul, Nat.reduceSub, Nat.reduceLeDiff, Nat.reduceMod, Nat.reduceDiv, reduceCtorEq, Nat.reduceLT, Nat.reduceGT, Nat.reduceBEq, Option.isSome_some, ne_eq, Int.reduceEq, not_false_eq_true, bin_quo, bin_rem, List.length_cons, List.length_nil, List.map_cons, List.map_nil, List.append_nil, List.cons_append, List.nil_append, List.take_succ_cons, List.take_zero, List.drop_succ_cons, List.drop_zero, Nat.zero_add, Nat.add_zero, Nat.zero_le, Nat.le_refl, decide_true, decide_false, Bool.not_true, Bool.not_false, stepW, opE, intV, parV, boxE, loadE, partE, faddrE, fieldE, checkE, extractE, resultsE, resEs, resE, buildE, fillE, splice, if_true, if_false, Bool.false_eq_true, true_and, and_true, AV.cells, okA, oneA, fzs, fz, opTmp, Option.bind_some, Option.map_some, List.getElem?_cons_zero, List.getElem?_cons_succ, and_self, canonR, canon, canons, shift, shifts, pushAll, pushFrom, tys50, onceA, postU, postA, boolV, cond_t, cond_f, eq_self, Nat.mul_one, postV, e0, e1, e5, hlt', hv.rd.len', hv'.rd.len']
end Go.Proofs.Ytenmbfplceeolaa

set_option linter.unusedVariables false
set_option linter.unusedSimpArgs false
set_option maxRecDepth 10000
namespace Go.Proofs.Ytenmbfplceeolaa
open Go Go.Tw Go.Proofs

theorem rd_convX {P : Program} {d c : Bool} {m : Mem} {src dst : TypeId} {v : AV} {n : Nat} {cs : List AV} (h : RdSl v n cs) (hd : elE P dst = none) : convX P d c m src dst v = convE P m src dst v := by
  rcases h.form with ⟨rfl, _⟩ | ⟨a, f, rfl, _⟩ | ⟨a, f, rfl, _⟩
  · unfold nilS; rw [convX_v, convY_o hd]
  · have : convX P d c m src dst (.emp a f) = convY P c m src dst (.emp a f) := by cases c <;> cases d <;> rfl
    rw [this, convY_o hd]
  · exact convX_r hd
/-- the bytes of a slice as a string -/
def strB (bs : List UInt8) : AV := .val (.string ⟨bs.toArray⟩)
theorem rd_strX {d c : Bool} {m : Mem} {v : AV} {bs : List UInt8} {x : List AV} (h : RdSl v bs.length (bytesA bs ++ x)) : convX Try.prog d c m 29 9 v = some ⟨strB bs, m, none⟩ := by
  rw [rd_convX h (by kernel_rfl)]
  exact RdSl.str (el := 5) h (by kernel_rfl) (by kernel_rfl) (by kernel_rfl) (by kernel_rfl)
/-- a copy -/
def cpyB (bs : List UInt8) : AV := .tree bs.length bs.length (bytesA bs) false
theorem conv_cpy {d : Bool} {m : Mem} {bs : List UInt8} : convX Try.prog d true m 9 29 (strB bs) = some ⟨.tree bs.length bs.length (bytesA bs) false, m, none⟩ := by
  have h := convX_t (P := Try.prog) (d := d) (m := m) (src := 9) (dst := 29) (s := ⟨bs.toArray⟩) (by kernel_rfl) (by kernel_rfl) (by kernel_rfl) (by kernel_rfl)
  unfold strB
  rw [h]
  rfl
theorem cpy_rd (bs : List UInt8) : RdSl (cpyB bs) bs.length (bytesA bs ++ []) := ⟨.inr (.inr ⟨_, false, by rw [List.append_nil]; rfl, Nat.le_refl _⟩)⟩
def twinC (ps : List PairB) : List AV := ps.flatMap fun p => [cpyB p.1, cpyB p.2]
theorem twinC_len (ps : List PairB) : (twinC ps).length = ps.length * 2 := by
  induction ps with
  | nil => rfl
  | cons a l ih => simp only [twinC, List.flatMap_cons, List.length_append, List.length_cons, List.length_nil] at ih ⊢; omega
theorem twinC_append (a b : List PairB) : twinC (a ++ b) = twinC a ++ twinC b := by simp [twinC]
theorem twinC_at : ∀ (ps : List PairB) (i : Nat) (p : PairB), ps[i]? = some p → (twinC ps)[i * 2]? = some (cpyB p.1) ∧ (twinC ps)[i * 2 + 1]? = some (cpyB p.2)
  | [], i, v, h => by simp at h
  | a :: T, 0, v, h => by
    simp at h; subst h
    exact ⟨rfl, rfl⟩
  | a :: T, i + 1, v, h => by
    have ih := twinC_at T i v (by simpa using h)
    have e : twinC (a :: T) = cpyB a.1 :: cpyB a.2 :: twinC T := rfl
    rw [e, show (i + 1) * 2 = i * 2 + 1 + 1 by omega]
    simpa using ih
theorem twin_row (ps : List PairB) : RowV (treeR ps.length (twinC ps)) ps (twinC ps) :=
  ⟨treeR_rd _ _, fun i p hp => by
    obtain ⟨h1, h2⟩ := twinC_at ps i p hp
    exact ⟨_, _, [], [], h1, h2, cpy_rd _, cpy_rd _⟩⟩
theorem build_pair {m : Mem} {n n' : Nat} {a b : List AV} : buildTreeE Try.prog m 55 1 [(0, .agg [.tree n n a false, .tree n' n' b false])] = some ⟨.tree 1 1 [.tree n n a false, .tree n' n' b false] true, m, none⟩ := by
  have h1 : elE Try.prog 55 = some 59 := by kernel_rfl
  have h2 : szE Try.prog 59 = some 2 := by kernel_rfl
  have h5 : zeroE Try.prog 59 = some [.slice none 0 0, .slice none 0 0] := by kernel_rfl
  simp [buildTreeE, h1, h2, h5, zerosE, List.range_succ, fillE, okA, oneA, splice, AV.cells, hasRefs, hasRef, outV]
theorem ref12_Twin (v : AV) (ps : List PairB) (cells : List AV) (hv : RowV v ps cells) (hn : ps.length * 48 ≤ 140737488355328) : FSpec Try.prog 41 [v] ⟨treeR ps.length (twinC ps), []⟩ := by
  refine frozen_ownV (el := 59) (by kernel_rfl) (fun c hc => ?_) ?_
  · unfold twinC at hc
    rw [List.mem_flatMap] at hc
    obtain ⟨p, _, hc⟩ := hc
    simp at hc
    rcases hc with rfl | rfl <;> rfl
  have hp := hv.rd.plain
  generalize hres : ownR 59 ps.length (twinC ps) = res
  replace hres := Hid.mk hres
  replace hn := Hid.mk hn
  refine fspec_of_body follows Try.func41 (by unfold Try.f41; rfl) (by unfold Try.f41; simp) onceA (by unfold Try.f41; simp) (by kernel_rfl) ?_; unfold Try.f41
  simp only [↓pre, post, ↓reduceIte, Nat.reduceEqDiff, Nat.reduceAdd, Nat.reduceMul, Nat.reduceSub, Nat.reduceLeDiff, Nat.reduceMod, Nat.reduceDiv, reduceCtorEq, Nat.reduceLT, Nat.reduceGT, Nat.reduceBEq, Option.isSome_some, ne_eq, Int.reduceEq, not_false_eq_true, bin_quo, bin_rem, List.length_cons, List.length_nil, List.map_cons, List.map_nil, List.append_nil, List.cons_append, List.nil_append, List.take_succ_cons, List.take_zero, List.drop_succ_cons, List.drop_zero, Nat.zero_add, Nat.add_zero, Nat.zero_le, Nat.le_refl, decide_true, decide_false, Bool.not_true, Bool.not_false, stepW, opE, intV, parV, boxE, loadE, partE, faddrE, fieldE, checkE, extractE, resultsE, resEs, resE, buildE, fillE, splice, if_true, if_false, Bool.false_eq_true, true_and, and_true, AV.cells, okA, oneA, fzs, fz, opTmp, Option.bind_some, Option.map_some, List.getElem?_cons_zero, List.getElem?_cons_succ, and_self, canonR, canon, canons, shift, shifts, pushAll, pushFrom, tys41, onceA, postU, postA, postV, boolV, cond_t, cond_f, eq_self, Nat.mul_one, nilS]
  rw [codeW_loop]
  refine loop_intro (fun q e m => ∃ i lv, q + i = ps.length ∧ e 0 = v ∧ e 3 = lv ∧ e 4 = intV (i : Nat) ∧ Hid (OwnK .var m 59 2 lv i (twinC (ps.take i)))) ps.length ⟨0, nilS, by omega, rfl, rfl, rfl, ⟨own_nil⟩⟩ ?_
  rintro q e m ⟨i, lv, hqi, e0, e3, e4, hJ⟩
  replace hqi := Hid.mk hqi
  by_cases hlt : i < ps.length
  · have hlt' : ((i : Nat) : Int) < ((ps.length : Nat) : Int) := by omega
    have w1 := wrap_succ (n := i) (by have := hn.out; omega)
    obtain ⟨p, hpi⟩ : ∃ p, ps[i]? = some p := ⟨_, List.getElem?_eq_getElem hlt⟩
    obtain ⟨a, b, xa, xb, ha, hb, hra, hrb⟩ := hv.at_ i p hpi
    have htk : ps.take (i + 1) = ps.take i ++ [p] := by rw [List.take_add_one, hpi]; rfl
    have s1 := fun (d c : Bool) (m : Mem) => rd_strX (d := d) (c := c) (m := m) hra
    have s2 := fun (d c : Bool) (m : Mem) => rd_strX (d := d) (c := c) (m := m) hrb
    replace hpi := Hid.mk hpi
    replace htk := Hid.mk htk
    simp only [↓pre, post, ↓reduceIte, Nat.reduceEqDiff, Nat.reduceAdd, Nat.reduceMul, Nat.reduceSub, Nat.reduceLeDiff, Nat.reduceMod, Nat.reduceDiv, reduceCtorEq, Nat.reduceLT, Nat.reduceGT, Nat.reduceBEq, Option.isSome_some, ne_eq, Int.reduceEq, not_false_eq_true, bin_quo, bin_rem, List.length_cons, List.length_nil, List.map_cons, List.map_nil, List.append_nil, List.cons_append, List.nil_append, List.take_succ_cons, List.take_zero, List.drop_succ_cons, List.drop_zero, Nat.zero_add, Nat.add_zero, Nat.zero_le, Nat.le_refl, decide_true, decide_false, Bool.not_true, Bool.not_false, stepW, opE, intV, parV, boxE, loadE, partE, faddrE, fieldE, checkE, extractE, resultsE, resEs, resE, buildE, fillE, splice, if_true, if_false, Bool.false_eq_true, true_and, and_true, AV.cells, okA, oneA, fzs, fz, opTmp, Option.bind_some, Option.map_some, List.getElem?_cons_zero, List.getElem?_cons_succ, and_self, canonR, canon, canons, shift, shifts, pushAll, pushFrom, tys41, onceA, postU, postA, postV, boolV, cond_t, cond_f, eq_self, Nat.mul_one, nilS, e0, e3, e4, hlt', hv.rd.len', hv.rd.addr', hlt, ha, hb, s1, s2, conv_cpy, build_pair]
    refine app_keep (kd := .var) (sz := 2) (y := 48) (zl := [.slice none 0 0, .slice none 0 0]) (by kernel_rfl) hJ.out (by kernel_rfl) (by kernel_rfl) (by kernel_rfl) rfl srcT1a rfl (by have := hn.out; omega) (by have := hn.out; omega) ?_
    intro lv' m3 ho' hnx' hkeep hbl
    refine contW_fixed (by kernel_rfl) ?_
    simp only [↓pre, post, ↓reduceIte, Nat.reduceEqDiff, Nat.reduceAdd, Nat.reduceMul, Nat.reduceSub, Nat.reduceLeDiff, Nat.reduceMod, Nat.reduceDiv, reduceCtorEq, Nat.reduceLT, Nat.reduceGT, Nat.reduceBEq, Option.isSome_some, ne_eq, Int.reduceEq, not_false_eq_true, bin_quo, bin_rem, List.length_cons, List.length_nil, List.map_cons, List.map_nil, List.append_nil, List.cons_append, List.nil_append, List.take_succ_cons, List.take_zero, List.drop_succ_cons, List.drop_zero, Nat.zero_add, Nat.add_zero, Nat.zero_le, Nat.le_refl, decide_true, decide_false, Bool.not_true, Bool.not_false, stepW, opE, intV, parV, boxE, loadE, partE, faddrE, fieldE, checkE, extractE, resultsE, resEs, resE, buildE, fillE, splice, if_true, if_false, Bool.false_eq_true, true_and, and_true, AV.cells, okA, oneA, fzs, fz, opTmp, Option.bind_some, Option.map_some, List.getElem?_cons_zero, List.getElem?_cons_succ, and_self, canonR, canon, canons, shift, shifts, pushAll, pushFrom, tys41, onceA, postU, postA, postV, boolV, cond_t, cond_f, eq_self, Nat.mul_one, nilS, e0, e3, e4, w1]
    refine ⟨q - 1, by have := hqi.out; omega, i + 1, lv', by have := hqi.out; omega, rfl, rfl, ⟨?_⟩⟩
    rw [htk.out, twinC_append]
    exact ho'
  · have hlt' : ¬ ((i : Nat) : Int) < ((ps.length : Nat) : Int) := by omega
    have hin : i = ps.length := by have := hqi.out; omega
    subst hin
    rw [List.take_length] at hJ
    have hst : ∀ c ∈ twinC ps, Still Try.prog c := fun c hc => by
      unfold twinC at hc
      rw [List.mem_flatMap] at hc
      obtain ⟨p, _, hc⟩ := hc
      simp at hc
      rcases hc with rfl | rfl <;> exact still_tree _ _ _ _
    obtain ⟨ids, hcan⟩ := own_canonV (P := Try.prog) (by kernel_rfl) hJ.out hst
    simp only [↓pre, post, ↓reduceIte, Nat.reduceEqDiff, Nat.reduceAdd, Nat.reduceMul, Nat.reduceSub, Nat.reduceLeDiff, Nat.reduceMod, Nat.reduceDiv, reduceCtorEq, Nat.reduceLT, Nat.reduceGT, Nat.reduceBEq, Option.isSome_some, ne_eq, Int.reduceEq, not_false_eq_true, bin_quo, bin_rem, List.length_cons, List.length_nil, List.map_cons, List.map_nil, List.append_nil, List.cons_append, List.nil_append, List.take_succ_cons, List.take_zero, List.drop_succ_cons, List.drop_zero, Nat.zero_add, Nat.add_zero, Nat.zero_le, Nat.le_refl, decide_true, decide_false, Bool.not_true, Bool.not_false, stepW, opE, intV, parV, boxE, loadE, partE, faddrE, fieldE, checkE, extractE, resultsE, resEs, resE, buildE, fillE, splice, if_true, if_false, Bool.false_eq_true, true_and, and_true, AV.cells, okA, oneA, fzs, fz, opTmp, Option.bind_some, Option.map_some, List.getElem?_cons_zero, List.getElem?_cons_succ, and_self, canonR, canon, canons, shift, shifts, pushAll, pushFrom, tys41, onceA, postU, postA, postV, boolV, cond_t, cond_f, eq_self, Nat.mul_one, nilS, e0, e3, e4, hlt', hv.rd.len', hcan]
    rw [← hres.out]
theorem ref12_SameRow (v v' : AV) (ps : List PairB) (cells cells' : List AV) (hv : RowV v ps cells) (hv' : RowV v' ps cells') (hn : ps.length * 48 ≤ 140737488355328) : FSpec Try.prog 52 [v, v'] ⟨boolV true, []⟩ := by
  have hp := hv.rd.plain
  have hp' := hv'.rd.plain
  replace hn := Hid.mk hn
  refine fspec_of_body follows Try.func52 (by unfold Try.f52; rfl) (by unfold Try.f52; simp) onceA (by unfold Try.f52; simp) (by kernel_rfl) ?_; unfold Try.f52
  simp only [↓pre, post, ↓reduceIte, Nat.reduceEqDiff, Nat.reduceAdd, Nat.reduceMul, Nat.reduceSub, Nat.reduceLeDiff, Nat.reduceMod, Nat.reduceDiv, reduceCtorEq, Nat.reduceLT, Nat.reduceGT, Nat.reduceBEq, Option.isSome_some, ne_eq, Int.reduceEq, not_false_eq_true, bin_quo, bin_rem, List.length_cons, List.length_nil, List.map_cons, List.map_nil, List.append_nil, List.cons_append, List.nil_append, List.take_succ_cons, List.take_zero, List.drop_succ_cons, List.drop_zero, Nat.zero_add, Nat.add_zero, Nat.zero_le, Nat.le_refl, decide_true, decide_false, Bool.not_true, Bool.not_false, stepW, opE, intV, parV, boxE, loadE, partE, faddrE, fieldE, checkE, extractE, resultsE, resEs, resE, buildE, fillE, splice, if_true, if_false, Bool.false_eq_true, true_and, and_true, AV.cells, okA, oneA, fzs, fz, opTmp, Option.bind_some, Option.map_some, List.getElem?_cons_zero, List.getElem?_cons_succ, and_self, canonR, canon, canons, shift, shifts, pushAll, pushFrom, tys52, onceA, postU, postA, postV, boolV, cond_t, cond_f, eq_self, Nat.mul_one, nilS, hv.rd.len', hv'.rd.len']
  rw [codeW_loop]
  refine loop_intro (fun q e m => ∃ i, q + i = ps.length ∧ e 0 = v ∧ e 1 = v' ∧ e 5 = intV (i : Nat)) ps.length ⟨0, by omega, rfl, rfl, rfl⟩ ?_
  rintro q e m ⟨i, hqi, e0, e1, e5⟩
  replace hqi := Hid.mk hqi
  by_cases hlt : i < ps.length
  · have hlt' : ((i : Nat) : Int) < ((ps.length : Nat) : Int) := by omega
    have w1 := wrap_succ (n := i) (by have := hn.out; omega)
    obtain ⟨p, hpi⟩ : ∃ p, ps[i]? = some p := ⟨_, List.getElem?_eq_getElem hlt⟩
    obtain ⟨a, b, xa, xb, ha, hb, hra, hrb⟩ := hv.at_ i p hpi
    obtain ⟨a', b', xa', xb', ha', hb', hra', hrb'⟩ := hv'.at_ i p hpi
    have s1 := fun (d c : Bool) (m : Mem) => rd_strX (d := d) (c := c) (m := m) hra
    have s2 := fun (d c : Bool) (m : Mem) => rd_strX (d := d) (c := c) (m := m) hrb
    have s3 := fun (d c : Bool) (m : Mem) => rd_strX (d := d) (c := c) (m := m) hra'
    have s4 := fun (d c : Bool) (m : Mem) => rd_strX (d := d) (c := c) (m := m) hrb'
    replace hpi := Hid.mk hpi
    simp only [↓pre, post, ↓reduceIte, Nat.reduceEqDiff, Nat.reduceAdd, Nat.reduceMul, Nat.reduceSub, Nat.reduceLeDiff, Nat.reduceMod, Nat.reduceDiv, reduceCtorEq, Nat.reduceLT, Nat.reduceGT, Nat.reduceBEq, Option.isSome_some, ne_eq, Int.reduceEq, not_false_eq_true, bin_quo, bin_rem, List.length_cons, List.length_nil, List.map_cons, List.map_nil, List.append_nil, List.cons_append, List.nil_append, List.take_succ_cons, List.take_zero, List.drop_succ_cons, List.drop_zero, Nat.zero_add, Nat.add_zero, Nat.zero_le, Nat.le_refl, decide_true, decide_false, Bool.not_true, Bool.not_false, stepW, opE, intV, parV, boxE, loadE, partE, faddrE, fieldE, checkE, extractE, resultsE, resEs, resE, buildE, fillE, splice, if_true, if_false, Bool.false_eq_true, true_and, and_true, AV.cells, okA, oneA, fzs, fz, opTmp, Option.bind_some, Option.map_some, List.getElem?_cons_zero, List.getElem?_cons_succ, and_self, canonR, canon, canons, shift, shifts, pushAll, pushFrom, tys52, onceA, postU, postA, postV, boolV, cond_t, cond_f, eq_self, Nat.mul_one, nilS, e0, e1, e5, hlt', hv.rd.len', hv'.rd.len', hv.rd.addr', hv'.rd.addr', hlt, ha, hb, ha', hb', s1, s2, s3, s4, strB, pick_t, pick_f, w1]
    exact ⟨q - 1, by have := hqi.out; omega, i + 1, by have := hqi.out; omega, rfl⟩
  · have hlt' : ¬ ((i : Nat) : Int) < ((ps.length : Nat) : Int) := by omega
    simp only [↓pre, post, ↓reduceIte, Nat.reduceEqDiff, Nat.reduceAdd, Nat.reduceMul, Nat.reduceSub, Nat.reduceLeDiff, Nat.reduceMod, Nat.reduceDiv, reduceCtorEq, Nat.reduceLT, Nat.reduceGT, Nat.reduceBEq, Option.isSome_some, ne_eq, Int.reduceEq, not_false_eq_true, bin_quo, bin_rem, List.length_cons, List.length_nil, List.map_cons, List.map_nil, List.append_nil, List.cons_append, List.nil_append, List.take_succ_cons, List.take_zero, List.drop_succ_cons, List.drop_zero, Nat.zero_add, Nat.add_zero, Nat.zero_le, Nat.le_refl, decide_true, decide_false, Bool.not_true, Bool.not_false, stepW, opE, intV, parV, boxE, loadE, partE, faddrE, fieldE, checkE, extractE, resultsE, resEs, resE, buildE, fillE, splice, if_true, if_false, Bool.false_eq_true, true_and, and_true, AV.cells, okA, oneA, fzs, fz, opTmp, Option.bind_some, Option.map_some, List.getElem?_cons_zero, List.getElem?_cons_succ, and_self, canonR, canon, canons, shift, shifts, pushAll, pushFrom, tys52, onceA, postU, postA, postV, boolV, cond_t, cond_f, eq_self, Nat.mul_one, nilS, e0, e1, e5, hlt', hv.rd.len', hv'.rd.len']
end Go.Proofs.Ytenmbfplceeolaa

set_option linter.unusedVariables false
set_option linter.unusedSimpArgs false
set_option maxRecDepth 10000
namespace Go.Proofs.Ytenmbfplceeolaa
open Go Go.Tw Go.Proofs

theorem nestO_len : ∀ (X : List Trip) (k : Nat), (nestO k X).length = X.length * 2
  | [], _ => rfl
  | x :: X, k => by
    have := nestO_len X (k + 1)
    simp only [nestO, List.length_cons, this]
    omega
theorem nestO_at : ∀ (X : List Trip) (k j : Nat) (x : Trip), X[j]? = some x → (nestO k X)[j * 2 + 1]? = some (.sl (k + j) 0 x.2.2.length x.2.2.length false)
  | [], _, _, _, h => by simp at h
  | a :: X, k, 0, x, h => by
    simp at h; subst h; rfl
  | a :: X, k, j + 1, x, h => by
    have ih := nestO_at X (k + 1) j x (by simpa using h)
    rw [show k + (j + 1) = k + 1 + j by omega, show (j + 1) * 2 + 1 = j * 2 + 1 + 1 + 1 by omega]
    simpa [nestO] using ih
theorem nestO_shift (base : Nat) : ∀ (X : List Trip) (k : Nat), shifts base (nestO k X) = nestO (base + k) X
  | [], k => by unfold nestO shifts; rfl
  | x :: X, k => by
    have ih := nestO_shift base X (k + 1)
    simp only [nestO, shifts, ih, intV]
    simp only [shift]
    rfl
theorem nest_lend (m : Mem) (d : Nat) : ∀ (X : List Trip) (k : Nat), (∀ j x, X[j]? = some x → m.at_ (k + j) = some ⟨intsA x.2.2, 3, .flat, true⟩) → lends d m (nestO k X) = some (X.flatMap fun x => [intV x.1, .tree x.2.2.length x.2.2.length (intsA x.2.2) false])
  | [], k, _ => by unfold nestO lends; rfl
  | x :: X, k, h => by
    have ih := nest_lend m d X (k + 1) fun j y hy => by
      have := h (j + 1) y (by simpa using hy)
      rw [← this]; congr 1; omega
    have h0 := h 0 x rfl
    rw [Nat.add_zero] at h0
    have e1 : lend d m (intV x.1) = some (intV x.1) := by cases d <;> (unfold intV lend; rfl)
    have e2 : lend d m (.sl k 0 x.2.2.length x.2.2.length false) = some (.tree x.2.2.length x.2.2.length (intsA x.2.2) false) := by
      cases d <;> (unfold lend; simp [h0])
    simp only [nestO, lends, e1, e2, ih, Option.bind_some, Option.map_some, List.flatMap_cons, List.cons_append, List.nil_append]
/-- tallies of one's own, from one of them on as they were -/
structure TalO (m : Mem) (b n t : Nat) (B N : Nat → Nat) : Prop where
  row : ∃ cells, m.at_ b = some ⟨cells, 69, .var, true⟩ ∧ cells.length = n * 2 ∧ ∀ j, t ≤ j → j < n → cells[j * 2 + 1]? = some (.sl (B j) 0 (N j) (N j) false)
  lt : b < m.next
  own : ∀ j, t ≤ j → j < n → 0 < N j ∧ B j < m.next ∧ ∃ cs, m.at_ (B j) = some ⟨cs, 3, .flat, true⟩ ∧ cs.length = N j
  inj : ∀ i j, t ≤ i → i < n → t ≤ j → j < n → B i = B j → i = j
theorem TalO.put {m : Mem} {b n t : Nat} {B N : Nat → Nat} (h : TalO m b n t B N) (ht : t < n) {cs' : List AV} (hl : cs'.length = N t) : TalO (m.put (B t) (some ⟨cs', 3, .flat, true⟩)) b n t B N := by
  obtain ⟨cells, hb, hcl, hat⟩ := h.row
  obtain ⟨h0, hlt, cs, hcs, _⟩ := h.own t (Nat.le_refl _) ht
  have hne : ¬ b = B t := by
    intro e
    rw [e, hcs] at hb
    simp at hb
  refine ⟨⟨cells, by rw [put_at, if_neg hne]; exact hb, hcl, hat⟩, h.lt, fun j h1 h2 => ?_, h.inj⟩
  obtain ⟨g1, g2, cs2, g3, g4⟩ := h.own j h1 h2
  refine ⟨g1, g2, ?_⟩
  rw [put_at]
  by_cases e : B j = B t
  · have := h.inj j t h1 h2 (Nat.le_refl _) ht e
    subst this
    exact ⟨cs', by rw [if_pos rfl], hl⟩
  · exact ⟨cs2, by rw [if_neg e]; exact g3, g4⟩
theorem TalO.next {m m' : Mem} {b n t : Nat} {B N : Nat → Nat} (h : TalO m b n t B N) (ht : t < n) (hn : m.next ≤ m'.next) (hk : ∀ j k, m.at_ j = some k → j < m.next → B t ≠ j → m'.at_ j = some k) {cells : List AV} (hb : m.at_ b = some ⟨cells, 69, .var, true⟩) {x : AV} : TalO (m'.put b (some ⟨splice cells (t * 2 + 1) [x], 69, .var, true⟩)) b n (t + 1) B N := by
  obtain ⟨cells', hb', hcl, hat⟩ := h.row
  rw [hb] at hb'
  obtain rfl : cells = cells' := by simpa using hb'
  have hsl : (splice cells (t * 2 + 1) [x]).length = n * 2 := by
    unfold splice
    simp only [List.length_append, List.length_take, List.length_drop, List.length_cons, List.length_nil]
    omega
  refine ⟨⟨_, by rw [put_at, if_pos rfl], hsl, fun j h1 h2 => ?_⟩, Nat.lt_of_lt_of_le h.lt hn, fun j h1 h2 => ?_, fun i j a c d e => h.inj i j (by omega) c (by omega) e⟩
  · rw [← hat j (by omega) h2]
    unfold splice
    have hlen : (cells.take (t * 2 + 1) ++ [x]).length = t * 2 + 2 := by simp only [List.length_append, List.length_take, List.length_cons, List.length_nil]; omega
    rw [List.getElem?_append_right (by omega), hlen, List.getElem?_drop]
    congr 1
    simp only [List.length_cons, List.length_nil]
    omega
  · obtain ⟨g1, g2, cs2, g3, g4⟩ := h.own j (by omega) h2
    obtain ⟨_, g2t, cst, g3t, _⟩ := h.own t (Nat.le_refl _) ht
    have hne : B t ≠ B j := fun e => by have := h.inj t j (Nat.le_refl _) ht (by omega) h2 e; omega
    have hnb : ¬ B j = b := by
      intro e
      rw [e, hb] at g3
      simp at g3
    refine ⟨g1, by rw [put_next]; omega, cs2, ?_, g4⟩
    rw [put_at, if_neg hnb]
    exact hk _ _ g3 g2 hne
/-- the answer of census.Tallies in its caller's memory -/
theorem talO_init (m : Mem) (hs : List (Int × Int)) (T : List Int) (hT : T = versF hs) : ∃ m1, pushAll Try.prog m (nestR (tX hs) ++ [(69, nestO 0 (tX hs))]) = m1 ∧ TalO m1 (m.next + T.length) T.length 0 (fun j => m.next + j) (fun j => (cellsN hs (T.getD j 0) hs.length).length) ∧ lends 2 m1 ((nestO m.next (tX hs)).drop 0) = some (tCells hs T) ∧ m1.at_ (m.next + T.length) = some ⟨nestO m.next (tX hs), 69, .var, true⟩ := by
  refine ⟨_, rfl, ?_⟩
  have hxl : (tX hs).length = T.length := by simp [tX, hT]
  have hnl : (nestR (tX hs)).length = T.length := by simp [nestR, hxl]
  have k9 : kindT Try.prog 69 = .var := by kernel_rfl
  have k3 : kindT Try.prog 3 = .flat := by kernel_rfl
  have hX : ∀ j z, T[j]? = some z → (tX hs)[j]? = some (z, 0, cellsN hs z hs.length) := fun j z h => by
    unfold tX
    rw [List.getElem?_map, ← hT, h]
    rfl
  have hrow : (pushAll Try.prog m (nestR (tX hs) ++ [(69, nestO 0 (tX hs))])).at_ (m.next + T.length) = some ⟨nestO m.next (tX hs), 69, .var, true⟩ := by
    rw [pushAll_at, if_pos (by rw [List.length_append, hnl]; simp), Nat.add_sub_cancel_left, List.getElem?_append_right (by omega), hnl, Nat.sub_self]
    simp only [List.getElem?_cons_zero, Option.map_some, Go.Tw.rowB, k9]
    rw [nestO_shift]
    rfl
  have hat : ∀ j z, T[j]? = some z → (pushAll Try.prog m (nestR (tX hs) ++ [(69, nestO 0 (tX hs))])).at_ (m.next + j) = some ⟨intsA (cellsN hs z hs.length), 3, .flat, true⟩ := by
    intro j z hz
    have hj := (List.getElem?_eq_some_iff.1 hz).1
    rw [pushAll_at, if_pos (by rw [List.length_append, hnl]; simp; omega), Nat.add_sub_cancel_left, List.getElem?_append_left (by omega)]
    unfold nestR
    rw [List.getElem?_map, hX j z hz]
    simp only [Option.map_some, Go.Tw.rowB, k3, if_true]
  have hnx : (pushAll Try.prog m (nestR (tX hs) ++ [(69, nestO 0 (tX hs))])).next = m.next + T.length + 1 := by
    unfold pushAll
    rw [pushFrom_next, List.length_append, hnl]
    simp
    omega
  have hget : ∀ j, j < T.length → T[j]? = some (T.getD j 0) := fun j hj => by rw [List.getD_eq_getElem?_getD, List.getElem?_eq_getElem hj]; rfl
  refine ⟨⟨⟨_, hrow, by rw [nestO_len, hxl], fun j _ hj => ?_⟩, by omega, fun j _ hj => ⟨?_, by omega, _, hat j _ (hget j hj), by simp [intsA]⟩, fun i j _ _ _ _ h => by omega⟩, ?_, hrow⟩
  · exact nestO_at _ _ _ _ (hX j _ (hget j hj))
  · have := vers_cells (hs := hs) (v := T.getD j 0) (by rw [← hT]; exact List.mem_of_getElem? (hget j hj))
    omega
  · rw [List.drop_zero, nest_lend _ 2 (tX hs) m.next fun j x hx => ?_, tX_cells, hT]
    have hj := (List.getElem?_eq_some_iff.1 hx).1
    rw [hxl] at hj
    have h1 := hX j _ (hget j hj)
    rw [hx] at h1
    cases h1
    exact hat j _ (hget j hj)
end Go.Proofs.Ytenmbfplceeolaa
