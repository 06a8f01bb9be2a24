import Derived.Test.YtenmbfplceeolaaCmG16
/- Wiped drives: plain laws. -/
set_option linter.unusedVariables false
set_option linter.unusedSimpArgs false
set_option maxRecDepth 10000
namespace Go.Proofs.Ytenmbfplceeolaa
open Go Go.Tw Go.Proofs

/-- is a drive wiped? -/
def wipB (l : List Bool) (i : Nat) : Bool := l.getD i false
/-- a row with its first n drives wiped where told -/
def wipeP (l : List Bool) (ps : List PairB) (n : Nat) : List PairB := ps.mapIdx fun i p => if i < n ∧ wipB l i = true then ([], []) else p
/-- how many are wiped -/
def goneN (l : List Bool) (n : Nat) : Nat := ((List.range n).filter (wipB l)).length
theorem goneN_succ (l : List Bool) (n : Nat) : goneN l (n + 1) = goneN l n + (if wipB l n = true then 1 else 0) := by
  unfold goneN
  rw [List.range_succ, List.filter_append, List.length_append]
  cases h : wipB l n <;> simp [h]
theorem goneN_le (l : List Bool) (n : Nat) : goneN l n ≤ n := by
  unfold goneN
  have := List.length_filter_le (wipB l) (List.range n)
  rw [List.length_range] at this
  exact this
theorem wipe_len (l : List Bool) (ps : List PairB) (n : Nat) : (wipeP l ps n).length = ps.length := by simp [wipeP]
theorem wipe_at {l : List Bool} {ps : List PairB} {n i : Nat} {p : PairB} (h : ps[i]? = some p) : (wipeP l ps n)[i]? = some (if i < n ∧ wipB l i = true then ([], []) else p) := by
  unfold wipeP
  rw [List.getElem?_mapIdx, h]
  rfl
theorem wipe_zero (l : List Bool) (ps : List PairB) : wipeP l ps 0 = ps := by
  apply List.ext_getElem?
  intro i
  cases h : ps[i]? with
  | none => rw [List.getElem?_eq_none (by rw [wipe_len]; exact List.getElem?_eq_none_iff.1 h)]
  | some p => rw [wipe_at h, if_neg (by omega)]
theorem wipe_row {k r c : Int} {l : List Bool} {ps : List PairB} {n : Nat} (h : rowB k r c ps = true) : rowB k r c (wipeP l ps n) = true := by
  unfold rowB at h ⊢
  simp only [Bool.and_eq_true, decide_eq_true_eq, List.all_eq_true] at h ⊢
  refine ⟨by rw [wipe_len]; exact h.1, fun p hp => ?_⟩
  obtain ⟨i, hi⟩ := List.getElem?_of_mem hp
  have hil := (List.getElem?_eq_some_iff.1 hi).1
  rw [wipe_len] at hil
  have hpi : ps[i]? = some ps[i] := List.getElem?_eq_getElem hil
  rw [wipe_at hpi] at hi
  split at hi
  · cases hi; rfl
  · cases hi; exact h.2 _ (List.mem_of_getElem? hpi)
theorem wipe_chk {k r c w : Int} {l : List Bool} {ps : List PairB} {n : Nat} (h : chkI k r c w ps = 0) : chkI k r c w (wipeP l ps n) = 0 := by
  obtain ⟨h1, h2, _⟩ := chk_ok h
  unfold chkI
  rw [h1, wipe_row h2]
  rfl
theorem wipe_held {k r c w : Int} {l : List Bool} {ps : List PairB} {n i : Nat} (hm : mayB k r c w = true) {x : Int × Int} (h : (heldsP k r c w ps)[i]? = some x) : (heldsP k r c w (wipeP l ps n))[i]? = some (if i < n ∧ wipB l i = true then (0, 0) else x) := by
  have hil := (List.getElem?_eq_some_iff.1 h).1
  rw [helds_len] at hil
  have hpi : ps[i]? = some ps[i] := List.getElem?_eq_getElem hil
  rw [helds_at hpi] at h
  cases h
  rw [helds_at (wipe_at hpi)]
  split
  · simp only [blank_held k r c w i hm]
  · rfl
theorem wipe_holds {k r c w : Int} {l : List Bool} {ps : List PairB} {n i : Nat} (hm : mayB k r c w = true) {v : Int} (hv : 0 < v) : holdsAt (heldsP k r c w (wipeP l ps n)) i v = (holdsAt (heldsP k r c w ps) i v && !(decide (i < n) && wipB l i)) := by
  unfold holdsAt
  cases h : (heldsP k r c w ps)[i]? with
  | none =>
    have : (heldsP k r c w (wipeP l ps n))[i]? = none := by
      rw [List.getElem?_eq_none_iff, helds_len] at h ⊢
      rw [wipe_len]
      exact h
    rw [this]
    rfl
  | some x =>
    rw [wipe_held hm h]
    by_cases hc : i < n ∧ wipB l i = true
    · rw [if_pos hc]
      have : ¬ (0 : Int) = v := by omega
      simp [hc.1, hc.2, this]
    · rw [if_neg hc]
      have : (decide (i < n) && wipB l i) = false := by
        rw [Bool.and_eq_false_iff]
        by_cases h1 : i < n
        · right
          cases hw : wipB l i with
          | false => rfl
          | true => exact absurd ⟨h1, hw⟩ hc
        · left; simpa using h1
      rw [this]
      simp
theorem wipe_cells_le {k r c w : Int} {l : List Bool} {ps : List PairB} {n : Nat} (hm : mayB k r c w = true) {v : Int} (hv : 0 < v) : ∀ m, (cellsN (heldsP k r c w (wipeP l ps n)) v m).length ≤ (cellsN (heldsP k r c w ps) v m).length
  | 0 => Nat.le_refl _
  | m + 1 => by
    have ih := wipe_cells_le (l := l) (ps := ps) (n := n) hm hv m
    rw [cellsN_succ, cellsN_succ, wipe_holds hm hv, List.length_append, List.length_append]
    cases h : holdsAt (heldsP k r c w ps) m v <;> cases h2 : (decide (m < n) && wipB l m) <;> simp <;> omega
theorem wipe_cells_ge {k r c w : Int} {l : List Bool} {ps : List PairB} {n : Nat} (hm : mayB k r c w = true) {v : Int} (hv : 0 < v) : ∀ m, (cellsN (heldsP k r c w ps) v m).length ≤ (cellsN (heldsP k r c w (wipeP l ps n)) v m).length + goneN l m
  | 0 => Nat.zero_le _
  | m + 1 => by
    have ih := wipe_cells_ge (l := l) (ps := ps) (n := n) hm hv m
    rw [cellsN_succ, cellsN_succ, wipe_holds hm hv, List.length_append, List.length_append, goneN_succ]
    cases h : holdsAt (heldsP k r c w ps) m v <;> cases h2 : wipB l m <;> cases h3 : decide (m < n) <;> simp <;> omega
/-- what counts where drives are wiped counts where they are not -/
theorem wipe_cnt {k r c w : Int} {l : List Bool} {ps : List PairB} {n : Nat} (hc : chkI k r c w ps = 0) {v : Int} (hv : v ∈ cntP k r c w (wipeP l ps n)) : v ∈ cntP k r c w ps := by
  obtain ⟨hm, _⟩ := chk_ok hc
  have hc2 := wipe_chk (l := l) (n := n) hc
  unfold cntP at hv ⊢
  rw [cnt_mem] at hv ⊢
  unfold talT at hv ⊢
  rw [if_pos hc2] at hv
  rw [if_pos hc]
  obtain ⟨h1, h2⟩ := hv
  obtain ⟨h3, h4, i, x, hx, hh⟩ := ((versF_falls _).mem v).1 h1
  have hil := (List.getElem?_eq_some_iff.1 hx).1
  rw [helds_len, wipe_len] at hil
  have hy : (heldsP k r c w ps)[i]? = some ((heldsP k r c w ps)[i]'(by rw [helds_len]; exact hil)) := List.getElem?_eq_getElem _
  rw [wipe_held hm hy] at hx
  refine ⟨((versF_falls _).mem v).2 ⟨h3, h4, i, _, hy, ?_⟩, ?_⟩
  · split at hx
    · cases hx; simp at hh; omega
    · cases hx; exact hh
  · unfold cntB at h2 ⊢
    rw [helds_len, wipe_len] at h2
    rw [helds_len]
    rw [decide_eq_true_eq] at h2 ⊢
    have := wipe_cells_le (l := l) (ps := ps) (n := n) hm h3 ps.length
    omega
theorem tal_pw (k r c w : Int) (ps : List PairB) : (talT k r c w ps).Pairwise (· > ·) ∧ ∀ x ∈ talT k r c w ps, 1 ≤ x ∧ x ≤ 1073741824 := by
  unfold talT
  split
  · refine ⟨(versF_falls _).pw, fun x hx => ?_⟩
    have := ((versF_falls _).mem x).1 hx
    have := helds_lt x this.2.2
    omega
  · exact ⟨.nil, fun x hx => by cases hx⟩
theorem win_mem {k r c w : Int} {ps : List PairB} (h : 1 ≤ (cntP k r c w ps).length) : (cntP k r c w ps).getD 0 0 ∈ cntP k r c w ps := by
  cases hl : cntP k r c w ps with
  | nil => rw [hl] at h; simp at h
  | cons a l => exact List.mem_cons_self
theorem win_ge {k r c w : Int} {ps : List PairB} {v : Int} (hv : v ∈ cntP k r c w ps) : v ≤ (cntP k r c w ps).getD 0 0 := by
  obtain ⟨h1, h2⟩ := tal_pw k r c w ps
  unfold cntP at hv ⊢
  rw [cnt_mem] at hv
  exact cnt_zero h1 (fun x hx => (h2 x hx).1) hv.1 hv.2
/-- W5 of the winner -/
theorem wipe_le {k r c w : Int} {l : List Bool} {ps : List PairB} {n : Nat} (hc : chkI k r c w ps = 0) (h : 1 ≤ (cntP k r c w (wipeP l ps n)).length) : 1 ≤ (cntP k r c w ps).length ∧ (cntP k r c w (wipeP l ps n)).getD 0 0 ≤ (cntP k r c w ps).getD 0 0 := by
  have hm := wipe_cnt hc (win_mem h)
  exact ⟨List.length_pos_of_mem hm, win_ge hm⟩
theorem wipe_all {k r c w : Int} {l : List Bool} {ps : List PairB} (hc : chkI k r c w ps = 0) (hg : goneN l ps.length = ps.length) : (cntP k r c w (wipeP l ps ps.length)).length = 0 := by
  obtain ⟨hm, _⟩ := chk_ok hc
  have hall : ∀ i, i < ps.length → wipB l i = true := by
    have key : ∀ n, goneN l n = n → ∀ i, i < n → wipB l i = true := by
      intro n
      induction n with
      | zero => intro _ i h; omega
      | succ n ih =>
        intro h i hi
        rw [goneN_succ] at h
        have := goneN_le l n
        cases hw : wipB l n with
        | false => rw [hw] at h; simp at h; omega
        | true =>
          rw [hw] at h
          simp at h
          by_cases hin : i = n
          · rw [hin]; exact hw
          · exact ih h i (by omega)
    exact key _ hg
  by_cases h0 : (cntP k r c w (wipeP l ps ps.length)).length = 0
  · exact h0
  · exfalso
    have hv := win_mem (k := k) (r := r) (c := c) (w := w) (ps := wipeP l ps ps.length) (by omega)
    generalize (cntP k r c w (wipeP l ps ps.length)).getD 0 0 = v at hv
    unfold cntP at hv
    rw [cnt_mem] at hv
    unfold talT at hv
    rw [if_pos (wipe_chk hc)] at hv
    obtain ⟨h3, _, i, x, hx, hh⟩ := ((versF_falls _).mem v).1 hv.1
    have hil := (List.getElem?_eq_some_iff.1 hx).1
    rw [helds_len, wipe_len] at hil
    have hy : (heldsP k r c w ps)[i]? = some ((heldsP k r c w ps)[i]'(by rw [helds_len]; exact hil)) := List.getElem?_eq_getElem _
    rw [wipe_held hm hy, if_pos ⟨hil, hall i hil⟩] at hx
    cases hx
    simp at hh
    omega
theorem wipe_keeps {k r c w : Int} {l : List Bool} {ps : List PairB} (hc : chkI k r c w ps = 0) (his : 1 ≤ (cntP k r c w ps).length) (hmis : (missN (heldsP k r c w ps) ((cntP k r c w ps).getD 0 0) ps.length).length = 0) (hg : (goneN l ps.length : Int) ≤ r) : 1 ≤ (cntP k r c w (wipeP l ps ps.length)).length ∧ (cntP k r c w (wipeP l ps ps.length)).getD 0 0 = (cntP k r c w ps).getD 0 0 := by
  obtain ⟨hm, _, hkr, _⟩ := chk_ok hc
  have hmn := may_n hm
  have hw := win_mem his
  generalize hW : (cntP k r c w ps).getD 0 0 = W at *
  have hw2 := hw
  unfold cntP at hw2
  rw [cnt_mem] at hw2
  obtain ⟨hwT, hwc⟩ := hw2
  have hb := (tal_pw k r c w ps).2 W hwT
  have hcm := cells_miss (heldsP k r c w ps) W ps.length
  have hge := wipe_cells_ge (l := l) (ps := ps) (n := ps.length) hm (v := W) (by omega) ps.length
  have hcnt : (k : Int) ≤ ((cellsN (heldsP k r c w (wipeP l ps ps.length)) W ps.length).length : Nat) := by omega
  have hmem : W ∈ cntP k r c w (wipeP l ps ps.length) := by
    unfold cntP
    rw [cnt_mem]
    constructor
    · unfold talT
      rw [if_pos (wipe_chk hc)]
      refine ((versF_falls _).mem W).2 ⟨by omega, by omega, ?_⟩
      have hpos : (cellsN (heldsP k r c w (wipeP l ps ps.length)) W ps.length) ≠ [] := by
        intro h
        rw [h] at hcnt
        simp at hcnt
        omega
      obtain ⟨x, hx⟩ := List.exists_mem_of_ne_nil _ hpos
      obtain ⟨i, _, _, hh⟩ := cells_mem.1 hx
      unfold holdsAt at hh
      cases hy : (heldsP k r c w (wipeP l ps ps.length))[i]? with
      | none => rw [hy] at hh; simp at hh
      | some y =>
        rw [hy] at hh
        exact ⟨i, y, hy, by simpa using hh⟩
    · unfold cntB
      rw [helds_len, wipe_len, decide_eq_true_eq]
      exact hcnt
  have h1 : 1 ≤ (cntP k r c w (wipeP l ps ps.length)).length := List.length_pos_of_mem hmem
  refine ⟨h1, ?_⟩
  have h2 := win_ge hmem
  have h3 := (wipe_le hc h1).2
  rw [hW] at h3
  omega
end Go.Proofs.Ytenmbfplceeolaa

set_option linter.unusedVariables false
set_option linter.unusedSimpArgs false
set_option maxRecDepth 10000
namespace Go.Proofs.Ytenmbfplceeolaa
open Go Go.Tw Go.Proofs

def boolsA (l : List Bool) : List AV := l.map boolV
theorem bool_at {l : List Bool} {x : List AV} {i : Nat} {b : Bool} (h : l[i]? = some b) : (boolsA l ++ x)[i]? = some (.val (.bool b)) := by
  have hi := (List.getElem?_eq_some_iff.1 h).1
  rw [List.getElem?_append_left (by simpa [boolsA] using hi)]
  simp [boolsA, h, boolV]
/-- cells of a row with its first drives wiped -/
def wcA (l : List Bool) (cs : List AV) (n : Nat) : List AV := cs.mapIdx fun j c => if j / 2 < n ∧ wipB l (j / 2) = true then nilS else c
theorem wcA_len (l : List Bool) (cs : List AV) (n : Nat) : (wcA l cs n).length = cs.length := by simp [wcA]
theorem wcA_at {l : List Bool} {cs : List AV} {n j : Nat} {c : AV} (h : cs[j]? = some c) : (wcA l cs n)[j]? = some (if j / 2 < n ∧ wipB l (j / 2) = true then nilS else c) := by
  unfold wcA
  rw [List.getElem?_mapIdx, h]
  rfl
theorem wcA_ext {l : List Bool} {cs : List AV} {n n' : Nat} (h : ∀ j, j < cs.length → (j / 2 < n ∧ wipB l (j / 2) = true ↔ j / 2 < n' ∧ wipB l (j / 2) = true)) : wcA l cs n = wcA l cs n' := by
  apply List.ext_getElem?
  intro j
  cases hc : cs[j]? with
  | none =>
    have := List.getElem?_eq_none_iff.1 hc
    rw [List.getElem?_eq_none (by rw [wcA_len]; exact this), List.getElem?_eq_none (by rw [wcA_len]; exact this)]
  | some c =>
    have hj := (List.getElem?_eq_some_iff.1 hc).1
    rw [wcA_at hc, wcA_at hc]
    simp only [h j hj]
theorem wcA_zero (l : List Bool) (cs : List AV) : wcA l cs 0 = cs := by
  apply List.ext_getElem?
  intro j
  cases hc : cs[j]? with
  | none => rw [List.getElem?_eq_none (by rw [wcA_len]; exact List.getElem?_eq_none_iff.1 hc)]
  | some c => rw [wcA_at hc, if_neg (by omega)]
theorem wcA_put {l : List Bool} {cs : List AV} {i : Nat} (hw : wipB l i = true) (hi : i * 2 + 2 ≤ cs.length) : splice (wcA l cs i) (i * 2) [nilS, nilS] = wcA l cs (i + 1) := by
  unfold splice
  apply List.ext_getElem?
  intro j
  have hl := wcA_len l cs i
  have htl : ((wcA l cs i).take (i * 2)).length = i * 2 := by rw [List.length_take, hl]; omega
  by_cases hj : j < i * 2
  · rw [List.append_assoc, List.getElem?_append_left (by rw [htl]; exact hj), List.getElem?_take_of_lt hj]
    have hc : cs[j]? = some (cs[j]'(by omega)) := List.getElem?_eq_getElem _
    rw [wcA_at hc, wcA_at hc]
    have h1 : j / 2 < i := by omega
    have h2 : j / 2 < i + 1 := by omega
    simp [h1, h2]
  · rw [List.append_assoc, List.getElem?_append_right (by rw [htl]; omega), htl]
    by_cases hj2 : j < i * 2 + 2
    · have hc : cs[j]? = some (cs[j]'(by omega)) := List.getElem?_eq_getElem _
      have h1 : j / 2 = i := by omega
      rw [wcA_at hc, h1, if_pos ⟨by omega, hw⟩]
      have : j - i * 2 = 0 ∨ j - i * 2 = 1 := by omega
      rcases this with e | e <;> rw [e] <;> rfl
    · rw [List.getElem?_append_right (by simp; omega), List.getElem?_drop]
      have e : i * 2 + ([nilS, nilS] : List AV).length + (j - i * 2 - ([nilS, nilS] : List AV).length) = j := by simp; omega
      rw [e]
      cases hc : cs[j]? with
      | none =>
        have := List.getElem?_eq_none_iff.1 hc
        rw [List.getElem?_eq_none (by rw [wcA_len]; exact this), List.getElem?_eq_none (by rw [wcA_len]; exact this)]
      | some c =>
        rw [wcA_at hc, wcA_at hc, if_neg (by omega)]
        have h1 : ¬ j / 2 < i + 1 := by omega
        simp [h1]
theorem row_len {v : AV} {ps : List PairB} {cells : List AV} (hv : RowV v ps cells) : ps.length * 2 ≤ cells.length := by
  by_cases h : ps.length = 0
  · rw [h]; omega
  · obtain ⟨p, hp⟩ : ∃ p, ps[ps.length - 1]? = some p := ⟨_, List.getElem?_eq_getElem (by omega)⟩
    obtain ⟨a, b, xa, xb, h1, h2, _⟩ := hv.at_ _ _ hp
    have := (List.getElem?_eq_some_iff.1 h2).1
    omega
theorem plains_of : ∀ (l : List AV), (∀ c ∈ l, plain c = true) → plains l = true
  | [], _ => rfl
  | c :: l, h => by simp only [plains, h c (by simp), plains_of l fun x hx => h x (by simp [hx]), Bool.and_self]
theorem wiped_row {v : AV} {ps : List PairB} {cells : List AV} (hv : RowV v ps cells) (l : List Bool) (n : Nat) : RowV (.tree ps.length ps.length (wcA l (cells.take (ps.length * 2)) n) false) (wipeP l ps n) (wcA l (cells.take (ps.length * 2)) n) ∧ plains (wcA l (cells.take (ps.length * 2)) n) = true := by
  have hcl := row_len hv
  have hat : ∀ i p, ps[i]? = some p → ∃ a b xa xb, (cells.take (ps.length * 2))[i * 2]? = some a ∧ (cells.take (ps.length * 2))[i * 2 + 1]? = some b ∧ RdSl a p.1.length (bytesA p.1 ++ xa) ∧ RdSl b p.2.length (bytesA p.2 ++ xb) := by
    intro i p hp
    have hi := (List.getElem?_eq_some_iff.1 hp).1
    obtain ⟨a, b, xa, xb, h1, h2, h3, h4⟩ := hv.at_ i p hp
    exact ⟨a, b, xa, xb, by rw [List.getElem?_take_of_lt (by omega)]; exact h1, by rw [List.getElem?_take_of_lt (by omega)]; exact h2, h3, h4⟩
  refine ⟨⟨⟨.inr (.inr ⟨ps.length, false, by rw [wipe_len], by rw [wipe_len]; exact Nat.le_refl _⟩)⟩, fun i p hp => ?_⟩, plains_of _ fun c hc => ?_⟩
  · have hi := (List.getElem?_eq_some_iff.1 hp).1
    rw [wipe_len] at hi
    have hq : ps[i]? = some ps[i] := List.getElem?_eq_getElem hi
    obtain ⟨a, b, xa, xb, h1, h2, h3, h4⟩ := hat i _ hq
    rw [wipe_at hq] at hp
    have e1 : i * 2 / 2 = i := by omega
    have e2 : (i * 2 + 1) / 2 = i := by omega
    by_cases hc : i < n ∧ wipB l i = true
    · rw [if_pos hc] at hp
      cases hp
      exact ⟨nilS, nilS, [], [], by rw [wcA_at h1, e1, if_pos hc], by rw [wcA_at h2, e2, if_pos hc], nil_rd, nil_rd⟩
    · rw [if_neg hc] at hp
      cases hp
      exact ⟨a, b, xa, xb, by rw [wcA_at h1, e1, if_neg hc], by rw [wcA_at h2, e2, if_neg hc], h3, h4⟩
  · obtain ⟨j, hj⟩ := List.getElem?_of_mem hc
    have hjl := (List.getElem?_eq_some_iff.1 hj).1
    rw [wcA_len, List.length_take] at hjl
    have hi : j / 2 < ps.length := by omega
    obtain ⟨a, b, xa, xb, h1, h2, h3, h4⟩ := hat (j / 2) _ (List.getElem?_eq_getElem hi)
    have hjj : j = j / 2 * 2 ∨ j = j / 2 * 2 + 1 := by omega
    rcases hjj with e | e
    · rw [← e] at h1
      rw [wcA_at h1] at hj
      split at hj
      · cases hj; rfl
      · cases hj; exact h3.plain
    · rw [← e] at h2
      rw [wcA_at h2] at hj
      split at hj
      · cases hj; rfl
      · cases hj; exact h4.plain
end Go.Proofs.Ytenmbfplceeolaa

set_option linter.unusedVariables false
set_option linter.unusedSimpArgs false
set_option maxRecDepth 10000
namespace Go.Proofs.Ytenmbfplceeolaa
open Go Go.Tw Go.Proofs

theorem wiped_end (l : List Bool) (cs : List AV) {i n : Nat} (hin : i ≤ n) (h : l.length ≤ i ∨ i = n) : goneN l i = goneN l n ∧ wcA l cs i = wcA l cs n := by
  rcases h with h | rfl
  · have h0 : ∀ j, i ≤ j → wipB l j = false := fun j hj => by unfold wipB; rw [List.getD_eq_getElem?_getD, List.getElem?_eq_none (by omega)]; rfl
    refine ⟨?_, wcA_ext fun j _ => ⟨fun h2 => ⟨by omega, h2.2⟩, fun h2 => ⟨?_, h2.2⟩⟩⟩
    · have key : ∀ d, goneN l (i + d) = goneN l i := by
        intro d
        induction d with
        | zero => rfl
        | succ d ih => rw [← Nat.add_assoc, goneN_succ, h0 _ (by omega), ih]; rfl
      have := key (n - i)
      rw [show i + (n - i) = n by omega] at this
      exact this.symm
    · by_cases hj : i ≤ j / 2
      · rw [h0 _ hj] at h2; exact absurd h2.2 (by decide)
      · omega
  · exact ⟨rfl, rfl⟩
set_option maxHeartbeats 4000000 in
theorem law14_Wiped (k r c w : Int) (v wv : AV) (ps : List PairB) (cells : List AV) (l : List Bool) (x : List AV) (hv : RowV v ps cells) (hw : RdSl wv l.length (boolsA l ++ x)) : FSpec Try.prog 9 [parV k r c w, v, wv] ⟨boolV true, []⟩ := by
  have hp := hv.rd.plain
  have hwp := hw.plain
  have h2 := census_Winner k r c w v ps cells hv
  have h5 := law14_awake
  unfold winV at h2
  by_cases hc : chkI k r c w ps = 0
  · obtain ⟨hmB, _, _, hN16⟩ := chk_ok hc
    have hwin := fun n => (wiped_row hv l n).1
    have hwpl := fun n => (wiped_row hv l n).2
    have hmis := census_Missing k r c w ((cntP k r c w ps).getD 0 0) v ps cells hv
    have hme : 1 ≤ (cntP k r c w ps).length → missE k r c w ((cntP k r c w ps).getD 0 0) ps = 0 := by
      intro h
      have hm := win_mem h
      unfold cntP at hm
      rw [cnt_mem] at hm
      have := (tal_pw k r c w ps).2 _ hm.1
      unfold missE
      rw [if_pos hc, if_pos (by unfold cntP; exact this)]
    have hml : 1 ≤ (cntP k r c w ps).length → missL k r c w ((cntP k r c w ps).getD 0 0) ps = missN (heldsP k r c w ps) ((cntP k r c w ps).getD 0 0) ps.length := by
      intro h
      unfold missL
      rw [if_pos (hme h)]
    have hle := fun n => wipe_le (l := l) (n := n) hc
    have hall := wipe_all (l := l) hc
    have hke := wipe_keeps (l := l) hc
    have hrl := row_len hv
    rw [hc] at h2
    have hsrc := fun (m : Mem) => RdSl.src (P := Try.prog) (el := 59) (sz := 2) (m := m) hv.rd hrl
    have hcl : (cells.take (ps.length * 2)).length = ps.length * 2 := by rw [List.length_take]; omega
    replace hmB := Hid.mk hmB
    replace hN16 := Hid.mk hN16
    replace hwin := Hid.mk hwin
    replace hwpl := Hid.mk hwpl
    replace hme := Hid.mk hme
    replace hml := Hid.mk hml
    replace hle := Hid.mk hle
    replace hall := Hid.mk hall
    replace hke := Hid.mk hke
    replace hrl := Hid.mk hrl
    replace hcl := Hid.mk hcl
    replace hmis := Hid.mk hmis
    replace hc := Hid.mk hc
    refine fspec_of_body follows Try.func9 (by unfold Try.f9; rfl) (by unfold Try.f9; simp) onceA (by unfold Try.f9; simp) (by kernel_rfl) ?_; unfold Try.f9
    simp only [↓pre, post, ↓reduceIte, Nat.reduceEqDiff, Nat.reduceAdd, Nat.reduceMul, Nat.reduceSub, Nat.reduceLeDiff, Nat.reduceMod, Nat.reduceDiv, reduceCtorEq, Nat.reduceLT, Nat.reduceGT, Nat.reduceBEq, Option.isSome_some, ne_eq, Int.reduceEq, not_false_eq_true, bin_quo, bin_rem, List.length_cons, List.length_nil, List.map_cons, List.map_nil, List.append_nil, List.cons_append, List.nil_append, List.take_succ_cons, List.take_zero, List.drop_succ_cons, List.drop_zero, Nat.zero_add, Nat.add_zero, Nat.zero_le, Nat.le_refl, decide_true, decide_false, Bool.not_true, Bool.not_false, stepW, opE, intV, parV, boxE, loadE, partE, faddrE, fieldE, checkE, extractE, resultsE, resEs, resE, buildE, fillE, splice, if_true, if_false, Bool.false_eq_true, true_and, and_true, AV.cells, okA, oneA, fzs, fz, opTmp, Option.bind_some, Option.map_some, List.getElem?_cons_zero, List.getElem?_cons_succ, and_self, canonR, canon, canons, shift, shifts, pushAll, pushFrom, tys9, onceA, postU, postA, boolV, cond_t, cond_f, eq_self]
    (first | refine call_plain (h5) (by first | rfl | simp only [plains, plain, plain_treeR, parV, intV, boolV, Bool.and_true, Bool.and_self, *]) ?_ | refine call_pure (h5) (by first | rfl | simp only [plains, plain, plain_treeR, parV, intV, boolV, Bool.and_true, Bool.and_self, *]) (by intro k; first | rfl | simp only [shift, shifts, intV, boolV, *]) ?_); simp only [↓pre, post, ↓reduceIte, Nat.reduceEqDiff, Nat.reduceAdd, Nat.reduceMul, Nat.reduceSub, Nat.reduceLeDiff, Nat.reduceMod, Nat.reduceDiv, reduceCtorEq, Nat.reduceLT, Nat.reduceGT, Nat.reduceBEq, Option.isSome_some, ne_eq, Int.reduceEq, not_false_eq_true, bin_quo, bin_rem, List.length_cons, List.length_nil, List.map_cons, List.map_nil, List.append_nil, List.cons_append, List.nil_append, List.take_succ_cons, List.take_zero, List.drop_succ_cons, List.drop_zero, Nat.zero_add, Nat.add_zero, Nat.zero_le, Nat.le_refl, decide_true, decide_false, Bool.not_true, Bool.not_false, stepW, opE, intV, parV, boxE, loadE, partE, faddrE, fieldE, checkE, extractE, resultsE, resEs, resE, buildE, fillE, splice, if_true, if_false, Bool.false_eq_true, true_and, and_true, AV.cells, okA, oneA, fzs, fz, opTmp, Option.bind_some, Option.map_some, List.getElem?_cons_zero, List.getElem?_cons_succ, and_self, canonR, canon, canons, shift, shifts, pushAll, pushFrom, tys9, onceA, postU, postA, boolV, cond_t, cond_f, eq_self, Nat.mul_one, Int.reduceEq, Int.reduceLT, Int.reduceLE]; (first | refine call_plain (h2) (by first | rfl | simp only [plains, plain, plain_treeR, parV, intV, boolV, Bool.and_true, Bool.and_self, *]) ?_ | refine call_pure (h2) (by first | rfl | simp only [plains, plain, plain_treeR, parV, intV, boolV, Bool.and_true, Bool.and_self, *]) (by intro k; first | rfl | simp only [shift, shifts, intV, boolV, *]) ?_); simp only [↓pre, post, ↓reduceIte, Nat.reduceEqDiff, Nat.reduceAdd, Nat.reduceMul, Nat.reduceSub, Nat.reduceLeDiff, Nat.reduceMod, Nat.reduceDiv, reduceCtorEq, Nat.reduceLT, Nat.reduceGT, Nat.reduceBEq, Option.isSome_some, ne_eq, Int.reduceEq, not_false_eq_true, bin_quo, bin_rem, List.length_cons, List.length_nil, List.map_cons, List.map_nil, List.append_nil, List.cons_append, List.nil_append, List.take_succ_cons, List.take_zero, List.drop_succ_cons, List.drop_zero, Nat.zero_add, Nat.add_zero, Nat.zero_le, Nat.le_refl, decide_true, decide_false, Bool.not_true, Bool.not_false, stepW, opE, intV, parV, boxE, loadE, partE, faddrE, fieldE, checkE, extractE, resultsE, resEs, resE, buildE, fillE, splice, if_true, if_false, Bool.false_eq_true, true_and, and_true, AV.cells, okA, oneA, fzs, fz, opTmp, Option.bind_some, Option.map_some, List.getElem?_cons_zero, List.getElem?_cons_succ, and_self, canonR, canon, canons, shift, shifts, pushAll, pushFrom, tys9, onceA, postU, postA, boolV, cond_t, cond_f, eq_self, Nat.mul_one, Int.reduceEq, Int.reduceLT, Int.reduceLE]
    have hps0 : (0 : Int) < ((ps.length : Nat) : Int) := by have := may_n hmB.out; have := (chk_ok hc.out).2.2.1; omega
    have hps1 : 0 < ps.length := by omega
    refine app_keep (kd := .var) (sz := 2) (y := 48) (zl := [.slice none 0 0, .slice none 0 0]) (by kernel_rfl) own_nil (by kernel_rfl) (by kernel_rfl) (by kernel_rfl) rfl (hsrc _) hcl.out (by have := hN16.out; omega) (by have := hN16.out; omega) ?_
    intro lv' m3 ho' hnx' hkeep hbl
    simp only [Nat.zero_add, List.nil_append] at ho'
    obtain ⟨b, rfl, hb, hbn⟩ := ho'.sl hps1
    simp only [↓pre, post, ↓reduceIte, Nat.reduceEqDiff, Nat.reduceAdd, Nat.reduceMul, Nat.reduceSub, Nat.reduceLeDiff, Nat.reduceMod, Nat.reduceDiv, reduceCtorEq, Nat.reduceLT, Nat.reduceGT, Nat.reduceBEq, Option.isSome_some, ne_eq, Int.reduceEq, not_false_eq_true, bin_quo, bin_rem, List.length_cons, List.length_nil, List.map_cons, List.map_nil, List.append_nil, List.cons_append, List.nil_append, List.take_succ_cons, List.take_zero, List.drop_succ_cons, List.drop_zero, Nat.zero_add, Nat.add_zero, Nat.zero_le, Nat.le_refl, decide_true, decide_false, Bool.not_true, Bool.not_false, stepW, opE, intV, parV, boxE, loadE, partE, faddrE, fieldE, checkE, extractE, resultsE, resEs, resE, buildE, fillE, splice, if_true, if_false, Bool.false_eq_true, true_and, and_true, AV.cells, okA, oneA, fzs, fz, opTmp, Option.bind_some, Option.map_some, List.getElem?_cons_zero, List.getElem?_cons_succ, and_self, canonR, canon, canons, shift, shifts, pushAll, pushFrom, tys9, onceA, postU, postA, boolV, cond_t, cond_f, eq_self, Nat.mul_one, Int.reduceEq, Int.reduceLT, Int.reduceLE]
    generalize hcs : cells.take (ps.length * 2) = cs at *
    generalize hWW : (cntP k r c w ps).getD 0 0 = W at *
    generalize hisb : decide (1 ≤ (cntP k r c w ps).length) = isb at *
    replace hisb := Hid.mk hisb
    generalize heldsP k r c w ps = hs at *
    generalize hnn : ps.length = n at *
    have hle2 := hle.out n
    have hwn2 := census_Winner k r c w _ _ _ (hwin.out n)
    unfold winV at hwn2
    rw [wipe_chk hc.out] at hwn2
    have hall2 := hall.out
    have hke2 := hke.out
    generalize (cntP k r c w (wipeP l ps n)).getD 0 0 = W2 at *
    generalize hb2 : decide (1 ≤ (cntP k r c w (wipeP l ps n)).length) = has at *
    generalize (cntP k r c w (wipeP l ps n)).length = c2 at *
    replace hle2 := Hid.mk hle2
    replace hall2 := Hid.mk hall2
    replace hke2 := Hid.mk hke2
    replace hb2 := Hid.mk hb2
    replace hwn2 := Hid.mk hwn2
    rw [codeW_loop]
    refine loop_intro (fun q e m => ∃ i, q + i = n ∧ e 1 = v ∧ e 2 = wv ∧ e 3 = .tptr 0 [intV k, intV r, intV c, intV w] ∧ e 8 = intV W ∧ e 9 = boolV isb ∧ e 11 = .sl b 0 n n false ∧ e 12 = intV (goneN l i : Nat) ∧ e 13 = intV (i : Nat) ∧ m.at_ b = some ⟨wcA l cs i, 59, .var, true⟩ ∧ Hid (b < m.next)) n ⟨0, by omega, rfl, rfl, rfl, rfl, rfl, rfl, rfl, rfl, by rw [wcA_zero]; exact hb, ⟨hbn⟩⟩ ?_
    rintro q e m ⟨i, hqi, e1, e2, e3, e8, e9, e11, e12, e13, hm0, hJ⟩
    replace hqi := Hid.mk hqi
    have w1 := wrap_succ (n := i) (by have := hqi.out; have := hN16.out; omega)
    have w2 := wrap_succ (n := goneN l i) (by have := goneN_le l i; have := hqi.out; have := hN16.out; omega)
    have hgs := goneN_succ l i
    replace hgs := Hid.mk hgs
    have hlen : ∀ b : Nat, lenE Try.prog 55 (.sl b 0 n n false) = some (.val (.int .i64 (n : Nat))) := fun b => by kernel_rfl
    by_cases hlt : i < n
    · have hlt' : ((i : Nat) : Int) < ((n : Nat) : Int) := by omega
      by_cases hll : i < l.length
      · have hll' : ((i : Nat) : Int) < ((l.length : Nat) : Int) := by omega
        obtain ⟨z, hz⟩ : ∃ z, l[i]? = some z := ⟨_, List.getElem?_eq_getElem hll⟩
        have hzb := bool_at (x := x) hz
        have hwz : wipB l i = z := by unfold wipB; rw [List.getD_eq_getElem?_getD, hz]; rfl
        replace hz := Hid.mk hz
        replace hwz := Hid.mk hwz
        cases z with
        | true =>
          have hwl := wcA_len l cs i
          have hput := wcA_put (cs := cs) hwz.out (by have := hcl.out; omega)
          have hi2 : i * 2 + 2 ≤ cs.length := by have := hcl.out; omega
          simp only [↓pre, post, ↓reduceIte, Nat.reduceEqDiff, Nat.reduceAdd, Nat.reduceMul, Nat.reduceSub, Nat.reduceLeDiff, Nat.reduceMod, Nat.reduceDiv, reduceCtorEq, Nat.reduceLT, Nat.reduceGT, Nat.reduceBEq, Option.isSome_some, ne_eq, Int.reduceEq, not_false_eq_true, bin_quo, bin_rem, List.length_cons, List.length_nil, List.map_cons, List.map_nil, List.append_nil, List.cons_append, List.nil_append, List.take_succ_cons, List.take_zero, List.drop_succ_cons, List.drop_zero, Nat.zero_add, Nat.add_zero, Nat.zero_le, Nat.le_refl, decide_true, decide_false, Bool.not_true, Bool.not_false, stepW, opE, intV, parV, boxE, loadE, partE, faddrE, fieldE, checkE, extractE, resultsE, resEs, resE, buildE, fillE, splice, if_true, if_false, Bool.false_eq_true, true_and, and_true, AV.cells, okA, oneA, fzs, fz, opTmp, Option.bind_some, Option.map_some, List.getElem?_cons_zero, List.getElem?_cons_succ, and_self, canonR, canon, canons, shift, shifts, pushAll, pushFrom, tys9, onceA, postU, postA, boolV, cond_t, cond_f, eq_self, Nat.mul_one, Int.reduceEq, Int.reduceLT, Int.reduceLE, storeE, e1, e2, e3, e8, e9, e11, e12, e13, hlen, hlt', hw.len', hll', hw.addr', hll, hzb, hlt, hm0, hwl, hi2, w1, w2, addr_slp]
          exact ⟨q - 1, by have := hqi.out; omega, i + 1, by have := hqi.out; omega, by rw [hgs.out, if_pos hwz.out], rfl, by rw [← hput]; rfl, hJ⟩
        | false =>
          simp only [↓pre, post, ↓reduceIte, Nat.reduceEqDiff, Nat.reduceAdd, Nat.reduceMul, Nat.reduceSub, Nat.reduceLeDiff, Nat.reduceMod, Nat.reduceDiv, reduceCtorEq, Nat.reduceLT, Nat.reduceGT, Nat.reduceBEq, Option.isSome_some, ne_eq, Int.reduceEq, not_false_eq_true, bin_quo, bin_rem, List.length_cons, List.length_nil, List.map_cons, List.map_nil, List.append_nil, List.cons_append, List.nil_append, List.take_succ_cons, List.take_zero, List.drop_succ_cons, List.drop_zero, Nat.zero_add, Nat.add_zero, Nat.zero_le, Nat.le_refl, decide_true, decide_false, Bool.not_true, Bool.not_false, stepW, opE, intV, parV, boxE, loadE, partE, faddrE, fieldE, checkE, extractE, resultsE, resEs, resE, buildE, fillE, splice, if_true, if_false, Bool.false_eq_true, true_and, and_true, AV.cells, okA, oneA, fzs, fz, opTmp, Option.bind_some, Option.map_some, List.getElem?_cons_zero, List.getElem?_cons_succ, and_self, canonR, canon, canons, shift, shifts, pushAll, pushFrom, tys9, onceA, postU, postA, boolV, cond_t, cond_f, eq_self, Nat.mul_one, Int.reduceEq, Int.reduceLT, Int.reduceLE, storeE, e1, e2, e3, e8, e9, e11, e12, e13, hlen, hlt', hw.len', hll', hw.addr', hll, hzb, hlt, w1]
          exact ⟨q - 1, by have := hqi.out; omega, i + 1, by have := hqi.out; omega, by rw [hgs.out, if_neg (by rw [hwz.out]; decide)]; rfl, rfl, by rw [hm0, ← wcA_ext (n := i) (n' := i + 1) fun j _ => ⟨fun h => ⟨by omega, h.2⟩, fun h => ⟨by
            by_cases hj : j / 2 = i
            · rw [hj, hwz.out] at h; exact absurd h.2 (by decide)
            · omega, h.2⟩⟩], hJ⟩
      · have hll' : ¬ ((i : Nat) : Int) < ((l.length : Nat) : Int) := by omega
        obtain ⟨hx1, hx2⟩ := wiped_end l cs (i := i) (n := n) (by omega) (.inl (by omega))
        rw [hx1] at e12
        rw [hx2] at hm0
        simp only [↓pre, post, ↓reduceIte, Nat.reduceEqDiff, Nat.reduceAdd, Nat.reduceMul, Nat.reduceSub, Nat.reduceLeDiff, Nat.reduceMod, Nat.reduceDiv, reduceCtorEq, Nat.reduceLT, Nat.reduceGT, Nat.reduceBEq, Option.isSome_some, ne_eq, Int.reduceEq, not_false_eq_true, bin_quo, bin_rem, List.length_cons, List.length_nil, List.map_cons, List.map_nil, List.append_nil, List.cons_append, List.nil_append, List.take_succ_cons, List.take_zero, List.drop_succ_cons, List.drop_zero, Nat.zero_add, Nat.add_zero, Nat.zero_le, Nat.le_refl, decide_true, decide_false, Bool.not_true, Bool.not_false, stepW, opE, intV, parV, boxE, loadE, partE, faddrE, fieldE, checkE, extractE, resultsE, resEs, resE, buildE, fillE, splice, if_true, if_false, Bool.false_eq_true, true_and, and_true, AV.cells, okA, oneA, fzs, fz, opTmp, Option.bind_some, Option.map_some, List.getElem?_cons_zero, List.getElem?_cons_succ, and_self, canonR, canon, canons, shift, shifts, pushAll, pushFrom, tys9, onceA, postU, postA, boolV, cond_t, cond_f, eq_self, Nat.mul_one, Int.reduceEq, Int.reduceLT, Int.reduceLE, storeE, e1, e2, e3, e8, e9, e11, e12, e13, hlen, hlt', hw.len', hll', hw.addr', hlt]
        have hlend : lends 3 m [.agg [intV k, intV r, intV c, intV w], .sl b 0 n n false] = some [parV k r c w, .tree n n (wcA l cs n) false] := by
          have := (plain_lends (m := m) 2 _ (hwpl.out n)).1
          simp [lends, lend, parV, intV, hm0, this]
        refine call_lent hwn2.out (by simpa only [parV, intV] using hlend) rfl rfl ?_
        cases has with
        | true =>
          obtain ⟨g1, g2⟩ := hle2.out (by have := hb2.out; simpa using this)
          have g3 : ¬ W < W2 := by omega
          have g4 : ¬ ((goneN l n : Nat) : Int) = ((n : Nat) : Int) := fun h => by
            have := hall2.out (by omega)
            have h2 := hb2.out
            rw [this] at h2
            exact absurd h2 (by decide)
          have hib : isb = true := by rw [← hisb.out]; simpa using g1
          subst hib
          replace g1 := Hid.mk g1
          simp only [↓pre, post, ↓reduceIte, Nat.reduceEqDiff, Nat.reduceAdd, Nat.reduceMul, Nat.reduceSub, Nat.reduceLeDiff, Nat.reduceMod, Nat.reduceDiv, reduceCtorEq, Nat.reduceLT, Nat.reduceGT, Nat.reduceBEq, Option.isSome_some, ne_eq, Int.reduceEq, not_false_eq_true, bin_quo, bin_rem, List.length_cons, List.length_nil, List.map_cons, List.map_nil, List.append_nil, List.cons_append, List.nil_append, List.take_succ_cons, List.take_zero, List.drop_succ_cons, List.drop_zero, Nat.zero_add, Nat.add_zero, Nat.zero_le, Nat.le_refl, decide_true, decide_false, Bool.not_true, Bool.not_false, stepW, opE, intV, parV, boxE, loadE, partE, faddrE, fieldE, checkE, extractE, resultsE, resEs, resE, buildE, fillE, splice, if_true, if_false, Bool.false_eq_true, true_and, and_true, AV.cells, okA, oneA, fzs, fz, opTmp, Option.bind_some, Option.map_some, List.getElem?_cons_zero, List.getElem?_cons_succ, and_self, canonR, canon, canons, shift, shifts, pushAll, pushFrom, tys9, onceA, postU, postA, boolV, cond_t, cond_f, eq_self, Nat.mul_one, Int.reduceEq, Int.reduceLT, Int.reduceLE, e1, e2, e3, e8, e9, e11, e12, e13, hlen, pick_t, pick_f, g3, g4]
          have hmrd := int_rd (missN hs W n).length (missN hs W n)
          have hm2 := hmis.out
          rw [hme.out (by have := hisb.out; simpa using this), hml.out (by have := hisb.out; simpa using this)] at hm2
          (first | refine call_plain hm2 (by simp only [plains, plain, parV, intV, hp, Bool.and_self]) ?_ | refine call_pure hm2 (by simp only [plains, plain, parV, intV, hp, Bool.and_self]) (fun k0 => by simp only [shift, shifts, shift_treeR, intV]) ?_)
          by_cases hm0 : (0 : Int) < (((missN hs W n).length : Nat) : Int)
          · simp only [↓pre, post, ↓reduceIte, Nat.reduceEqDiff, Nat.reduceAdd, Nat.reduceMul, Nat.reduceSub, Nat.reduceLeDiff, Nat.reduceMod, Nat.reduceDiv, reduceCtorEq, Nat.reduceLT, Nat.reduceGT, Nat.reduceBEq, Option.isSome_some, ne_eq, Int.reduceEq, not_false_eq_true, bin_quo, bin_rem, List.length_cons, List.length_nil, List.map_cons, List.map_nil, List.append_nil, List.cons_append, List.nil_append, List.take_succ_cons, List.take_zero, List.drop_succ_cons, List.drop_zero, Nat.zero_add, Nat.add_zero, Nat.zero_le, Nat.le_refl, decide_true, decide_false, Bool.not_true, Bool.not_false, stepW, opE, intV, parV, boxE, loadE, partE, faddrE, fieldE, checkE, extractE, resultsE, resEs, resE, buildE, fillE, splice, if_true, if_false, Bool.false_eq_true, true_and, and_true, AV.cells, okA, oneA, fzs, fz, opTmp, Option.bind_some, Option.map_some, List.getElem?_cons_zero, List.getElem?_cons_succ, and_self, canonR, canon, canons, shift, shifts, pushAll, pushFrom, tys9, onceA, postU, postA, boolV, cond_t, cond_f, eq_self, Nat.mul_one, Int.reduceEq, Int.reduceLT, Int.reduceLE, e1, e2, e3, e8, e9, e11, e12, e13, hlen, pick_t, pick_f, shift_treeR, hmrd.len', hm0]
          · by_cases hgr : r < ((goneN l n : Nat) : Int)
            · simp only [↓pre, post, ↓reduceIte, Nat.reduceEqDiff, Nat.reduceAdd, Nat.reduceMul, Nat.reduceSub, Nat.reduceLeDiff, Nat.reduceMod, Nat.reduceDiv, reduceCtorEq, Nat.reduceLT, Nat.reduceGT, Nat.reduceBEq, Option.isSome_some, ne_eq, Int.reduceEq, not_false_eq_true, bin_quo, bin_rem, List.length_cons, List.length_nil, List.map_cons, List.map_nil, List.append_nil, List.cons_append, List.nil_append, List.take_succ_cons, List.take_zero, List.drop_succ_cons, List.drop_zero, Nat.zero_add, Nat.add_zero, Nat.zero_le, Nat.le_refl, decide_true, decide_false, Bool.not_true, Bool.not_false, stepW, opE, intV, parV, boxE, loadE, partE, faddrE, fieldE, checkE, extractE, resultsE, resEs, resE, buildE, fillE, splice, if_true, if_false, Bool.false_eq_true, true_and, and_true, AV.cells, okA, oneA, fzs, fz, opTmp, Option.bind_some, Option.map_some, List.getElem?_cons_zero, List.getElem?_cons_succ, and_self, canonR, canon, canons, shift, shifts, pushAll, pushFrom, tys9, onceA, postU, postA, boolV, cond_t, cond_f, eq_self, Nat.mul_one, Int.reduceEq, Int.reduceLT, Int.reduceLE, e1, e2, e3, e8, e9, e11, e12, e13, hlen, pick_t, pick_f, shift_treeR, hmrd.len', hm0, hgr]
            · have hk := hke2.out g1.out (by omega) (by omega)
              have hk2 : W2 = W := hk.2
              simp only [↓pre, post, ↓reduceIte, Nat.reduceEqDiff, Nat.reduceAdd, Nat.reduceMul, Nat.reduceSub, Nat.reduceLeDiff, Nat.reduceMod, Nat.reduceDiv, reduceCtorEq, Nat.reduceLT, Nat.reduceGT, Nat.reduceBEq, Option.isSome_some, ne_eq, Int.reduceEq, not_false_eq_true, bin_quo, bin_rem, List.length_cons, List.length_nil, List.map_cons, List.map_nil, List.append_nil, List.cons_append, List.nil_append, List.take_succ_cons, List.take_zero, List.drop_succ_cons, List.drop_zero, Nat.zero_add, Nat.add_zero, Nat.zero_le, Nat.le_refl, decide_true, decide_false, Bool.not_true, Bool.not_false, stepW, opE, intV, parV, boxE, loadE, partE, faddrE, fieldE, checkE, extractE, resultsE, resEs, resE, buildE, fillE, splice, if_true, if_false, Bool.false_eq_true, true_and, and_true, AV.cells, okA, oneA, fzs, fz, opTmp, Option.bind_some, Option.map_some, List.getElem?_cons_zero, List.getElem?_cons_succ, and_self, canonR, canon, canons, shift, shifts, pushAll, pushFrom, tys9, onceA, postU, postA, boolV, cond_t, cond_f, eq_self, Nat.mul_one, Int.reduceEq, Int.reduceLT, Int.reduceLE, e1, e2, e3, e8, e9, e11, e12, e13, hlen, pick_t, pick_f, shift_treeR, hmrd.len', hm0, hgr, hk2]
        | false =>
          cases isb with
          | false =>
            by_cases g4 : ((goneN l n : Nat) : Int) = ((n : Nat) : Int)
            · simp only [↓pre, post, ↓reduceIte, Nat.reduceEqDiff, Nat.reduceAdd, Nat.reduceMul, Nat.reduceSub, Nat.reduceLeDiff, Nat.reduceMod, Nat.reduceDiv, reduceCtorEq, Nat.reduceLT, Nat.reduceGT, Nat.reduceBEq, Option.isSome_some, ne_eq, Int.reduceEq, not_false_eq_true, bin_quo, bin_rem, List.length_cons, List.length_nil, List.map_cons, List.map_nil, List.append_nil, List.cons_append, List.nil_append, List.take_succ_cons, List.take_zero, List.drop_succ_cons, List.drop_zero, Nat.zero_add, Nat.add_zero, Nat.zero_le, Nat.le_refl, decide_true, decide_false, Bool.not_true, Bool.not_false, stepW, opE, intV, parV, boxE, loadE, partE, faddrE, fieldE, checkE, extractE, resultsE, resEs, resE, buildE, fillE, splice, if_true, if_false, Bool.false_eq_true, true_and, and_true, AV.cells, okA, oneA, fzs, fz, opTmp, Option.bind_some, Option.map_some, List.getElem?_cons_zero, List.getElem?_cons_succ, and_self, canonR, canon, canons, shift, shifts, pushAll, pushFrom, tys9, onceA, postU, postA, boolV, cond_t, cond_f, eq_self, Nat.mul_one, Int.reduceEq, Int.reduceLT, Int.reduceLE, e1, e2, e3, e8, e9, e11, e12, e13, hlen, pick_t, pick_f, g4]
            · simp only [↓pre, post, ↓reduceIte, Nat.reduceEqDiff, Nat.reduceAdd, Nat.reduceMul, Nat.reduceSub, Nat.reduceLeDiff, Nat.reduceMod, Nat.reduceDiv, reduceCtorEq, Nat.reduceLT, Nat.reduceGT, Nat.reduceBEq, Option.isSome_some, ne_eq, Int.reduceEq, not_false_eq_true, bin_quo, bin_rem, List.length_cons, List.length_nil, List.map_cons, List.map_nil, List.append_nil, List.cons_append, List.nil_append, List.take_succ_cons, List.take_zero, List.drop_succ_cons, List.drop_zero, Nat.zero_add, Nat.add_zero, Nat.zero_le, Nat.le_refl, decide_true, decide_false, Bool.not_true, Bool.not_false, stepW, opE, intV, parV, boxE, loadE, partE, faddrE, fieldE, checkE, extractE, resultsE, resEs, resE, buildE, fillE, splice, if_true, if_false, Bool.false_eq_true, true_and, and_true, AV.cells, okA, oneA, fzs, fz, opTmp, Option.bind_some, Option.map_some, List.getElem?_cons_zero, List.getElem?_cons_succ, and_self, canonR, canon, canons, shift, shifts, pushAll, pushFrom, tys9, onceA, postU, postA, boolV, cond_t, cond_f, eq_self, Nat.mul_one, Int.reduceEq, Int.reduceLT, Int.reduceLE, e1, e2, e3, e8, e9, e11, e12, e13, hlen, pick_t, pick_f, g4]
          | true =>
            by_cases g4 : ((goneN l n : Nat) : Int) = ((n : Nat) : Int)
            · have hg4 : goneN l n = n := by omega
              simp only [↓pre, post, ↓reduceIte, Nat.reduceEqDiff, Nat.reduceAdd, Nat.reduceMul, Nat.reduceSub, Nat.reduceLeDiff, Nat.reduceMod, Nat.reduceDiv, reduceCtorEq, Nat.reduceLT, Nat.reduceGT, Nat.reduceBEq, Option.isSome_some, ne_eq, Int.reduceEq, not_false_eq_true, bin_quo, bin_rem, List.length_cons, List.length_nil, List.map_cons, List.map_nil, List.append_nil, List.cons_append, List.nil_append, List.take_succ_cons, List.take_zero, List.drop_succ_cons, List.drop_zero, Nat.zero_add, Nat.add_zero, Nat.zero_le, Nat.le_refl, decide_true, decide_false, Bool.not_true, Bool.not_false, stepW, opE, intV, parV, boxE, loadE, partE, faddrE, fieldE, checkE, extractE, resultsE, resEs, resE, buildE, fillE, splice, if_true, if_false, Bool.false_eq_true, true_and, and_true, AV.cells, okA, oneA, fzs, fz, opTmp, Option.bind_some, Option.map_some, List.getElem?_cons_zero, List.getElem?_cons_succ, and_self, canonR, canon, canons, shift, shifts, pushAll, pushFrom, tys9, onceA, postU, postA, boolV, cond_t, cond_f, eq_self, Nat.mul_one, Int.reduceEq, Int.reduceLT, Int.reduceLE, e1, e2, e3, e8, e9, e11, e12, e13, hlen, pick_t, pick_f, g4]
              have hmrd := int_rd (missN hs W n).length (missN hs W n)
              have hm2 := hmis.out
              rw [hme.out (by have := hisb.out; simpa using this), hml.out (by have := hisb.out; simpa using this)] at hm2
              (first | refine call_plain hm2 (by simp only [plains, plain, parV, intV, hp, Bool.and_self]) ?_ | refine call_pure hm2 (by simp only [plains, plain, parV, intV, hp, Bool.and_self]) (fun k0 => by simp only [shift, shifts, shift_treeR, intV]) ?_)
              by_cases hm0 : (0 : Int) < (((missN hs W n).length : Nat) : Int)
              · simp only [↓pre, post, ↓reduceIte, Nat.reduceEqDiff, Nat.reduceAdd, Nat.reduceMul, Nat.reduceSub, Nat.reduceLeDiff, Nat.reduceMod, Nat.reduceDiv, reduceCtorEq, Nat.reduceLT, Nat.reduceGT, Nat.reduceBEq, Option.isSome_some, ne_eq, Int.reduceEq, not_false_eq_true, bin_quo, bin_rem, List.length_cons, List.length_nil, List.map_cons, List.map_nil, List.append_nil, List.cons_append, List.nil_append, List.take_succ_cons, List.take_zero, List.drop_succ_cons, List.drop_zero, Nat.zero_add, Nat.add_zero, Nat.zero_le, Nat.le_refl, decide_true, decide_false, Bool.not_true, Bool.not_false, stepW, opE, intV, parV, boxE, loadE, partE, faddrE, fieldE, checkE, extractE, resultsE, resEs, resE, buildE, fillE, splice, if_true, if_false, Bool.false_eq_true, true_and, and_true, AV.cells, okA, oneA, fzs, fz, opTmp, Option.bind_some, Option.map_some, List.getElem?_cons_zero, List.getElem?_cons_succ, and_self, canonR, canon, canons, shift, shifts, pushAll, pushFrom, tys9, onceA, postU, postA, boolV, cond_t, cond_f, eq_self, Nat.mul_one, Int.reduceEq, Int.reduceLT, Int.reduceLE, e1, e2, e3, e8, e9, e11, e12, e13, hlen, pick_t, pick_f, shift_treeR, hmrd.len', hm0]
              · by_cases hgr : r < ((goneN l n : Nat) : Int)
                · simp only [↓pre, post, ↓reduceIte, Nat.reduceEqDiff, Nat.reduceAdd, Nat.reduceMul, Nat.reduceSub, Nat.reduceLeDiff, Nat.reduceMod, Nat.reduceDiv, reduceCtorEq, Nat.reduceLT, Nat.reduceGT, Nat.reduceBEq, Option.isSome_some, ne_eq, Int.reduceEq, not_false_eq_true, bin_quo, bin_rem, List.length_cons, List.length_nil, List.map_cons, List.map_nil, List.append_nil, List.cons_append, List.nil_append, List.take_succ_cons, List.take_zero, List.drop_succ_cons, List.drop_zero, Nat.zero_add, Nat.add_zero, Nat.zero_le, Nat.le_refl, decide_true, decide_false, Bool.not_true, Bool.not_false, stepW, opE, intV, parV, boxE, loadE, partE, faddrE, fieldE, checkE, extractE, resultsE, resEs, resE, buildE, fillE, splice, if_true, if_false, Bool.false_eq_true, true_and, and_true, AV.cells, okA, oneA, fzs, fz, opTmp, Option.bind_some, Option.map_some, List.getElem?_cons_zero, List.getElem?_cons_succ, and_self, canonR, canon, canons, shift, shifts, pushAll, pushFrom, tys9, onceA, postU, postA, boolV, cond_t, cond_f, eq_self, Nat.mul_one, Int.reduceEq, Int.reduceLT, Int.reduceLE, e1, e2, e3, e8, e9, e11, e12, e13, hlen, pick_t, pick_f, shift_treeR, hmrd.len', hm0, hgr]
                · have hk := hke2.out (by have := hisb.out; simpa using this) (by omega) (by omega)
                  have h2 := hb2.out
                  rw [decide_eq_false_iff_not] at h2
                  exact absurd hk.1 h2
            · simp only [↓pre, post, ↓reduceIte, Nat.reduceEqDiff, Nat.reduceAdd, Nat.reduceMul, Nat.reduceSub, Nat.reduceLeDiff, Nat.reduceMod, Nat.reduceDiv, reduceCtorEq, Nat.reduceLT, Nat.reduceGT, Nat.reduceBEq, Option.isSome_some, ne_eq, Int.reduceEq, not_false_eq_true, bin_quo, bin_rem, List.length_cons, List.length_nil, List.map_cons, List.map_nil, List.append_nil, List.cons_append, List.nil_append, List.take_succ_cons, List.take_zero, List.drop_succ_cons, List.drop_zero, Nat.zero_add, Nat.add_zero, Nat.zero_le, Nat.le_refl, decide_true, decide_false, Bool.not_true, Bool.not_false, stepW, opE, intV, parV, boxE, loadE, partE, faddrE, fieldE, checkE, extractE, resultsE, resEs, resE, buildE, fillE, splice, if_true, if_false, Bool.false_eq_true, true_and, and_true, AV.cells, okA, oneA, fzs, fz, opTmp, Option.bind_some, Option.map_some, List.getElem?_cons_zero, List.getElem?_cons_succ, and_self, canonR, canon, canons, shift, shifts, pushAll, pushFrom, tys9, onceA, postU, postA, boolV, cond_t, cond_f, eq_self, Nat.mul_one, Int.reduceEq, Int.reduceLT, Int.reduceLE, e1, e2, e3, e8, e9, e11, e12, e13, hlen, pick_t, pick_f, g4]
              have hmrd := int_rd (missN hs W n).length (missN hs W n)
              have hm2 := hmis.out
              rw [hme.out (by have := hisb.out; simpa using this), hml.out (by have := hisb.out; simpa using this)] at hm2
              (first | refine call_plain hm2 (by simp only [plains, plain, parV, intV, hp, Bool.and_self]) ?_ | refine call_pure hm2 (by simp only [plains, plain, parV, intV, hp, Bool.and_self]) (fun k0 => by simp only [shift, shifts, shift_treeR, intV]) ?_)
              by_cases hm0 : (0 : Int) < (((missN hs W n).length : Nat) : Int)
              · simp only [↓pre, post, ↓reduceIte, Nat.reduceEqDiff, Nat.reduceAdd, Nat.reduceMul, Nat.reduceSub, Nat.reduceLeDiff, Nat.reduceMod, Nat.reduceDiv, reduceCtorEq, Nat.reduceLT, Nat.reduceGT, Nat.reduceBEq, Option.isSome_some, ne_eq, Int.reduceEq, not_false_eq_true, bin_quo, bin_rem, List.length_cons, List.length_nil, List.map_cons, List.map_nil, List.append_nil, List.cons_append, List.nil_append, List.take_succ_cons, List.take_zero, List.drop_succ_cons, List.drop_zero, Nat.zero_add, Nat.add_zero, Nat.zero_le, Nat.le_refl, decide_true, decide_false, Bool.not_true, Bool.not_false, stepW, opE, intV, parV, boxE, loadE, partE, faddrE, fieldE, checkE, extractE, resultsE, resEs, resE, buildE, fillE, splice, if_true, if_false, Bool.false_eq_true, true_and, and_true, AV.cells, okA, oneA, fzs, fz, opTmp, Option.bind_some, Option.map_some, List.getElem?_cons_zero, List.getElem?_cons_succ, and_self, canonR, canon, canons, shift, shifts, pushAll, pushFrom, tys9, onceA, postU, postA, boolV, cond_t, cond_f, eq_self, Nat.mul_one, Int.reduceEq, Int.reduceLT, Int.reduceLE, e1, e2, e3, e8, e9, e11, e12, e13, hlen, pick_t, pick_f, shift_treeR, hmrd.len', hm0]
              · by_cases hgr : r < ((goneN l n : Nat) : Int)
                · simp only [↓pre, post, ↓reduceIte, Nat.reduceEqDiff, Nat.reduceAdd, Nat.reduceMul, Nat.reduceSub, Nat.reduceLeDiff, Nat.reduceMod, Nat.reduceDiv, reduceCtorEq, Nat.reduceLT, Nat.reduceGT, Nat.reduceBEq, Option.isSome_some, ne_eq, Int.reduceEq, not_false_eq_true, bin_quo, bin_rem, List.length_cons, List.length_nil, List.map_cons, List.map_nil, List.append_nil, List.cons_append, List.nil_append, List.take_succ_cons, List.take_zero, List.drop_succ_cons, List.drop_zero, Nat.zero_add, Nat.add_zero, Nat.zero_le, Nat.le_refl, decide_true, decide_false, Bool.not_true, Bool.not_false, stepW, opE, intV, parV, boxE, loadE, partE, faddrE, fieldE, checkE, extractE, resultsE, resEs, resE, buildE, fillE, splice, if_true, if_false, Bool.false_eq_true, true_and, and_true, AV.cells, okA, oneA, fzs, fz, opTmp, Option.bind_some, Option.map_some, List.getElem?_cons_zero, List.getElem?_cons_succ, and_self, canonR, canon, canons, shift, shifts, pushAll, pushFrom, tys9, onceA, postU, postA, boolV, cond_t, cond_f, eq_self, Nat.mul_one, Int.reduceEq, Int.reduceLT, Int.reduceLE, e1, e2, e3, e8, e9, e11, e12, e13, hlen, pick_t, pick_f, shift_treeR, hmrd.len', hm0, hgr]
                · have hk := hke2.out (by have := hisb.out; simpa using this) (by omega) (by omega)
                  have h2 := hb2.out
                  rw [decide_eq_false_iff_not] at h2
                  exact absurd hk.1 h2
    · have hlt' : ¬ ((i : Nat) : Int) < ((n : Nat) : Int) := by omega
      have hin : i = n := by have := hqi.out; omega
      obtain ⟨hx1, hx2⟩ := wiped_end l cs (i := i) (n := n) (by omega) (.inr hin)
      rw [hx1] at e12
      rw [hx2] at hm0
      · simp only [↓pre, post, ↓reduceIte, Nat.reduceEqDiff, Nat.reduceAdd, Nat.reduceMul, Nat.reduceSub, Nat.reduceLeDiff, Nat.reduceMod, Nat.reduceDiv, reduceCtorEq, Nat.reduceLT, Nat.reduceGT, Nat.reduceBEq, Option.isSome_some, ne_eq, Int.reduceEq, not_false_eq_true, bin_quo, bin_rem, List.length_cons, List.length_nil, List.map_cons, List.map_nil, List.append_nil, List.cons_append, List.nil_append, List.take_succ_cons, List.take_zero, List.drop_succ_cons, List.drop_zero, Nat.zero_add, Nat.add_zero, Nat.zero_le, Nat.le_refl, decide_true, decide_false, Bool.not_true, Bool.not_false, stepW, opE, intV, parV, boxE, loadE, partE, faddrE, fieldE, checkE, extractE, resultsE, resEs, resE, buildE, fillE, splice, if_true, if_false, Bool.false_eq_true, true_and, and_true, AV.cells, okA, oneA, fzs, fz, opTmp, Option.bind_some, Option.map_some, List.getElem?_cons_zero, List.getElem?_cons_succ, and_self, canonR, canon, canons, shift, shifts, pushAll, pushFrom, tys9, onceA, postU, postA, boolV, cond_t, cond_f, eq_self, Nat.mul_one, Int.reduceEq, Int.reduceLT, Int.reduceLE, storeE, e1, e2, e3, e8, e9, e11, e12, e13, hlen, hlt', hw.len', hw.addr']
        have hlend : lends 3 m [.agg [intV k, intV r, intV c, intV w], .sl b 0 n n false] = some [parV k r c w, .tree n n (wcA l cs n) false] := by
          have := (plain_lends (m := m) 2 _ (hwpl.out n)).1
          simp [lends, lend, parV, intV, hm0, this]
        refine call_lent hwn2.out (by simpa only [parV, intV] using hlend) rfl rfl ?_
        cases has with
        | true =>
          obtain ⟨g1, g2⟩ := hle2.out (by have := hb2.out; simpa using this)
          have g3 : ¬ W < W2 := by omega
          have g4 : ¬ ((goneN l n : Nat) : Int) = ((n : Nat) : Int) := fun h => by
            have := hall2.out (by omega)
            have h2 := hb2.out
            rw [this] at h2
            exact absurd h2 (by decide)
          have hib : isb = true := by rw [← hisb.out]; simpa using g1
          subst hib
          replace g1 := Hid.mk g1
          simp only [↓pre, post, ↓reduceIte, Nat.reduceEqDiff, Nat.reduceAdd, Nat.reduceMul, Nat.reduceSub, Nat.reduceLeDiff, Nat.reduceMod, Nat.reduceDiv, reduceCtorEq, Nat.reduceLT, Nat.reduceGT, Nat.reduceBEq, Option.isSome_some, ne_eq, Int.reduceEq, not_false_eq_true, bin_quo, bin_rem, List.length_cons, List.length_nil, List.map_cons, List.map_nil, List.append_nil, List.cons_append, List.nil_append, List.take_succ_cons, List.take_zero, List.drop_succ_cons, List.drop_zero, Nat.zero_add, Nat.add_zero, Nat.zero_le, Nat.le_refl, decide_true, decide_false, Bool.not_true, Bool.not_false, stepW, opE, intV, parV, boxE, loadE, partE, faddrE, fieldE, checkE, extractE, resultsE, resEs, resE, buildE, fillE, splice, if_true, if_false, Bool.false_eq_true, true_and, and_true, AV.cells, okA, oneA, fzs, fz, opTmp, Option.bind_some, Option.map_some, List.getElem?_cons_zero, List.getElem?_cons_succ, and_self, canonR, canon, canons, shift, shifts, pushAll, pushFrom, tys9, onceA, postU, postA, boolV, cond_t, cond_f, eq_self, Nat.mul_one, Int.reduceEq, Int.reduceLT, Int.reduceLE, e1, e2, e3, e8, e9, e11, e12, e13, hlen, pick_t, pick_f, g3, g4]
          have hmrd := int_rd (missN hs W n).length (missN hs W n)
          have hm2 := hmis.out
          rw [hme.out (by have := hisb.out; simpa using this), hml.out (by have := hisb.out; simpa using this)] at hm2
          (first | refine call_plain hm2 (by simp only [plains, plain, parV, intV, hp, Bool.and_self]) ?_ | refine call_pure hm2 (by simp only [plains, plain, parV, intV, hp, Bool.and_self]) (fun k0 => by simp only [shift, shifts, shift_treeR, intV]) ?_)
          by_cases hm0 : (0 : Int) < (((missN hs W n).length : Nat) : Int)
          · simp only [↓pre, post, ↓reduceIte, Nat.reduceEqDiff, Nat.reduceAdd, Nat.reduceMul, Nat.reduceSub, Nat.reduceLeDiff, Nat.reduceMod, Nat.reduceDiv, reduceCtorEq, Nat.reduceLT, Nat.reduceGT, Nat.reduceBEq, Option.isSome_some, ne_eq, Int.reduceEq, not_false_eq_true, bin_quo, bin_rem, List.length_cons, List.length_nil, List.map_cons, List.map_nil, List.append_nil, List.cons_append, List.nil_append, List.take_succ_cons, List.take_zero, List.drop_succ_cons, List.drop_zero, Nat.zero_add, Nat.add_zero, Nat.zero_le, Nat.le_refl, decide_true, decide_false, Bool.not_true, Bool.not_false, stepW, opE, intV, parV, boxE, loadE, partE, faddrE, fieldE, checkE, extractE, resultsE, resEs, resE, buildE, fillE, splice, if_true, if_false, Bool.false_eq_true, true_and, and_true, AV.cells, okA, oneA, fzs, fz, opTmp, Option.bind_some, Option.map_some, List.getElem?_cons_zero, List.getElem?_cons_succ, and_self, canonR, canon, canons, shift, shifts, pushAll, pushFrom, tys9, onceA, postU, postA, boolV, cond_t, cond_f, eq_self, Nat.mul_one, Int.reduceEq, Int.reduceLT, Int.reduceLE, e1, e2, e3, e8, e9, e11, e12, e13, hlen, pick_t, pick_f, shift_treeR, hmrd.len', hm0]
          · by_cases hgr : r < ((goneN l n : Nat) : Int)
            · simp only [↓pre, post, ↓reduceIte, Nat.reduceEqDiff, Nat.reduceAdd, Nat.reduceMul, Nat.reduceSub, Nat.reduceLeDiff, Nat.reduceMod, Nat.reduceDiv, reduceCtorEq, Nat.reduceLT, Nat.reduceGT, Nat.reduceBEq, Option.isSome_some, ne_eq, Int.reduceEq, not_false_eq_true, bin_quo, bin_rem, List.length_cons, List.length_nil, List.map_cons, List.map_nil, List.append_nil, List.cons_append, List.nil_append, List.take_succ_cons, List.take_zero, List.drop_succ_cons, List.drop_zero, Nat.zero_add, Nat.add_zero, Nat.zero_le, Nat.le_refl, decide_true, decide_false, Bool.not_true, Bool.not_false, stepW, opE, intV, parV, boxE, loadE, partE, faddrE, fieldE, checkE, extractE, resultsE, resEs, resE, buildE, fillE, splice, if_true, if_false, Bool.false_eq_true, true_and, and_true, AV.cells, okA, oneA, fzs, fz, opTmp, Option.bind_some, Option.map_some, List.getElem?_cons_zero, List.getElem?_cons_succ, and_self, canonR, canon, canons, shift, shifts, pushAll, pushFrom, tys9, onceA, postU, postA, boolV, cond_t, cond_f, eq_self, Nat.mul_one, Int.reduceEq, Int.reduceLT, Int.reduceLE, e1, e2, e3, e8, e9, e11, e12, e13, hlen, pick_t, pick_f, shift_treeR, hmrd.len', hm0, hgr]
            · have hk := hke2.out g1.out (by omega) (by omega)
              have hk2 : W2 = W := hk.2
              simp only [↓pre, post, ↓reduceIte, Nat.reduceEqDiff, Nat.reduceAdd, Nat.reduceMul, Nat.reduceSub, Nat.reduceLeDiff, Nat.reduceMod, Nat.reduceDiv, reduceCtorEq, Nat.reduceLT, Nat.reduceGT, Nat.reduceBEq, Option.isSome_some, ne_eq, Int.reduceEq, not_false_eq_true, bin_quo, bin_rem, List.length_cons, List.length_nil, List.map_cons, List.map_nil, List.append_nil, List.cons_append, List.nil_append, List.take_succ_cons, List.take_zero, List.drop_succ_cons, List.drop_zero, Nat.zero_add, Nat.add_zero, Nat.zero_le, Nat.le_refl, decide_true, decide_false, Bool.not_true, Bool.not_false, stepW, opE, intV, parV, boxE, loadE, partE, faddrE, fieldE, checkE, extractE, resultsE, resEs, resE, buildE, fillE, splice, if_true, if_false, Bool.false_eq_true, true_and, and_true, AV.cells, okA, oneA, fzs, fz, opTmp, Option.bind_some, Option.map_some, List.getElem?_cons_zero, List.getElem?_cons_succ, and_self, canonR, canon, canons, shift, shifts, pushAll, pushFrom, tys9, onceA, postU, postA, boolV, cond_t, cond_f, eq_self, Nat.mul_one, Int.reduceEq, Int.reduceLT, Int.reduceLE, e1, e2, e3, e8, e9, e11, e12, e13, hlen, pick_t, pick_f, shift_treeR, hmrd.len', hm0, hgr, hk2]
        | false =>
          cases isb with
          | false =>
            by_cases g4 : ((goneN l n : Nat) : Int) = ((n : Nat) : Int)
            · simp only [↓pre, post, ↓reduceIte, Nat.reduceEqDiff, Nat.reduceAdd, Nat.reduceMul, Nat.reduceSub, Nat.reduceLeDiff, Nat.reduceMod, Nat.reduceDiv, reduceCtorEq, Nat.reduceLT, Nat.reduceGT, Nat.reduceBEq, Option.isSome_some, ne_eq, Int.reduceEq, not_false_eq_true, bin_quo, bin_rem, List.length_cons, List.length_nil, List.map_cons, List.map_nil, List.append_nil, List.cons_append, List.nil_append, List.take_succ_cons, List.take_zero, List.drop_succ_cons, List.drop_zero, Nat.zero_add, Nat.add_zero, Nat.zero_le, Nat.le_refl, decide_true, decide_false, Bool.not_true, Bool.not_false, stepW, opE, intV, parV, boxE, loadE, partE, faddrE, fieldE, checkE, extractE, resultsE, resEs, resE, buildE, fillE, splice, if_true, if_false, Bool.false_eq_true, true_and, and_true, AV.cells, okA, oneA, fzs, fz, opTmp, Option.bind_some, Option.map_some, List.getElem?_cons_zero, List.getElem?_cons_succ, and_self, canonR, canon, canons, shift, shifts, pushAll, pushFrom, tys9, onceA, postU, postA, boolV, cond_t, cond_f, eq_self, Nat.mul_one, Int.reduceEq, Int.reduceLT, Int.reduceLE, e1, e2, e3, e8, e9, e11, e12, e13, hlen, pick_t, pick_f, g4]
            · simp only [↓pre, post, ↓reduceIte, Nat.reduceEqDiff, Nat.reduceAdd, Nat.reduceMul, Nat.reduceSub, Nat.reduceLeDiff, Nat.reduceMod, Nat.reduceDiv, reduceCtorEq, Nat.reduceLT, Nat.reduceGT, Nat.reduceBEq, Option.isSome_some, ne_eq, Int.reduceEq, not_false_eq_true, bin_quo, bin_rem, List.length_cons, List.length_nil, List.map_cons, List.map_nil, List.append_nil, List.cons_append, List.nil_append, List.take_succ_cons, List.take_zero, List.drop_succ_cons, List.drop_zero, Nat.zero_add, Nat.add_zero, Nat.zero_le, Nat.le_refl, decide_true, decide_false, Bool.not_true, Bool.not_false, stepW, opE, intV, parV, boxE, loadE, partE, faddrE, fieldE, checkE, extractE, resultsE, resEs, resE, buildE, fillE, splice, if_true, if_false, Bool.false_eq_true, true_and, and_true, AV.cells, okA, oneA, fzs, fz, opTmp, Option.bind_some, Option.map_some, List.getElem?_cons_zero, List.getElem?_cons_succ, and_self, canonR, canon, canons, shift, shifts, pushAll, pushFrom, tys9, onceA, postU, postA, boolV, cond_t, cond_f, eq_self, Nat.mul_one, Int.reduceEq, Int.reduceLT, Int.reduceLE, e1, e2, e3, e8, e9, e11, e12, e13, hlen, pick_t, pick_f, g4]
          | true =>
            by_cases g4 : ((goneN l n : Nat) : Int) = ((n : Nat) : Int)
            · have hg4 : goneN l n = n := by omega
              simp only [↓pre, post, ↓reduceIte, Nat.reduceEqDiff, Nat.reduceAdd, Nat.reduceMul, Nat.reduceSub, Nat.reduceLeDiff, Nat.reduceMod, Nat.reduceDiv, reduceCtorEq, Nat.reduceLT, Nat.reduceGT, Nat.reduceBEq, Option.isSome_some, ne_eq, Int.reduceEq, not_false_eq_true, bin_quo, bin_rem, List.length_cons, List.length_nil, List.map_cons, List.map_nil, List.append_nil, List.cons_append, List.nil_append, List.take_succ_cons, List.take_zero, List.drop_succ_cons, List.drop_zero, Nat.zero_add, Nat.add_zero, Nat.zero_le, Nat.le_refl, decide_true, decide_false, Bool.not_true, Bool.not_false, stepW, opE, intV, parV, boxE, loadE, partE, faddrE, fieldE, checkE, extractE, resultsE, resEs, resE, buildE, fillE, splice, if_true, if_false, Bool.false_eq_true, true_and, and_true, AV.cells, okA, oneA, fzs, fz, opTmp, Option.bind_some, Option.map_some, List.getElem?_cons_zero, List.getElem?_cons_succ, and_self, canonR, canon, canons, shift, shifts, pushAll, pushFrom, tys9, onceA, postU, postA, boolV, cond_t, cond_f, eq_self, Nat.mul_one, Int.reduceEq, Int.reduceLT, Int.reduceLE, e1, e2, e3, e8, e9, e11, e12, e13, hlen, pick_t, pick_f, g4]
              have hmrd := int_rd (missN hs W n).length (missN hs W n)
              have hm2 := hmis.out
              rw [hme.out (by have := hisb.out; simpa using this), hml.out (by have := hisb.out; simpa using this)] at hm2
              (first | refine call_plain hm2 (by simp only [plains, plain, parV, intV, hp, Bool.and_self]) ?_ | refine call_pure hm2 (by simp only [plains, plain, parV, intV, hp, Bool.and_self]) (fun k0 => by simp only [shift, shifts, shift_treeR, intV]) ?_)
              by_cases hm0 : (0 : Int) < (((missN hs W n).length : Nat) : Int)
              · simp only [↓pre, post, ↓reduceIte, Nat.reduceEqDiff, Nat.reduceAdd, Nat.reduceMul, Nat.reduceSub, Nat.reduceLeDiff, Nat.reduceMod, Nat.reduceDiv, reduceCtorEq, Nat.reduceLT, Nat.reduceGT, Nat.reduceBEq, Option.isSome_some, ne_eq, Int.reduceEq, not_false_eq_true, bin_quo, bin_rem, List.length_cons, List.length_nil, List.map_cons, List.map_nil, List.append_nil, List.cons_append, List.nil_append, List.take_succ_cons, List.take_zero, List.drop_succ_cons, List.drop_zero, Nat.zero_add, Nat.add_zero, Nat.zero_le, Nat.le_refl, decide_true, decide_false, Bool.not_true, Bool.not_false, stepW, opE, intV, parV, boxE, loadE, partE, faddrE, fieldE, checkE, extractE, resultsE, resEs, resE, buildE, fillE, splice, if_true, if_false, Bool.false_eq_true, true_and, and_true, AV.cells, okA, oneA, fzs, fz, opTmp, Option.bind_some, Option.map_some, List.getElem?_cons_zero, List.getElem?_cons_succ, and_self, canonR, canon, canons, shift, shifts, pushAll, pushFrom, tys9, onceA, postU, postA, boolV, cond_t, cond_f, eq_self, Nat.mul_one, Int.reduceEq, Int.reduceLT, Int.reduceLE, e1, e2, e3, e8, e9, e11, e12, e13, hlen, pick_t, pick_f, shift_treeR, hmrd.len', hm0]
              · by_cases hgr : r < ((goneN l n : Nat) : Int)
                · simp only [↓pre, post, ↓reduceIte, Nat.reduceEqDiff, Nat.reduceAdd, Nat.reduceMul, Nat.reduceSub, Nat.reduceLeDiff, Nat.reduceMod, Nat.reduceDiv, reduceCtorEq, Nat.reduceLT, Nat.reduceGT, Nat.reduceBEq, Option.isSome_some, ne_eq, Int.reduceEq, not_false_eq_true, bin_quo, bin_rem, List.length_cons, List.length_nil, List.map_cons, List.map_nil, List.append_nil, List.cons_append, List.nil_append, List.take_succ_cons, List.take_zero, List.drop_succ_cons, List.drop_zero, Nat.zero_add, Nat.add_zero, Nat.zero_le, Nat.le_refl, decide_true, decide_false, Bool.not_true, Bool.not_false, stepW, opE, intV, parV, boxE, loadE, partE, faddrE, fieldE, checkE, extractE, resultsE, resEs, resE, buildE, fillE, splice, if_true, if_false, Bool.false_eq_true, true_and, and_true, AV.cells, okA, oneA, fzs, fz, opTmp, Option.bind_some, Option.map_some, List.getElem?_cons_zero, List.getElem?_cons_succ, and_self, canonR, canon, canons, shift, shifts, pushAll, pushFrom, tys9, onceA, postU, postA, boolV, cond_t, cond_f, eq_self, Nat.mul_one, Int.reduceEq, Int.reduceLT, Int.reduceLE, e1, e2, e3, e8, e9, e11, e12, e13, hlen, pick_t, pick_f, shift_treeR, hmrd.len', hm0, hgr]
                · have hk := hke2.out (by have := hisb.out; simpa using this) (by omega) (by omega)
                  have h2 := hb2.out
                  rw [decide_eq_false_iff_not] at h2
                  exact absurd hk.1 h2
            · simp only [↓pre, post, ↓reduceIte, Nat.reduceEqDiff, Nat.reduceAdd, Nat.reduceMul, Nat.reduceSub, Nat.reduceLeDiff, Nat.reduceMod, Nat.reduceDiv, reduceCtorEq, Nat.reduceLT, Nat.reduceGT, Nat.reduceBEq, Option.isSome_some, ne_eq, Int.reduceEq, not_false_eq_true, bin_quo, bin_rem, List.length_cons, List.length_nil, List.map_cons, List.map_nil, List.append_nil, List.cons_append, List.nil_append, List.take_succ_cons, List.take_zero, List.drop_succ_cons, List.drop_zero, Nat.zero_add, Nat.add_zero, Nat.zero_le, Nat.le_refl, decide_true, decide_false, Bool.not_true, Bool.not_false, stepW, opE, intV, parV, boxE, loadE, partE, faddrE, fieldE, checkE, extractE, resultsE, resEs, resE, buildE, fillE, splice, if_true, if_false, Bool.false_eq_true, true_and, and_true, AV.cells, okA, oneA, fzs, fz, opTmp, Option.bind_some, Option.map_some, List.getElem?_cons_zero, List.getElem?_cons_succ, and_self, canonR, canon, canons, shift, shifts, pushAll, pushFrom, tys9, onceA, postU, postA, boolV, cond_t, cond_f, eq_self, Nat.mul_one, Int.reduceEq, Int.reduceLT, Int.reduceLE, e1, e2, e3, e8, e9, e11, e12, e13, hlen, pick_t, pick_f, g4]
              have hmrd := int_rd (missN hs W n).length (missN hs W n)
              have hm2 := hmis.out
              rw [hme.out (by have := hisb.out; simpa using this), hml.out (by have := hisb.out; simpa using this)] at hm2
              (first | refine call_plain hm2 (by simp only [plains, plain, parV, intV, hp, Bool.and_self]) ?_ | refine call_pure hm2 (by simp only [plains, plain, parV, intV, hp, Bool.and_self]) (fun k0 => by simp only [shift, shifts, shift_treeR, intV]) ?_)
              by_cases hm0 : (0 : Int) < (((missN hs W n).length : Nat) : Int)
              · simp only [↓pre, post, ↓reduceIte, Nat.reduceEqDiff, Nat.reduceAdd, Nat.reduceMul, Nat.reduceSub, Nat.reduceLeDiff, Nat.reduceMod, Nat.reduceDiv, reduceCtorEq, Nat.reduceLT, Nat.reduceGT, Nat.reduceBEq, Option.isSome_some, ne_eq, Int.reduceEq, not_false_eq_true, bin_quo, bin_rem, List.length_cons, List.length_nil, List.map_cons, List.map_nil, List.append_nil, List.cons_append, List.nil_append, List.take_succ_cons, List.take_zero, List.drop_succ_cons, List.drop_zero, Nat.zero_add, Nat.add_zero, Nat.zero_le, Nat.le_refl, decide_true, decide_false, Bool.not_true, Bool.not_false, stepW, opE, intV, parV, boxE, loadE, partE, faddrE, fieldE, checkE, extractE, resultsE, resEs, resE, buildE, fillE, splice, if_true, if_false, Bool.false_eq_true, true_and, and_true, AV.cells, okA, oneA, fzs, fz, opTmp, Option.bind_some, Option.map_some, List.getElem?_cons_zero, List.getElem?_cons_succ, and_self, canonR, canon, canons, shift, shifts, pushAll, pushFrom, tys9, onceA, postU, postA, boolV, cond_t, cond_f, eq_self, Nat.mul_one, Int.reduceEq, Int.reduceLT, Int.reduceLE, e1, e2, e3, e8, e9, e11, e12, e13, hlen, pick_t, pick_f, shift_treeR, hmrd.len', hm0]
              · by_cases hgr : r < ((goneN l n : Nat) : Int)
                · simp only [↓pre, post, ↓reduceIte, Nat.reduceEqDiff, Nat.reduceAdd, Nat.reduceMul, Nat.reduceSub, Nat.reduceLeDiff, Nat.reduceMod, Nat.reduceDiv, reduceCtorEq, Nat.reduceLT, Nat.reduceGT, Nat.reduceBEq, Option.isSome_some, ne_eq, Int.reduceEq, not_false_eq_true, bin_quo, bin_rem, List.length_cons, List.length_nil, List.map_cons, List.map_nil, List.append_nil, List.cons_append, List.nil_append, List.take_succ_cons, List.take_zero, List.drop_succ_cons, List.drop_zero, Nat.zero_add, Nat.add_zero, Nat.zero_le, Nat.le_refl, decide_true, decide_false, Bool.not_true, Bool.not_false, stepW, opE, intV, parV, boxE, loadE, partE, faddrE, fieldE, checkE, extractE, resultsE, resEs, resE, buildE, fillE, splice, if_true, if_false, Bool.false_eq_true, true_and, and_true, AV.cells, okA, oneA, fzs, fz, opTmp, Option.bind_some, Option.map_some, List.getElem?_cons_zero, List.getElem?_cons_succ, and_self, canonR, canon, canons, shift, shifts, pushAll, pushFrom, tys9, onceA, postU, postA, boolV, cond_t, cond_f, eq_self, Nat.mul_one, Int.reduceEq, Int.reduceLT, Int.reduceLE, e1, e2, e3, e8, e9, e11, e12, e13, hlen, pick_t, pick_f, shift_treeR, hmrd.len', hm0, hgr]
                · have hk := hke2.out (by have := hisb.out; simpa using this) (by omega) (by omega)
                  have h2 := hb2.out
                  rw [decide_eq_false_iff_not] at h2
                  exact absurd hk.1 h2
  · have hl : cntP k r c w ps = [] := cntP_bad hc
    rw [hl] at h2
    have n3 : ([] : List Int).getD 0 0 = 0 := rfl
    have n5 : decide (1 ≤ ([] : List Int).length) = false := rfl
    rw [n3, n5] at h2
    generalize chkI k r c w ps = ck at *
    refine fspec_of_body follows Try.func9 (by unfold Try.f9; rfl) (by unfold Try.f9; simp) onceA (by unfold Try.f9; simp) (by kernel_rfl) ?_; unfold Try.f9
    simp only [↓pre, post, ↓reduceIte, Nat.reduceEqDiff, Nat.reduceAdd, Nat.reduceMul, Nat.reduceSub, Nat.reduceLeDiff, Nat.reduceMod, Nat.reduceDiv, reduceCtorEq, Nat.reduceLT, Nat.reduceGT, Nat.reduceBEq, Option.isSome_some, ne_eq, Int.reduceEq, not_false_eq_true, bin_quo, bin_rem, List.length_cons, List.length_nil, List.map_cons, List.map_nil, List.append_nil, List.cons_append, List.nil_append, List.take_succ_cons, List.take_zero, List.drop_succ_cons, List.drop_zero, Nat.zero_add, Nat.add_zero, Nat.zero_le, Nat.le_refl, decide_true, decide_false, Bool.not_true, Bool.not_false, stepW, opE, intV, parV, boxE, loadE, partE, faddrE, fieldE, checkE, extractE, resultsE, resEs, resE, buildE, fillE, splice, if_true, if_false, Bool.false_eq_true, true_and, and_true, AV.cells, okA, oneA, fzs, fz, opTmp, Option.bind_some, Option.map_some, List.getElem?_cons_zero, List.getElem?_cons_succ, and_self, canonR, canon, canons, shift, shifts, pushAll, pushFrom, tys9, onceA, postU, postA, boolV, cond_t, cond_f, eq_self]
    (first | refine call_plain (h5) (by first | rfl | simp only [plains, plain, plain_treeR, parV, intV, boolV, Bool.and_true, Bool.and_self, *]) ?_ | refine call_pure (h5) (by first | rfl | simp only [plains, plain, plain_treeR, parV, intV, boolV, Bool.and_true, Bool.and_self, *]) (by intro k; first | rfl | simp only [shift, shifts, intV, boolV, *]) ?_); simp only [↓pre, post, ↓reduceIte, Nat.reduceEqDiff, Nat.reduceAdd, Nat.reduceMul, Nat.reduceSub, Nat.reduceLeDiff, Nat.reduceMod, Nat.reduceDiv, reduceCtorEq, Nat.reduceLT, Nat.reduceGT, Nat.reduceBEq, Option.isSome_some, ne_eq, Int.reduceEq, not_false_eq_true, bin_quo, bin_rem, List.length_cons, List.length_nil, List.map_cons, List.map_nil, List.append_nil, List.cons_append, List.nil_append, List.take_succ_cons, List.take_zero, List.drop_succ_cons, List.drop_zero, Nat.zero_add, Nat.add_zero, Nat.zero_le, Nat.le_refl, decide_true, decide_false, Bool.not_true, Bool.not_false, stepW, opE, intV, parV, boxE, loadE, partE, faddrE, fieldE, checkE, extractE, resultsE, resEs, resE, buildE, fillE, splice, if_true, if_false, Bool.false_eq_true, true_and, and_true, AV.cells, okA, oneA, fzs, fz, opTmp, Option.bind_some, Option.map_some, List.getElem?_cons_zero, List.getElem?_cons_succ, and_self, canonR, canon, canons, shift, shifts, pushAll, pushFrom, tys9, onceA, postU, postA, boolV, cond_t, cond_f, eq_self, Nat.mul_one, Int.reduceEq, Int.reduceLT, Int.reduceLE, hc]; (first | refine call_plain (h2) (by first | rfl | simp only [plains, plain, plain_treeR, parV, intV, boolV, Bool.and_true, Bool.and_self, *]) ?_ | refine call_pure (h2) (by first | rfl | simp only [plains, plain, plain_treeR, parV, intV, boolV, Bool.and_true, Bool.and_self, *]) (by intro k; first | rfl | simp only [shift, shifts, intV, boolV, *]) ?_); simp only [↓pre, post, ↓reduceIte, Nat.reduceEqDiff, Nat.reduceAdd, Nat.reduceMul, Nat.reduceSub, Nat.reduceLeDiff, Nat.reduceMod, Nat.reduceDiv, reduceCtorEq, Nat.reduceLT, Nat.reduceGT, Nat.reduceBEq, Option.isSome_some, ne_eq, Int.reduceEq, not_false_eq_true, bin_quo, bin_rem, List.length_cons, List.length_nil, List.map_cons, List.map_nil, List.append_nil, List.cons_append, List.nil_append, List.take_succ_cons, List.take_zero, List.drop_succ_cons, List.drop_zero, Nat.zero_add, Nat.add_zero, Nat.zero_le, Nat.le_refl, decide_true, decide_false, Bool.not_true, Bool.not_false, stepW, opE, intV, parV, boxE, loadE, partE, faddrE, fieldE, checkE, extractE, resultsE, resEs, resE, buildE, fillE, splice, if_true, if_false, Bool.false_eq_true, true_and, and_true, AV.cells, okA, oneA, fzs, fz, opTmp, Option.bind_some, Option.map_some, List.getElem?_cons_zero, List.getElem?_cons_succ, and_self, canonR, canon, canons, shift, shifts, pushAll, pushFrom, tys9, onceA, postU, postA, boolV, cond_t, cond_f, eq_self, Nat.mul_one, Int.reduceEq, Int.reduceLT, Int.reduceLE, hc]
end Go.Proofs.Ytenmbfplceeolaa
