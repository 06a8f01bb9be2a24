/- Slice expressions, composite literals, lengths: sound. -/
import Derived.Test.YtenmbfplceeolaaTwD
set_option linter.unusedVariables false
set_option linter.unusedSimpArgs false
namespace Go.Tw
open Go

section
variable {P : Program} {w : World} {I : Nat → Prop} {ρ : Real} {m : Mem}

/-- a bound that is given, or is not -/
def RelO : Option Nat → Option Value → Prop
  | none, none => True
  | some n, some v => ∃ kd, v = .int kd (n : Int)
  | _, _ => False

theorem optNat_rel {e : Env} {a : Act} (he : ER P w I ρ e a) {x : Option Operand} {n : Option Nat} (h : optNat (x.map (opd e)) = some n) : RelO n (x.map a.eval) := by
  cases x with
  | none => simp only [Option.map_none, optNat, Option.some.injEq] at h; subst h; trivial
  | some x =>
    simp only [Option.map_some, optNat] at h
    obtain ⟨k, hk, rfl⟩ := Option.map_eq_some_iff.1 h
    exact natOf_int hk (opd_eval he x)

theorem sliceBound_run {kd : IntKind} {n y : Nat} (h : n ≤ y) (code : BoundsCode) : (Instr.sliceBound (.int kd (n : Int)) y code).run P w = .ok n w := by
  have : (0 : Int) ≤ (n : Int) ∧ (n : Int) ≤ (y : Int) := ⟨by omega, by omega⟩
  simp [Instr.sliceBound, asIntOf, this]

theorem sliceBounds_run {b : Bool} {len cap : Nat} {lo hi mx : Option Nat} {vl vh vm : Option Value} (hl : RelO lo vl) (hh : RelO hi vh) (hm : RelO mx vm)
    (h1 : lo.getD 0 ≤ hi.getD len) (h2 : hi.getD len ≤ mx.getD cap) (h3 : mx.getD cap ≤ cap) (h4 : (mx.isSome && hi.isNone) = false) :
    (Instr.sliceBounds b len cap vl vh vm).run P w = .ok (lo.getD 0, hi.getD len, mx.getD cap) w := by
  cases lo with
  | none =>
    cases vl with
    | some v => simp [RelO] at hl
    | none =>
      cases hi with
      | none =>
        cases vh with
        | some v => simp [RelO] at hh
        | none =>
          cases mx with
          | none => cases vm with
            | some v => simp [RelO] at hm
            | none => simp [Instr.sliceBounds]
          | some x => simp at h4
      | some y =>
        cases vh with
        | none => simp [RelO] at hh
        | some v =>
          obtain ⟨kd, rfl⟩ := hh
          cases mx with
          | none => cases vm with
            | some v => simp [RelO] at hm
            | none => simp at h2 h3; simp [Instr.sliceBounds, sliceBound_run h2]
          | some x => cases vm with
            | none => simp [RelO] at hm
            | some v =>
              obtain ⟨kd', rfl⟩ := hm
              simp at h2 h3
              simp [Instr.sliceBounds, sliceBound_run h2, sliceBound_run h3]
  | some l =>
    cases vl with
    | none => simp [RelO] at hl
    | some v =>
      obtain ⟨kl, rfl⟩ := hl
      cases hi with
      | none =>
        cases vh with
        | some v => simp [RelO] at hh
        | none =>
          cases mx with
          | none => cases vm with
            | some v => simp [RelO] at hm
            | none => simp at h1; simp [Instr.sliceBounds, sliceBound_run h1]
          | some x => simp at h4
      | some y =>
        cases vh with
        | none => simp [RelO] at hh
        | some v =>
          obtain ⟨kd, rfl⟩ := hh
          cases mx with
          | none => cases vm with
            | some v => simp [RelO] at hm
            | none => simp at h1 h2 h3; simp [Instr.sliceBounds, sliceBound_run h2, sliceBound_run h1]
          | some x => cases vm with
            | none => simp [RelO] at hm
            | some v =>
              obtain ⟨kd', rfl⟩ := hm
              simp at h1 h2 h3
              simp [Instr.sliceBounds, sliceBound_run h2, sliceBound_run h3, sliceBound_run h1]

theorem bound_c {a : Option Nat} {c cap : Nat} (h : a.getD c ≤ c) (hc : c ≤ cap) : a.getD cap ≤ cap := by
  cases a with
  | none => exact Nat.le_refl _
  | some x => simp at h ⊢; omega

theorem le_c {a : Option Nat} {c cap x : Nat} (h : x ≤ a.getD c) (hc : c ≤ cap) : x ≤ a.getD cap := by
  cases a with
  | none => simp at h ⊢; omega
  | some y => simpa using h

/-- what is left of the capacity -/
theorem cap_c {a : Option Nat} {c cap l : Nat} {f : Bool} (hc : c ≤ cap) (hf : f = true → cap = c) : a.getD c - l ≤ a.getD cap - l ∧ ((f || a.isSome) = true → a.getD cap - l = a.getD c - l) := by
  cases a with
  | none => simp; refine ⟨by omega, fun h => by rw [hf h]⟩
  | some y => simp

theorem cutE_sound {t el : TypeId} {sz : Nat} (hel : elE P t = some el) (hsz : szE P el = some sz) {lo hi mx : Option Nat} {x av : AV} (h : cutE sz (lo.getD 0) hi mx x = some av) (h4 : (mx.isSome && hi.isNone) = false)
    {v : Value} (hv : VR P w I ρ x v) (hs : ∀ b off n c f, x = .sl b off n c f → ∀ g o, ρ b = some (g, o) → ∀ ty n', w.shape? g = some (ty, n') → szE P ty = some sz) {vl vh vm : Option Value} (hl : RelO lo vl) (hh : RelO hi vh) (hm : RelO mx vm) : Pur P w I ρ (Instr.slice t v vl vh vm) av := by
  unfold cutE at h
  split at h
  · split at h
    · rename_i hc
      simp only [Option.some.injEq] at h
      subst h
      simp only [VR] at hv
      subst hv
      refine ⟨.slice none 0 0, ?_, by simp only [nilS, VR]⟩
      have hb := sliceBounds_run (P := P) (w := w) (b := true) (len := 0) (cap := 0) hl hh hm (by omega) (by omega) (by omega) h4
      simp [Instr.slice, run_und (und_el hel), run_sz hsz, hb, hc]
    · cases h
  · rename_i n c cs f
    split at h
    · rename_i hc
      obtain ⟨c1, c2, c3⟩ := hc
      simp only [VR] at hv
      obtain ⟨g, o, cap, rfl, hI, ⟨hlc, hcc⟩, hf, hone, hcl⟩ := hv
      have hb := sliceBounds_run (P := P) (w := w) (b := true) (len := n) (cap := cap) hl hh hm c1 (le_c c2 hcc) (bound_c c3 hcc) h4
      have hcap := cap_c (a := mx) (l := lo.getD 0) hcc hf
      have hrun : (Instr.slice t (.slice (some ⟨g, o, none⟩) n cap) vl vh vm).run P w = .ok (.slice (some (if mx.getD cap = lo.getD 0 then ⟨g, o, none⟩ else ⟨g, o + lo.getD 0 * sz, none⟩)) (hi.getD n - lo.getD 0) (mx.getD cap - lo.getD 0)) w := by
        simp [Instr.slice, run_und (und_el hel), run_sz hsz, hb, Addr.add_lit]
        split <;> rfl
      split at h
      · rename_i he
        simp only [Option.some.injEq] at h
        subst h
        refine ⟨_, hrun, ?_⟩
        simp only [VR]
        rw [he]
        by_cases hq : mx.getD cap = hi.getD n
        · rw [if_pos hq]; exact ⟨g, o, _, by rw [Nat.sub_self], by rw [← he]; exact hcap.1, by rw [← he]; exact hcap.2⟩
        · rw [if_neg hq]; exact ⟨g, _, _, by rw [Nat.sub_self], by rw [← he]; exact hcap.1, by rw [← he]; exact hcap.2⟩
      · rename_i he
        simp only [Option.some.injEq] at h
        subst h
        refine ⟨_, hrun, ?_⟩
        have hlt : lo.getD 0 < mx.getD cap := Nat.lt_of_lt_of_le (by omega) (le_c c2 hcc)
        rw [if_neg (by omega)]
        simp only [VR]
        refine ⟨g, o + lo.getD 0 * sz, _, rfl, hI, ⟨by omega, hcap.1⟩, hcap.2, AllOne_drop hone _, ?_⟩
        refine VRs_congr (VRs_drop hcl _) fun j _ => by rw [Nat.add_assoc]
    · cases h
  · rename_i b off n c f
    split at h
    · rename_i hc
      obtain ⟨c1, c2, c3⟩ := hc
      simp only [VR] at hv
      obtain ⟨g, o, cap, ty, n', s, hb0, rfl, ⟨hlc, hcc⟩, hf, hsh, hs1, hroom⟩ := hv
      have hss := hs b off n c f rfl g o hb0 ty n' hsh
      rw [hs1, Option.some.injEq] at hss
      subst hss
      have hb := sliceBounds_run (P := P) (w := w) (b := true) (len := n) (cap := cap) hl hh hm c1 (le_c c2 hcc) (bound_c c3 hcc) h4
      have hcap := cap_c (a := mx) (l := lo.getD 0) hcc hf
      have hrun : (Instr.slice t (.slice (some ⟨g, o + off, none⟩) n cap) vl vh vm).run P w = .ok (.slice (some (if mx.getD cap = lo.getD 0 then ⟨g, o + off, none⟩ else ⟨g, o + off + lo.getD 0 * s, none⟩)) (hi.getD n - lo.getD 0) (mx.getD cap - lo.getD 0)) w := by
        simp [Instr.slice, run_und (und_el hel), run_sz hsz, hb, Addr.add_lit]
        split <;> rfl
      split at h
      · rename_i he
        simp only [Option.some.injEq] at h
        subst h
        refine ⟨_, hrun, ?_⟩
        simp only [VR]
        by_cases hq : mx.getD cap = lo.getD 0
        · rw [if_pos hq]; exact ⟨g, _, _, by rw [he.1, Nat.sub_self], hcap.1, hcap.2⟩
        · rw [if_neg hq]; exact ⟨g, _, _, by rw [he.1, Nat.sub_self], hcap.1, hcap.2⟩
      · rename_i he
        simp only [Option.some.injEq] at h
        subst h
        refine ⟨_, hrun, ?_⟩
        have haddr : (if mx.getD cap = lo.getD 0 then (⟨g, o + off, none⟩ : Addr) else ⟨g, o + off + lo.getD 0 * s, none⟩) = ⟨g, o + (off + lo.getD 0 * s), none⟩ := by
          by_cases h0 : lo.getD 0 = 0
          · rw [h0]; simp
          · have hlt : lo.getD 0 < mx.getD cap := Nat.lt_of_lt_of_le (by omega) (le_c c2 hcc)
            rw [if_neg (by omega), Nat.add_assoc]
        rw [haddr]
        simp only [VR]
        refine ⟨g, o, _, ty, n', s, hb0, rfl, ⟨by omega, hcap.1⟩, hcap.2, hsh, hs1, ?_⟩
        have hmc := bound_c c3 hcc
        have hlm : lo.getD 0 ≤ mx.getD cap := Nat.le_trans c1 (le_c c2 hcc)
        have : lo.getD 0 * s + (mx.getD cap - lo.getD 0) * s ≤ cap * s := by
          rw [← Nat.add_mul]
          exact Nat.mul_le_mul_right _ (by omega)
        omega
    · cases h
  · rename_i c f
    split at h
    · rename_i hc
      simp only [Option.some.injEq] at h
      subst h
      obtain ⟨c1, c2, c3⟩ := hc
      simp only [VR] at hv
      obtain ⟨g, o, cap, rfl, hcc, hf⟩ := hv
      have hm0 : mx.getD cap ≤ cap := by
        cases mx with
        | none => exact Nat.le_refl _
        | some x => simp at c3; subst c3; simp
      have hb := sliceBounds_run (P := P) (w := w) (b := true) (len := 0) (cap := cap) hl hh hm (by omega) (by omega) hm0 h4
      have hcap := cap_c (a := mx) (l := 0) hcc hf
      refine ⟨.slice (some (if mx.getD cap = 0 then ⟨g, o, none⟩ else ⟨g, o + 0 * sz, none⟩)) 0 (mx.getD cap), ?_, ?_⟩
      · simp [Instr.slice, run_und (und_el hel), run_sz hsz, hb, Addr.add_lit, c1, c2]
      · simp only [VR]
        exact ⟨g, o, mx.getD cap, by simp, by simpa using hcap.1, by simpa using hcap.2⟩
    · cases h
  · cases h

theorem sliceE_sound {t : TypeId} {lo hi mx : Option Nat} {x av : AV} (h : sliceE P t lo hi mx x = some av) {v : Value} (hv : VR P w I ρ x v)
    (hs : ∀ b off n c f el sz, x = .sl b off n c f → elE P t = some el → szE P el = some sz → ∀ g o, ρ b = some (g, o) → ∀ ty n', w.shape? g = some (ty, n') → szE P ty = some sz)
    {vl vh vm : Option Value} (hl : RelO lo vl) (hh : RelO hi vh) (hm : RelO mx vm) : Pur P w I ρ (Instr.sliceAt t v vl vh vm) av := by
  unfold sliceE at h
  split at h
  · cases h
  · rename_i h4
    have h4' : (mx.isSome && hi.isNone) = false := (Bool.not_eq_true _).mp h4
    split at h
    · rename_i el hel
      obtain ⟨sz, hsz, h⟩ := Option.bind_eq_some_iff.1 h
      obtain ⟨u, h1, h2⟩ := cutE_sound (P := P) (w := w) hel hsz h h4' hv (fun b off n c f e => hs b off n c f el sz e hel hsz) hl hh hm
      exact ⟨u, by simpa [Instr.sliceAt, run_und (und_el hel)] using h1, h2⟩
    · split at h
      · rename_i n el har
        obtain ⟨sz, hsz, h⟩ := Option.bind_eq_some_iff.1 h
        split at h
        · rename_i off cs _h0
          split at h
          · rename_i hn0
            simp only [VR] at hv
            obtain ⟨g, o, rfl, hI, hone, hc⟩ := hv
            have hu := und_arr har
            simp only at hu
            simp only [cutE] at h
            split at h
            · rename_i hc'
              obtain ⟨c1, c2, c3⟩ := hc'
              have hb := sliceBounds_run (P := P) (w := w) (b := false) (len := n) (cap := n) hl hh hm c1 c2 c3 h4'
              have hrun : (Instr.sliceAt t (.pointer (some ⟨g, o + off, none⟩)) vl vh vm).run P w = .ok (.slice (some (if mx.getD n = lo.getD 0 then ⟨g, o + off, none⟩ else ⟨g, o + off + lo.getD 0 * sz, none⟩)) (hi.getD n - lo.getD 0) (mx.getD n - lo.getD 0)) w := by
                simp [Instr.sliceAt, run_und hu, run_sz hsz, hb, Instr.sureAddr, Addr.add_lit]
              split at h
              · rename_i he
                simp only [Option.some.injEq] at h
                subst h
                refine ⟨_, hrun, ?_⟩
                simp only [VR]
                rw [he]
                by_cases hq : mx.getD n = hi.getD n
                · rw [if_pos hq]; exact ⟨g, _, _, by rw [Nat.sub_self], Nat.le_refl _, fun _ => rfl⟩
                · rw [if_neg hq]; exact ⟨g, _, _, by rw [Nat.sub_self], Nat.le_refl _, fun _ => rfl⟩
              · rename_i he
                simp only [Option.some.injEq] at h
                subst h
                refine ⟨_, hrun, ?_⟩
                rw [if_neg (by omega)]
                simp only [VR]
                refine ⟨g, o + off + lo.getD 0 * sz, _, rfl, hI, ⟨by omega, Nat.le_refl _⟩, fun _ => rfl, AllOne_drop (AllOne_drop hone _) _, ?_⟩
                refine VRs_congr (VRs_drop (VRs_drop hc off) _) fun j _ => by simp [Nat.add_assoc]
            · cases h
          · cases h
        · cases h
      · split at h
        · split at h
          · rename_i s hc
            obtain ⟨c1, c2, c3, rfl⟩ := hc
            simp only [Option.some.injEq] at h
            subst h
            simp only [VR] at hv
            subst hv
            have hb := sliceBounds_run (P := P) (w := w) (b := false) (len := s.size) (cap := s.size) (mx := none) (vm := none) hl hh trivial c2 c3 (Nat.le_refl _) rfl
            have hvm : vm = none := by
              cases vm with
              | none => rfl
              | some v => simp [RelO] at hm
            subst hvm
            refine ⟨.string (s.extract (lo.getD 0) (hi.getD s.size)), ?_, by simp only [VR]⟩
            simp [Instr.sliceAt, Instr.slice, run_und (und_str c1), hb]
          · cases h
        · cases h

/-! composite literals -/
theorem foldl_set (l : List Value) : ∀ (k off : Nat) (arr : Array Value), ((l.zipIdx k).foldl (fun cs (p : Value × Nat) => cs.setIfInBounds (off + p.2) p.1) arr).size = arr.size ∧
    ∀ i, ((l.zipIdx k).foldl (fun cs (p : Value × Nat) => cs.setIfInBounds (off + p.2) p.1) arr)[i]? = if off + k ≤ i ∧ i < off + k + l.length ∧ i < arr.size then l[i - off - k]? else arr[i]? := by
  induction l with
  | nil => intro k off arr; refine ⟨rfl, fun i => ?_⟩; simp; intro h1 h2; omega
  | cons v l ih =>
    intro k off arr
    simp only [List.zipIdx_cons, List.foldl_cons]
    obtain ⟨h1, h2⟩ := ih (k + 1) off (arr.setIfInBounds (off + k) v)
    refine ⟨by rw [h1]; simp, fun i => ?_⟩
    rw [h2 i]
    simp only [Array.size_setIfInBounds, List.length_cons]
    by_cases hi : off + k = i
    · subst hi
      by_cases hb : off + k < arr.size
      · rw [if_neg (by omega), if_pos (by omega), Array.getElem?_setIfInBounds_self_of_lt hb]
        simp
      · rw [if_neg (by omega), if_neg (by omega), Array.getElem?_eq_none (by simp; omega), Array.getElem?_eq_none (by omega)]
    · by_cases hc : off + (k + 1) ≤ i ∧ i < off + (k + 1) + l.length ∧ i < arr.size
      · rw [if_pos hc, if_pos (by omega)]
        obtain ⟨d, hd⟩ : ∃ d, i - off - k = d + 1 := ⟨i - off - k - 1, by omega⟩
        rw [hd, List.getElem?_cons_succ]
        congr 1
        omega
      · rw [if_neg hc, if_neg (by omega), Array.getElem?_setIfInBounds_ne hi]

theorem AV_cells_VRs {av : AV} (hok : okA av = true) {v : Value} (hv : VR P w I ρ av v) : v.cells.size = av.cells.length ∧ AllOne av.cells ∧ VRs P w I ρ av.cells (fun j => v.cells[j]?) := by
  by_cases ha : ∃ cs, av = .agg cs
  · obtain ⟨cs, rfl⟩ := ha
    simp only [VR] at hv
    obtain ⟨vs, rfl, hs, hone, hc⟩ := hv
    exact ⟨hs, hone, hc⟩
  · have h1 : av.cells = [av] := by cases av <;> first | rfl | exact absurd ⟨_, rfl⟩ ha
    have h2 : oneA av = true := by cases av <;> first | exact hok | exact absurd ⟨_, rfl⟩ ha
    have h3 := oneA_one h2 hv
    have h4 : v.cells = #[v] := by cases v <;> first | rfl | simp [Value.oneCell'] at h3
    rw [h1, h4]
    refine ⟨rfl, fun c hc => by simp at hc; subst hc; exact h2, ?_⟩
    simp only [VRs]
    exact ⟨⟨v, by simp, hv⟩, trivial⟩

theorem splice_get (cs : List AV) (off : Nat) (xs : List AV) (h : off + xs.length ≤ cs.length) (i : Nat) : (splice cs off xs)[i]? = if off ≤ i ∧ i < off + xs.length then xs[i - off]? else cs[i]? := by
  unfold splice
  by_cases h1 : i < off
  · rw [List.getElem?_append_left (by simp; omega), List.getElem?_append_left (by simp; omega), List.getElem?_take, if_pos h1, if_neg (by omega)]
  · by_cases h2 : i < off + xs.length
    · rw [List.getElem?_append_left (by simp; omega), List.getElem?_append_right (by simp; omega), if_pos (by omega)]
      congr 1
      simp; omega
    · rw [List.getElem?_append_right (by simp; omega), List.getElem?_drop, if_neg (by omega)]
      congr 1
      simp; omega
theorem splice_length (cs : List AV) (off : Nat) (xs : List AV) (h : off + xs.length ≤ cs.length) : (splice cs off xs).length = cs.length := by
  unfold splice; simp; omega

theorem fillE_sound {place placeE : Nat → Option (Nat × Nat)} (hp : ∀ i p, placeE i = some p → place i = some p) : ∀ (parts : List (Nat × AV)) (vparts : List (Nat × Value)) (cs cs' : List AV) (arr : Array Value),
    fillE placeE cs parts = some cs' → vparts.length = parts.length → (∀ (j i : Nat) (av : AV) (i' : Nat) (v : Value), parts[j]? = some (i, av) → vparts[j]? = some (i', v) → i = i' ∧ VR P w I ρ av v) →
    arr.size = cs.length → AllOne cs → VRs P w I ρ cs (fun j => arr[j]?) →
    ∃ arr', Instr.fill place arr vparts = some arr' ∧ arr'.size = cs'.length ∧ cs'.length = cs.length ∧ AllOne cs' ∧ VRs P w I ρ cs' (fun j => arr'[j]?)
  | [], vparts, cs, cs', arr, h, hl, hv, hs, h1, hc => by
    simp only [fillE, Option.some.injEq] at h
    subst h
    obtain rfl : vparts = [] := List.eq_nil_of_length_eq_zero hl
    exact ⟨arr, rfl, hs, rfl, h1, hc⟩
  | (i, av) :: parts, [], cs, cs', arr, h, hl, hv, hs, h1, hc => by simp at hl
  | (i, av) :: parts, (i', v) :: vparts, cs, cs', arr, h, hl, hv, hs, h1, hc => by
    simp only [fillE] at h
    obtain ⟨p, hp1, h⟩ := Option.bind_eq_some_iff.1 h
    split at h
    · rename_i hcd
      obtain ⟨c1, c2, c3⟩ := hcd
      obtain ⟨rfl, hvr⟩ := hv 0 i av i' v rfl rfl
      obtain ⟨g1, g2, g3⟩ := AV_cells_VRs c3 hvr
      have hf := foldl_set v.cells.toList 0 p.1 arr
      have hfe : v.cells.zipIdx.foldl (fun cs (x : Value × Nat) => cs.setIfInBounds (p.1 + x.2) x.1) arr = (v.cells.toList.zipIdx 0).foldl (fun cs (x : Value × Nat) => cs.setIfInBounds (p.1 + x.2) x.1) arr := by
        rw [← Array.foldl_toList, Array.toList_zipIdx]
      rw [← hfe] at hf
      have hsz : (splice cs p.1 av.cells).length = cs.length := splice_length _ _ _ c2
      obtain ⟨arr', r1, r2, r3, r4, r5⟩ := fillE_sound hp parts vparts (splice cs p.1 av.cells) cs' _ h (by simpa using hl) (fun j => hv (j + 1)) (by rw [hf.1, hs, hsz]) (AllOne_splice h1 g2 _) (by
        refine VRs_iff.2 fun j c hj => ?_
        rw [splice_get _ _ _ c2] at hj
        simp only [hf.2 j, Nat.add_zero]
        split at hj
        · rename_i hr
          obtain ⟨u, u1, u2⟩ := VRs_at g3 hj
          refine ⟨u, ?_, u2⟩
          rw [if_pos (by simp; omega)]
          simpa using u1
        · rename_i hr
          obtain ⟨u, u1, u2⟩ := VRs_at hc hj
          refine ⟨u, ?_, u2⟩
          rw [if_neg (by simp; omega)]
          exact u1)
      refine ⟨arr', ?_, r2, r3.trans hsz, r4, r5⟩
      rw [Instr.fill, hp i p hp1]
      simp only
      rw [if_neg (by simp only [ne_eq, decide_not, Bool.or_eq_true, Bool.not_eq_true', decide_eq_false_iff_not, decide_eq_true_eq, not_or, Decidable.not_not]; exact ⟨by rw [g1]; exact c1, by rw [g1, hs]; omega⟩)]
      exact r1
    · cases h
end
end Go.Tw
