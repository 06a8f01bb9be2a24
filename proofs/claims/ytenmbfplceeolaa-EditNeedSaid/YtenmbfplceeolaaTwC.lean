/- Operations that change nothing: sound. -/
import Derived.Test.YtenmbfplceeolaaTwB
import Derived.Laws.Cells
import Derived.Laws.Rows
import Derived.Laws.Entries
set_option linter.unusedVariables false
set_option linter.unusedSimpArgs false
namespace Go.Tw
open Go

theorem pureR_run {α : Type} (P : Program) : ∀ (s : Sem α) (x : α), pureR P s = some x → ∀ w, s.run P w = .ok x w
  | .pure a, x, h, w => by simp only [pureR, Option.some.injEq] at h; subst h; rfl
  | .program k, x, h, w => by simp only [pureR] at h; exact pureR_run P (k P) x h w
  | .load _ _ _, x, h, w => by simp [pureR] at h
  | .store _ _ _ _, x, h, w => by simp [pureR] at h
  | .new _ _, x, h, w => by simp [pureR] at h
  | .shape _ _, x, h, w => by simp [pureR] at h
  | .freeze _ _ _, x, h, w => by simp [pureR] at h
  | .frozen _ _, x, h, w => by simp [pureR] at h
  | .getObj _ _, x, h, w => by simp [pureR] at h
  | .setObj _ _ _, x, h, w => by simp [pureR] at h
  | .choose _ _, x, h, w => by simp [pureR] at h
  | .sys _ _, x, h, w => by simp [pureR] at h
  | .mark _ _, x, h, w => by simp [pureR] at h
  | .halt _, x, h, w => by simp [pureR] at h

section
variable {P : Program} {w : World} {I : Nat → Prop} {ρ : Real}

theorem run_und {t : TypeId} {d : TypeDesc} (h : P.underlying t = some d) : (underlying t).run P w = .ok d w := by simp [underlying, h]
theorem run_sz {t : TypeId} {n : Nat} (h : szE P t = some n) : (sizeOf t).run P w = .ok n w := by
  unfold szE at h
  obtain ⟨i, hi, rfl⟩ := Option.map_eq_some_iff.1 h
  simp [sizeOf, typeInfo, hi]
theorem run_info {t : TypeId} {n : Nat} (h : byE P t = some n) : ∃ i, P.info? t = some i ∧ i.bytes = n := by
  unfold byE at h
  obtain ⟨i, hi, rfl⟩ := Option.map_eq_some_iff.1 h
  exact ⟨i, hi, rfl⟩
theorem run_isAgg {t : TypeId} {b : Bool} (h : aggE P t = some b) : (isAgg t).run P w = .ok b w := by
  unfold aggE at h
  obtain ⟨d, hd, rfl⟩ := Option.map_eq_some_iff.1 h
  cases d <;> simp [isAgg, run_und hd]
theorem und_el {t e : TypeId} (h : elE P t = some e) : P.underlying t = some (.slice e) := by
  unfold elE at h; split at h
  · cases h; assumption
  · cases h
theorem und_arr {t : TypeId} {a : Nat × TypeId} (h : arrE P t = some a) : P.underlying t = some (.array a.1 a.2) := by
  unfold arrE at h; split at h
  · cases h; assumption
  · cases h
theorem und_fld {t : TypeId} {i : Nat} {p : Nat × TypeId} (h : fldE P t i = some p) : ∃ fs f, P.underlying t = some (.struct fs) ∧ fs[i]? = some f ∧ f.offset = p.1 ∧ f.type = p.2 := by
  unfold fldE at h; split at h
  · rename_i fs hu
    obtain ⟨f, hf, rfl⟩ := Option.map_eq_some_iff.1 h
    exact ⟨fs, f, hu, hf, rfl, rfl⟩
  · cases h
theorem und_str {t : TypeId} (h : isStr P t = true) : P.underlying t = some .string := by
  unfold isStr at h; split at h
  · assumption
  · cases h
theorem und_u8 {t : TypeId} (h : isU8 P t = true) : P.underlying t = some (.int .u8) := by
  unfold isU8 at h; split at h
  · assumption
  · cases h

/-- related cells as a list of values -/
theorem VRs_list {cs : List AV} : ∀ {get : Nat → Option Value}, VRs P w I ρ cs get → ∃ vs : List Value, vs.length = cs.length ∧ (∀ j v, vs[j]? = some v → get j = some v) ∧ VRs P w I ρ cs (fun j => vs[j]?) := by
  induction cs with
  | nil => intro get _; exact ⟨[], rfl, by simp, by simp only [VRs]⟩
  | cons c cs ih =>
    intro get h
    simp only [VRs] at h
    obtain ⟨⟨v, h1, h2⟩, h3⟩ := h
    obtain ⟨vs, l, f, r⟩ := ih h3
    refine ⟨v :: vs, by simp [l], ?_, ?_⟩
    · intro j u hj
      cases j with
      | zero => simp at hj; subst hj; exact h1
      | succ j => exact f j u (by simpa using hj)
    · simp only [VRs]
      exact ⟨⟨v, by simp, h2⟩, by simpa using r⟩

theorem VRs_len {cs : List AV} {get : Nat → Option Value} (h : VRs P w I ρ cs get) {j : Nat} (hj : j < cs.length) : ∃ v, get j = some v := by
  obtain ⟨v, h1, _⟩ := VRs_at h (List.getElem?_eq_getElem hj)
  exact ⟨v, h1⟩

theorem oneA_one {c : AV} (h : oneA c = true) {v : Value} (hv : VR P w I ρ c v) : v.oneCell' = true := by
  cases c with
  | val x => simp only [VR] at hv; subst hv; cases v <;> simp_all [oneA, Value.oneCell']
  | agg cs => simp [oneA] at h
  | tup cs => simp [oneA] at h
  | tree len c cs f => simp only [VR] at hv; obtain ⟨g, o, cap, rfl, _⟩ := hv; rfl
  | tptr off cs => simp only [VR] at hv; obtain ⟨g, o, rfl, _⟩ := hv; rfl
  | emp c f => simp only [VR] at hv; obtain ⟨g, o, cap, rfl, _⟩ := hv; rfl
  | sl b off len c f => simp only [VR] at hv; obtain ⟨g, o, cap, ty, n, s, _, rfl, _⟩ := hv; rfl
  | ptr b off => simp only [VR] at hv; obtain ⟨g, o, _, rfl⟩ := hv; rfl
  | clo f cs => simp only [VR] at hv; obtain ⟨vs, rfl, _⟩ := hv; rfl

theorem AllOne_take {cs : List AV} (h : AllOne cs) (k : Nat) : AllOne (cs.take k) := fun c hc => h c (List.mem_of_mem_take hc)
theorem AllOne_drop {cs : List AV} (h : AllOne cs) (k : Nat) : AllOne (cs.drop k) := fun c hc => h c (List.mem_of_mem_drop hc)
theorem AllOne_append {cs ds : List AV} (h : AllOne cs) (k : AllOne ds) : AllOne (cs ++ ds) := fun c hc => by
  rcases List.mem_append.1 hc with hc | hc
  · exact h c hc
  · exact k c hc
theorem AllOne_splice {cs xs : List AV} (h : AllOne cs) (k : AllOne xs) (off : Nat) : AllOne (splice cs off xs) :=
  AllOne_append (AllOne_append (AllOne_take h _) k) (AllOne_drop h _)

theorem part_sound {t : TypeId} {cs : List AV} {off : Nat} {av : AV} (hp : partE P t cs off = some av) {vs : Array Value} (hs : vs.size = cs.length) (h1 : AllOne cs) (hc : VRs P w I ρ cs (fun j => vs[j]?)) :
    ∃ v, (part t vs off).run P w = .ok v w ∧ VR P w I ρ av v := by
  unfold partE at hp
  split at hp
  · rename_i ha
    obtain ⟨n, hn, hp⟩ := Option.bind_eq_some_iff.1 hp
    split at hp
    · rename_i hle
      cases hp
      refine ⟨.agg (vs.extract off (off + n)), by simp [part, run_isAgg ha, run_sz hn], ?_⟩
      simp only [VR]
      refine ⟨_, rfl, by simp; omega, AllOne_take (AllOne_drop h1 _) _, ?_⟩
      refine VRs_congr (VRs_take (VRs_drop hc off) n) fun j hj => ?_
      simp at hj
      rw [Array.getElem?_extract]
      rw [if_pos (by omega)]
    · cases hp
  · rename_i ha
    obtain ⟨v, hv1, hv2⟩ := VRs_at hc hp
    exact ⟨v, by simp [part, run_isAgg ha, hv1], hv2⟩
  · cases hp

theorem loadVar_sound {t : TypeId} {cs : List AV} {off : Nat} {av : AV} (hp : partE P t cs off = some av) {g o : Nat} (h1 : AllOne cs) (hc : VRs P w I ρ cs (fun j => w.cell? ⟨g, o + j, none⟩)) :
    ∃ v, (loadVar t ⟨g, o + off, none⟩).run P w = .ok v w ∧ VR P w I ρ av v := by
  unfold partE at hp
  split at hp
  · rename_i ha
    obtain ⟨n, hn, hp⟩ := Option.bind_eq_some_iff.1 hp
    split at hp
    · rename_i hle
      cases hp
      obtain ⟨vs, l, f, r⟩ := VRs_list (VRs_take (VRs_drop hc off) n)
      have hl : vs.length = n := by simp at l; omega
      have hr := run_loadCells_list (P := P) (w := w) ⟨g, o + off, none⟩ vs (fun j v hj => by
        have := f j v hj
        rw [Addr.add_lit, Nat.add_assoc]
        exact this)
      rw [hl] at hr
      refine ⟨.agg vs.toArray, by simp [loadVar, run_isAgg ha, run_sz hn, hr], ?_⟩
      simp only [VR]
      exact ⟨_, rfl, by simpa using l, AllOne_take (AllOne_drop h1 _) _, by simpa using r⟩
    · cases hp
  · rename_i ha
    obtain ⟨v, hv1, hv2⟩ := VRs_at hc hp
    exact ⟨v, by simp [loadVar, run_isAgg ha, hv1], hv2⟩
  · cases hp
end
end Go.Tw
