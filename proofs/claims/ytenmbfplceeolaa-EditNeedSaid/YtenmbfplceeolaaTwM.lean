/- Contracts of functions, and calls. -/
import Derived.Test.YtenmbfplceeolaaTwL
set_option linter.unusedVariables false
set_option linter.unusedSimpArgs false
namespace Go.Tw
open Go

/-- a function with a body of Go's own -/
def callable (P : Program) (f : FuncId) : Bool := match P.funcs[f]? with
  | some fn => fn.name != "runtime.NumGoroutine" && fn.body.isSome
  | none => false

/-- THE CONTRACT OF A FUNCTION THAT IS HANDED DATA: in every world, on every tape, the call returns; its value reads as r's, with rows of its own; all old memory is as it was. -/
def FSpec (P : Program) (f : FuncId) (args : List AV) (r : Res) : Prop := callable P f = true ∧
  ∀ (w : World) (I : Nat → Prop) (vs : Array Value), (∀ g, I g → g < w.heap.size) → vs.size = args.length → VRs P w I noneR args (fun j => vs[j]?) →
    Calls P f vs w fun en w' => ∃ v I' ρ', en = .returned v ∧ VR P w' I' ρ' r.v v ∧ SR P w' I' ρ' (pushAll Mem.empty r.rows) ∧ Step w I noneR Mem.empty w' I' ρ' (pushAll Mem.empty r.rows)

/-- The contract of a function that is entered in the caller's own memory. -/
def OSpec (P : Program) (f : FuncId) (args : List AV) (m : Mem) (Q : AV → Mem → Prop) : Prop := callable P f = true ∧
  ∀ (w : World) (I : Nat → Prop) (ρ : Real) (vs : Array Value), SR P w I ρ m → vs.size = args.length → VRs P w I ρ args (fun j => vs[j]?) → (∀ b, m.next ≤ b → ρ b = none) →
    Calls P f vs w fun en w' => ∃ v r m' I' ρ', en = .returned v ∧ Q r m' ∧ VR P w' I' ρ' r v ∧ SR P w' I' ρ' m' ∧ Step w I ρ m w' I' ρ' m' ∧ ∀ b, m'.next ≤ b → ρ' b = none

section
variable {P : Program} {w w' : World} {I I' : Nat → Prop} {ρ ρ' : Real} {m : Mem}

theorem pushAll_next : ∀ (rows : List (TypeId × List AV)) (m : Mem), (pushAll m rows).next = m.next + rows.length
  | [], m => rfl
  | r :: rows, m => by rw [pushAll, pushAll_next rows]; simp [Mem.push]; omega
theorem pushAll_at : ∀ (rows : List (TypeId × List AV)) (m : Mem) (b : Nat), (pushAll m rows).at_ b = if m.next ≤ b ∧ b < m.next + rows.length then (rows[b - m.next]?).map fun r => ⟨r.2, r.1, .flat, true⟩ else m.at_ b
  | [], m, b => by rw [pushAll, if_neg (by simp)]
  | r :: rows, m, b => by
    have hn : (m.push ⟨r.2, r.1, .flat, true⟩).next = m.next + 1 := rfl
    have ha : (m.push ⟨r.2, r.1, .flat, true⟩).at_ b = if b = m.next then some ⟨r.2, r.1, .flat, true⟩ else m.at_ b := rfl
    rw [pushAll, pushAll_at rows, hn, ha, List.length_cons]
    by_cases h : b = m.next
    · subst h
      rw [if_neg (by omega), if_pos (by omega)]
      simp
    · by_cases h2 : m.next + 1 ≤ b ∧ b < m.next + 1 + rows.length
      · rw [if_pos h2, if_pos (by omega)]
        obtain ⟨d, hd⟩ : ∃ d, b - m.next = d + 1 := ⟨b - m.next - 1, by omega⟩
        rw [hd, List.getElem?_cons_succ]
        congr 2; omega
      · rw [if_neg h2, if_neg h, if_neg (by omega)]

/-! what is handed over -/
mutual
theorem noRef_lend : ∀ (k : Nat) (av av' : AV), hasRef av = false → lend k m av = some av' → av' = av
  | k, .val v, av', h, hl => by unfold lend at hl; simp at hl; exact hl.symm
  | k, .tree _ _ _ _, av', h, hl => by unfold lend at hl; simp at hl; exact hl.symm
  | k, .tptr _ _, av', h, hl => by unfold lend at hl; simp at hl; exact hl.symm
  | k, .emp _ _, av', h, hl => by unfold lend at hl; simp at hl; exact hl.symm
  | k, .agg cs, av', h, hl => by
    simp only [hasRef] at h
    unfold lend at hl
    obtain ⟨cs', hc, rfl⟩ := Option.map_eq_some_iff.1 hl
    rw [noRef_lends k cs cs' h hc]
  | k, .clo f cs, av', h, hl => by
    simp only [hasRef] at h
    unfold lend at hl
    obtain ⟨cs', hc, rfl⟩ := Option.map_eq_some_iff.1 hl
    rw [noRef_lends k cs cs' h hc]
  | k, .sl _ _ _ _ _, av', h, hl => by simp [hasRef] at h
  | k, .ptr _ _, av', h, hl => by simp [hasRef] at h
  | k, .tup cs, av', h, hl => by unfold lend at hl; cases hl
theorem noRef_lends : ∀ (k : Nat) (cs cs' : List AV), hasRefs cs = false → lends k m cs = some cs' → cs' = cs
  | k, [], cs', h, hl => by unfold lends at hl; simp at hl; exact hl
  | k, c :: cs, cs', h, hl => by
    simp only [hasRefs, Bool.or_eq_false_iff] at h
    unfold lends at hl
    obtain ⟨c', hc, hl⟩ := Option.bind_eq_some_iff.1 hl
    obtain ⟨cs'', hcs, rfl⟩ := Option.map_eq_some_iff.1 hl
    rw [noRef_lend k c c' h.1 hc, noRef_lends k cs cs'' h.2 hcs]
end
mutual
theorem noRef_VR : ∀ (av : AV) (v : Value), hasRef av = false → VR P w I ρ av v → VR P w I noneR av v
  | .val x, v, h, hv => by simpa only [VR] using hv
  | .tree _ _ _ _, v, h, hv => by simpa only [VR] using hv
  | .tptr _ _, v, h, hv => by simpa only [VR] using hv
  | .emp _ _, v, h, hv => by simpa only [VR] using hv
  | .agg cs, v, h, hv => by
    simp only [hasRef] at h
    simp only [VR] at hv ⊢
    obtain ⟨vs, h1, h2, h3, h4⟩ := hv
    exact ⟨vs, h1, h2, h3, noRef_VRs cs _ h h4⟩
  | .tup cs, v, h, hv => by
    simp only [hasRef] at h
    simp only [VR] at hv ⊢
    obtain ⟨vs, h1, h2, h4⟩ := hv
    exact ⟨vs, h1, h2, noRef_VRs cs _ h h4⟩
  | .clo f cs, v, h, hv => by
    simp only [hasRef] at h
    simp only [VR] at hv ⊢
    obtain ⟨vs, h1, h2, h4⟩ := hv
    exact ⟨vs, h1, h2, noRef_VRs cs _ h h4⟩
  | .sl _ _ _ _ _, v, h, hv => by simp [hasRef] at h
  | .ptr _ _, v, h, hv => by simp [hasRef] at h
theorem noRef_VRs : ∀ (cs : List AV) (get : Nat → Option Value), hasRefs cs = false → VRs P w I ρ cs get → VRs P w I noneR cs get
  | [], get, h, hv => by simp only [VRs]
  | c :: cs, get, h, hv => by
    simp only [hasRefs, Bool.or_eq_false_iff] at h
    simp only [VRs] at hv ⊢
    obtain ⟨⟨v, h1, h2⟩, h3⟩ := hv
    exact ⟨⟨v, h1, noRef_VR c v h.1 h2⟩, noRef_VRs cs _ h.2 h3⟩
end

def allI (w : World) : Nat → Prop := fun g => g < w.heap.size
theorem keeps_all (hS : SR P w I ρ m) : Keeps w w I (allI w) := ⟨fun g hg => hS.lt g hg, fun _ _ => rfl, fun _ _ h => h⟩
theorem SR.ltb (hS : SR P w I ρ m) {b : Nat} {k : Blk} {g o : Nat} (h1 : m.at_ b = some k) (h2 : ρ b = some (g, o)) : g < w.heap.size := by
  obtain ⟨arr, fr, h3, _⟩ := (hS.blk b k g o h1 h2).cells
  exact heap_lt h3
mutual
theorem lend_one : ∀ (k : Nat) (av av' : AV), lend k m av = some av' → oneA av' = oneA av
  | k, .val v, av', hl => by unfold lend at hl; simp at hl; rw [← hl]
  | k, .tree _ _ _ _, av', hl => by unfold lend at hl; simp at hl; rw [← hl]
  | k, .tptr _ _, av', hl => by unfold lend at hl; simp at hl; rw [← hl]
  | k, .emp _ _, av', hl => by unfold lend at hl; simp at hl; rw [← hl]
  | k, .agg cs, av', hl => by unfold lend at hl; obtain ⟨cs', hc, rfl⟩ := Option.map_eq_some_iff.1 hl; rfl
  | k, .clo f cs, av', hl => by unfold lend at hl; obtain ⟨cs', hc, rfl⟩ := Option.map_eq_some_iff.1 hl; rfl
  | k, .sl _ _ _ _ _, av', hl => by
    unfold lend at hl
    obtain ⟨x, hx, hl⟩ := Option.bind_eq_some_iff.1 hl
    split at hl
    · simp at hl; rw [← hl]; rfl
    · cases hl
  | 0, .ptr _ _, av', hl => by unfold lend at hl; cases hl
  | k + 1, .ptr _ _, av', hl => by
    unfold lend at hl
    obtain ⟨x, hx, hl⟩ := Option.bind_eq_some_iff.1 hl
    split at hl
    · simp at hl; rw [← hl]; rfl
    · obtain ⟨cs', hc, rfl⟩ := Option.map_eq_some_iff.1 hl; rfl
    · cases hl
  | k, .tup cs, av', hl => by unfold lend at hl; cases hl
end
theorem lends_spec : ∀ (k : Nat) (cs cs' : List AV), lends k m cs = some cs' → cs'.length = cs.length ∧ (AllOne cs → AllOne cs')
  | k, [], cs', hl => by unfold lends at hl; simp at hl; subst hl; exact ⟨rfl, fun h => h⟩
  | k, c :: cs, cs', hl => by
    unfold lends at hl
    obtain ⟨c', hc, hl⟩ := Option.bind_eq_some_iff.1 hl
    obtain ⟨cs'', hcs, rfl⟩ := Option.map_eq_some_iff.1 hl
    obtain ⟨h1, h2⟩ := lends_spec k cs cs'' hcs
    refine ⟨by simp [h1], fun h x hx => ?_⟩
    rcases List.mem_cons.1 hx with rfl | hx
    · rw [lend_one k c _ hc]; exact h c (by simp)
    · exact h2 (fun y hy => h y (by simp [hy])) x hx

mutual
theorem lend_sound (hS : SR P w I ρ m) : ∀ (k : Nat) (av av' : AV) (v : Value), lend k m av = some av' → VR P w I ρ av v → VR P w (allI w) noneR av' v
  | k, .val x, av', v, hl, hv => by unfold lend at hl; simp at hl; subst hl; simpa only [VR] using hv
  | k, .tree a b c d, av', v, hl, hv => by
    unfold lend at hl; simp at hl; subst hl
    exact VR_keep (keeps_all hS) (fun _ _ h => h) _ _ (noRef_VR _ _ rfl hv)
  | k, .tptr a b, av', v, hl, hv => by
    unfold lend at hl; simp at hl; subst hl
    exact VR_keep (keeps_all hS) (fun _ _ h => h) _ _ (noRef_VR _ _ rfl hv)
  | k, .emp _ _, av', v, hl, hv => by unfold lend at hl; simp at hl; subst hl; simpa only [VR] using hv
  | k, .agg cs, av', v, hl, hv => by
    unfold lend at hl
    obtain ⟨cs', hc, rfl⟩ := Option.map_eq_some_iff.1 hl
    simp only [VR] at hv ⊢
    obtain ⟨vs, h1, h2, h3, h4⟩ := hv
    obtain ⟨l1, l2⟩ := lends_spec k cs cs' hc
    exact ⟨vs, h1, by rw [h2, l1], l2 h3, lends_sound hS k cs cs' _ hc h4⟩
  | k, .clo f cs, av', v, hl, hv => by
    unfold lend at hl
    obtain ⟨cs', hc, rfl⟩ := Option.map_eq_some_iff.1 hl
    simp only [VR] at hv ⊢
    obtain ⟨vs, h1, h2, h4⟩ := hv
    obtain ⟨l1, l2⟩ := lends_spec k cs cs' hc
    exact ⟨vs, h1, by rw [h2, l1], lends_sound hS k cs cs' _ hc h4⟩
  | k, .sl b off len c full, av', v, hl, hv => by
    unfold lend at hl
    obtain ⟨x, hx, hl⟩ := Option.bind_eq_some_iff.1 hl
    split at hl
    · rename_i hk
      simp at hl; subst hl
      simp only [VR] at hv ⊢
      obtain ⟨g, o, cap, ty, n, s, hg, rfl, hlc, hf, _⟩ := hv
      have hB := hS.blk b x g o hx hg
      refine ⟨g, o + off, cap, rfl, hS.ltb hx hg, hlc, hf, AllOne_drop hB.one _, ?_⟩
      exact VRs_congr (VRs_drop (VRs_keep (keeps_all hS) (fun _ _ h => h) _ _ (hB.flatAt hk)) off) fun j _ => by rw [Nat.add_assoc]
    · cases hl
  | 0, .ptr b off, av', v, hl, hv => by unfold lend at hl; cases hl
  | k + 1, .ptr b off, av', v, hl, hv => by
    unfold lend at hl
    obtain ⟨x, hx, hl⟩ := Option.bind_eq_some_iff.1 hl
    simp only [VR] at hv
    obtain ⟨g, o, hg, rfl⟩ := hv
    have hB := hS.blk b x g o hx hg
    split at hl
    · rename_i hk
      simp at hl; subst hl
      simp only [VR]
      exact ⟨g, o, rfl, hS.ltb hx hg, hB.one, VRs_keep (keeps_all hS) (fun _ _ h => h) _ _ (hB.flatAt hk)⟩
    · obtain ⟨cs', hc, rfl⟩ := Option.map_eq_some_iff.1 hl
      simp only [VR]
      obtain ⟨l1, l2⟩ := lends_spec k _ cs' hc
      exact ⟨g, o, rfl, hS.ltb hx hg, l2 hB.one, lends_sound hS k _ cs' _ hc hB.cellsAt⟩
    · cases hl
  | k, .tup cs, av', v, hl, hv => by unfold lend at hl; cases hl
  termination_by k av => (k, SizeOf.sizeOf av)
theorem lends_sound (hS : SR P w I ρ m) : ∀ (k : Nat) (cs cs' : List AV) (get : Nat → Option Value), lends k m cs = some cs' → VRs P w I ρ cs get → VRs P w (allI w) noneR cs' get
  | k, [], cs', get, hl, hv => by unfold lends at hl; simp at hl; subst hl; simp only [VRs]
  | k, c :: cs, cs', get, hl, hv => by
    unfold lends at hl
    obtain ⟨c', hc, hl⟩ := Option.bind_eq_some_iff.1 hl
    obtain ⟨cs'', hcs, rfl⟩ := Option.map_eq_some_iff.1 hl
    simp only [VRs] at hv ⊢
    obtain ⟨⟨v, h1, h2⟩, h3⟩ := hv
    exact ⟨⟨v, h1, lend_sound hS k c c' v hc h2⟩, lends_sound hS k cs cs'' _ hcs h3⟩
  termination_by k cs => (k, SizeOf.sizeOf cs)
end
end
end Go.Tw
