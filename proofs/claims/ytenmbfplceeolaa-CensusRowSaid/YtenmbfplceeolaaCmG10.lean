import Derived.Test.YtenmbfplceeolaaCmG09
import Derived.Lib.Overlaps
/- What a value and the memory may be taken for: rows given up, moved, cut to what is known; a row's spare cells told. -/
set_option linter.unusedVariables false
set_option linter.unusedSimpArgs false
namespace Go.Tw
open Go

/-- memory m and value v may be taken for m' and v' -/
structure Gets (P : Program) (m : Mem) (v : AV) (m' : Mem) (v' : AV) : Prop where
  next : m.next ≤ m'.next
  to : ∀ (w : World) (I : Nat → Prop) (ρ : Real) (x : Value), SR P w I ρ m → VR P w I ρ v x → (∀ b, m.next ≤ b → ρ b = none) → ∃ ρ', SR P w I ρ' m' ∧ VR P w I ρ' v' x ∧ Step w I ρ m w I ρ' m' ∧ ∀ b, m'.next ≤ b → ρ' b = none

section
variable {P : Program} {m m' m'' : Mem} {v v' v'' : AV}
theorem Gets.refl (m : Mem) (v : AV) : Gets P m v m v := ⟨Nat.le_refl _, fun w I ρ x hS hv hf => ⟨ρ, hS, hv, Step.refl _ _ _ _, hf⟩⟩
theorem Gets.trans (h : Gets P m v m' v') (h' : Gets P m' v' m'' v'') : Gets P m v m'' v'' := ⟨Nat.le_trans h.next h'.next, fun w I ρ x hS hv hf => by
  obtain ⟨ρ1, a1, a2, a3, a4⟩ := h.to w I ρ x hS hv hf
  obtain ⟨ρ2, b1, b2, b3, b4⟩ := h'.to w I ρ1 x a1 a2 a4
  exact ⟨ρ2, b1, b2, a3.trans b3, b4⟩⟩
theorem gets_drop (m : Mem) (v : AV) (b : Nat) : Gets P m v (m.put b none) v := ⟨Nat.le_refl _, fun w I ρ x hS hv hf => by
  obtain ⟨a1, a2⟩ := SR_drop hS b
  exact ⟨ρ, a1, hv, a2, hf⟩⟩
theorem gets_cut {b off n c c' j : Nat} {f : Bool} {cells : List AV} {el : TypeId} (hb : m.at_ b = some ⟨cells, el, .flat, true⟩) (h1 : n ≤ c') (h2 : c' ≤ c) : Gets P m (.sl b off n c f) (m.put b (some ⟨cells.take j, el, .flat, true⟩)) (.sl b off n c' false) := ⟨Nat.le_refl _, fun w I ρ x hS hv hf => by
  have hold : ∀ b' k', (m.put b (some ⟨cells.take j, el, .flat, true⟩)).at_ b' = some k' → ∃ k, m.at_ b' = some k ∧ k'.wr = k.wr ∧ k'.el = k.el ∧ k'.kind = k.kind ∧ ∃ i, k'.cells = k.cells.take i := fun b' k' h => by
    by_cases e : b' = b
    · subst e
      simp [Mem.put] at h
      subst h
      exact ⟨_, hb, rfl, rfl, rfl, j, rfl⟩
    · simp [Mem.put, e] at h
      exact ⟨k', h, rfl, rfl, rfl, k'.cells.length, by simp⟩
  refine ⟨ρ, ⟨fun b' k' g o q1 q2 => ?_, fun b1 b2 k1 k2 g o1 o2 q1 q2 q3 q4 q5 => ?_, hS.lt, hS.mms⟩, ?_, ⟨rfl, rfl, rfl, Nat.le_refl _, fun _ _ _ => rfl, fun _ _ h => h, fun _ h => h, fun _ h => .inl h, fun _ _ h => h, fun b h1 h2 => absurd h1 h2, fun g hg => ?_, Nat.le_refl _⟩, hf⟩
  · obtain ⟨k, p1, p2, p3, p4, i, p5⟩ := hold b' k' q1
    have hB := hS.blk b' k g o p1 q2
    refine ⟨by rw [p5]; exact AllOne_take hB.one _, ?_, fun h => hB.wr (p2 ▸ h), fun h => hB.im (p2 ▸ h), fun h => hB.all1 (p2 ▸ h), fun h hu => hB.nostr (p2 ▸ h) (p3 ▸ hu)⟩
    obtain ⟨arr, fr, e1, e2⟩ := hB.cells
    refine ⟨arr, fr, by rw [p3]; exact e1, ?_⟩
    rw [p4, p5]
    exact VRs_take e2 _
  · obtain ⟨k, p1, p2, _⟩ := hold b1 k1 q1
    obtain ⟨k', p1', _⟩ := hold b2 k2 q2
    exact hS.inj b1 b2 k k' g o1 o2 p1 p1' q3 q4 (p2 ▸ q5)
  · simp only [VR] at hv ⊢
    obtain ⟨g, o, cap, ty, n', s, a1, a2, ⟨a3, a4⟩, a5, a6⟩ := hv
    exact ⟨g, o, cap, ty, n', s, a1, a2, ⟨h1, Nat.le_trans h2 a4⟩, (fun h => by cases h), a6⟩
  · rcases hg with ⟨b', k', o, q1, q2, q3⟩ | hg
    · obtain ⟨k, p1, p2, _⟩ := hold b' k' q1
      exact .inl (.inl ⟨b', k, o, p1, p2 ▸ q2, q3⟩)
    · exact .inl (.inr hg)⟩
theorem gets_move {b off n c : Nat} {f : Bool} {k : Blk} (hb : m.at_ b = some k) (hw : k.wr = true) : Gets P m (.sl b off n c f) ((m.put b none).push ⟨k.cells.drop off, k.el, k.kind, true⟩) (.sl m.next 0 n c f) := ⟨by simp [Mem.push, Mem.put], fun w I ρ x hS hv hf => by
  simp only [VR] at hv
  obtain ⟨g, o, cap, ty, n', s, a1, a2, a3, a4, a5, a6, a7⟩ := hv
  obtain ⟨s1, s2⟩ := SR_move hS hb hw a1 (hf m.next (Nat.le_refl _)) off
  refine ⟨_, s1, ?_, s2, free_step s2 hf⟩
  simp only [VR]
  exact ⟨g, o + off, cap, ty, n', s, setR_same _ _ _, by rw [a2]; rfl, a3, a4, a5, a6, a7⟩⟩
theorem ospec_gets {f : FuncId} {args : List AV} {Q Q' : AV → Mem → Prop} (h : OSpec P f args m Q) (hq : ∀ v m1, Q v m1 → ∃ v' m2, Gets P m1 v m2 v' ∧ Q' v' m2) : OSpec P f args m Q' := ⟨h.1, fun w I ρ vs hS hsz hv hf => (h.2 w I ρ vs hS hsz hv hf).mono fun en w' => by
  rintro ⟨v, r, m1, I', ρ', e, hQ, h1, h2, h3, h4⟩
  obtain ⟨v', m2, hg, hQ'⟩ := hq r m1 hQ
  obtain ⟨ρ2, a1, a2, a3, a4⟩ := hg.to w' I' ρ' v h2 h1 h4
  exact ⟨v, v', m2, I', ρ2, e, hQ', a2, a1, h3.trans a3, a4⟩⟩
theorem oneV_of {x : Value} (h : x.oneCell' = true) : oneV x = true := by cases x <;> simp_all [oneV, Value.oneCell']
/-- a row's capacity and spare cells told -/
theorem ospec_reveal {f : FuncId} {args : List AV} {Q : AV → Mem → Prop} {i b off n c sz : Nat} {cells : List AV} {el : TypeId} (hi : args[i]? = some (.sl b off n c false)) (hb : m.at_ b = some ⟨cells, el, .flat, true⟩) (hsz : szE P el = some sz) (hlen : off + n * sz = cells.length)
    (h : ∀ (k : Nat) (sp : List Value), n ≤ k → c ≤ k → sp.length = (k - n) * sz → (∀ x ∈ sp, oneV x = true) → OSpec P f (args.set i (.sl b off n k true)) (m.put b (some ⟨cells ++ sp.map .val, el, .flat, true⟩)) Q) (hcall : callable P f = true) : OSpec P f args m Q := by
  refine ⟨hcall, fun w I ρ vs hS hs hv hf => ?_⟩
  obtain ⟨x, hx, hvx⟩ := VRs_at hv hi
  have hvx' := hvx
  simp only [VR] at hvx
  obtain ⟨g, o, cap, ty, nn, s, a1, a2, ⟨a3, a4⟩, a5, a6, a7, a8⟩ := hvx
  have hB := hS.blk b _ g o hb a1
  obtain ⟨arr, fr, e1, e2⟩ := hB.cells
  have hsh := shape_of_heap e1
  rw [a6] at hsh
  simp only [Option.some.injEq, Prod.mk.injEq] at hsh
  obtain ⟨hty, rfl⟩ := hsh
  replace hty : ty = el := hty
  rw [hty] at a6 a7
  rw [hsz, Option.some.injEq] at a7
  subst a7
  have e2' : VRs P w I noneR cells (fun j => arr[o + j]?) := by simpa using e2
  have hncap : n ≤ cap := Nat.le_trans a3 a4
  have hmul : cap * sz = n * sz + (cap - n) * sz := by rw [← Nat.add_mul]; congr 1; omega
  have hspl : ((arr.toList.drop (o + cells.length)).take ((cap - n) * sz)).length = (cap - n) * sz := by
    rw [List.length_take, List.length_drop, Array.length_toList]; omega
  have h2 := h cap ((arr.toList.drop (o + cells.length)).take ((cap - n) * sz)) hncap a4 hspl (fun x hx => oneV_of (hB.all1 rfl arr _ fr e1 x (List.mem_of_mem_drop (List.mem_of_mem_take hx))))
  generalize hgsp : (arr.toList.drop (o + cells.length)).take ((cap - n) * sz) = sp at h2 hspl
  have hspone : ∀ x ∈ sp, x.oneCell' = true := fun x hx => by
    rw [← hgsp] at hx
    exact hB.all1 rfl arr _ fr e1 x (List.mem_of_mem_drop (List.mem_of_mem_take hx))
  have hspat : ∀ j, j < sp.length → arr[o + cells.length + j]? = sp[j]? := fun j hj => by
    rw [← hgsp, List.getElem?_take_of_lt (by omega), List.getElem?_drop, Array.getElem?_toList]
  have hold : ∀ b' k', (m.put b (some ⟨cells ++ sp.map .val, el, .flat, true⟩)).at_ b' = some k' → (b' = b ∧ k' = ⟨cells ++ sp.map .val, el, .flat, true⟩) ∨ (b' ≠ b ∧ m.at_ b' = some k') := fun b' k' h => by
    by_cases e : b' = b
    · simp [Mem.put, e] at h; exact .inl ⟨e, h.symm⟩
    · simp [Mem.put, e] at h; exact .inr ⟨e, h⟩
  have hwr : ∀ g', Wr ρ (m.put b (some ⟨cells ++ sp.map .val, el, .flat, true⟩)) g' ↔ Wr ρ m g' := fun g' => by
    constructor
    · rintro (⟨b', k', o', q1, q2, q3⟩ | hg)
      · rcases hold b' k' q1 with ⟨rfl, rfl⟩ | ⟨_, q1'⟩
        · exact .inl ⟨b', ⟨cells, el, .flat, true⟩, o', hb, rfl, q3⟩
        · exact .inl ⟨b', k', o', q1', q2, q3⟩
      · exact .inr hg
    · rintro (⟨b', k', o', q1, q2, q3⟩ | hg)
      · by_cases e : b' = b
        · subst e; exact .inl ⟨b', ⟨cells ++ sp.map .val, el, .flat, true⟩, o', by simp [Mem.put], rfl, q3⟩
        · exact .inl ⟨b', k', o', by simp [Mem.put, e, q1], q2, q3⟩
      · exact .inr hg
  have hS2 : SR P w I ρ (m.put b (some ⟨cells ++ sp.map .val, el, .flat, true⟩)) := by
    refine ⟨fun b' k' g' o' q1 q2 => ?_, fun b1 b2 k1 k2 g' o1 o2 q1 q2 q3 q4 q5 => ?_, hS.lt, hS.mms⟩
    · rcases hold b' k' q1 with ⟨rfl, rfl⟩ | ⟨_, q1'⟩
      · rw [a1] at q2
        simp only [Option.some.injEq, Prod.mk.injEq] at q2
        obtain ⟨rfl, rfl⟩ := q2
        refine ⟨fun c hc => ?_, ⟨arr, fr, e1, ?_⟩, hB.wr, (fun h => by cases h), hB.all1, hB.nostr⟩
        · rcases List.mem_append.1 hc with hc | hc
          · exact hB.one c hc
          · obtain ⟨x, hx, rfl⟩ := List.mem_map.1 hc
            exact oneA_val (oneV_of (hspone x hx))
        · simp only [if_true]
          refine VRs_iff.2 fun j c hj => ?_
          rcases Nat.lt_or_ge j cells.length with hl | hl
          · rw [List.getElem?_append_left hl] at hj
            exact VRs_at e2' hj
          · rw [List.getElem?_append_right hl, List.getElem?_map] at hj
            obtain ⟨x, hx, rfl⟩ := Option.map_eq_some_iff.1 hj
            refine ⟨x, ?_, by simp only [VR]⟩
            have hlt := (List.getElem?_eq_some_iff.1 hx).1
            rw [show o + j = o + cells.length + (j - cells.length) by omega, hspat _ hlt, hx]
      · exact hS.blk b' k' g' o' q1' q2
    · rcases hold b1 k1 q1 with ⟨rfl, rfl⟩ | ⟨n1, q1'⟩ <;> rcases hold b2 k2 q2 with ⟨rfl, rfl⟩ | ⟨n2, q2'⟩
      · rfl
      · exact hS.inj _ b2 _ k2 g' o1 o2 hb q2' q3 q4 rfl
      · exact hS.inj b1 _ k1 _ g' o1 o2 q1' hb q3 q4 q5
      · exact hS.inj b1 b2 k1 k2 g' o1 o2 q1' q2' q3 q4 q5
  have hilt : i < args.length := (List.getElem?_eq_some_iff.1 hi).1
  refine (h2.2 w I ρ vs hS2 (by simpa using hs) (VRs_iff.2 fun j c hj => ?_) hf).mono ?_
  · rw [List.getElem?_set] at hj
    split at hj
    · rename_i e
      subst e
      try rw [if_pos hilt] at hj
      simp only [Option.some.injEq] at hj
      subst hj
      refine ⟨x, hx, ?_⟩
      simp only [VR]
      exact ⟨g, o, cap, _, _, sz, a1, a2, ⟨hncap, Nat.le_refl _⟩, fun _ => rfl, a6, hsz, a8⟩
    · exact VRs_at hv hj
  · rintro en w' ⟨v, r, m', I', ρ', q0, q1, q2, q3, q4, q5⟩
    exact ⟨v, r, m', I', ρ', q0, q1, q2, q3, ⟨q4.os, q4.tape, q4.output, q4.size, fun g' h1 h2 => q4.same g' h1 (fun h => h2 ((hwr g').1 h)), q4.shape, q4.imm, fun g' h => (q4.back g' h).imp id (Or.imp (hwr g').1 id), q4.ext, q4.lo, fun g' h => (q4.own g' h).imp (hwr g').1 id, q4.next⟩, q5⟩

theorem run_overlaps_apart2 (w : World) (tS tR e : TypeId) (ht : P.underlying tS = some (.slice e)) (size : Nat) (hz : ∀ w, (Go.sizeOf e).run P w = .ok size w)
    (a b : Addr) (la ca lb cb : Nat) (hne : a.block ≠ b.block) (tA tB : TypeId) (kA kB : Nat)
    (hsa : w.shape? a.block = some (tA, kA)) (hsb : w.shape? b.block = some (tB, kB)) (hkA : kA ≠ 0)
    (hfb : w.frozen? b = false) (hfe : w.frozen? { block := b.block, off := kB } = false) :
    (Extern.SlicesOverlaps.overlaps #[tS, tS] #[tR] #[.slice (some a) la ca, .slice (some b) lb cb]).run P w = .ok (.bool false) w := by
  have hnb : (a.block != b.block) = true := by simpa using hne
  have hnb' : (a.block == b.block) = false := by simpa using hne
  change Sem.run P (α := Value) (do
    let some t := (#[tS, tS] : Array TypeId)[0]? | stuck "slices.overlaps: no parameter types"
    let .slice elem ← underlying t | stuck "slices.overlaps: slice type expected"
    let size ← sizeOf elem
    match (some a : Option Addr), (some b : Option Addr) with
    | some a, some b =>
      if la = 0 ∨ lb = 0 ∨ size = 0 then pure (Value.bool false)
      else if a.block != b.block && (← frozen a) && (← frozen b) then unsupported .addressObserved
      else do
        if a.block != b.block then do
          noView a; noView b
          if ← mayBeOne a b then return Value.bool ((← choose (.extern "sameAddr.stringBytes" 2)) == 1)
        pure (Value.bool (a.block == b.block && a.off < b.off + lb * size && b.off < a.off + la * size))
    | _, _ => pure (Value.bool false)) w = _
  by_cases h0 : la = 0 ∨ lb = 0 ∨ size = 0
  · simp [run_underlying ht, hz, h0]
  · cases kA with
    | zero => exact absurd rfl hkA
    | succ kA =>
      cases hfa : w.frozen? a <;> cases hfa2 : w.frozen? { block := a.block, off := kA + 1 } <;>
        simp [run_underlying ht, hz, h0, hnb, hnb', frozen, noView, viewAt, mayBeOne, stringish, shape, Sem.run, hsa, hsb, hfb, hfe, hfa, hfa2]
end
end Go.Tw

/- A function's answer frozen: its own rows taken for immutable ones. -/
set_option linter.unusedVariables false
set_option linter.unusedSimpArgs false
namespace Go.Tw
open Go

mutual
/-- the answer's rows taken for immutable ones, to a depth -/
def fzV (P : Program) (rows : List (TypeId × List AV)) : Nat → AV → AV
  | 0, .sl b off n c f => .tree n c ((rows.getD b (0, [])).2.drop off) f
  | d + 1, .sl b off n c f => .tree n c ((if kindT P (rows.getD b (0, [])).1 = .flat then (rows.getD b (0, [])).2 else fzVs P rows d (rows.getD b (0, [])).2).drop off) f
  | d, .agg cs => .agg (fzVs P rows d cs)
  | d, .tup cs => .tup (fzVs P rows d cs)
  | _, .val v => .val v
  | _, .tree a b c d => .tree a b c d
  | _, .tptr a b => .tptr a b
  | _, .emp a b => .emp a b
  | _, .ptr a b => .ptr a b
  | _, .clo f cs => .clo f cs
  termination_by d v => (d, SizeOf.sizeOf v)
def fzVs (P : Program) (rows : List (TypeId × List AV)) : Nat → List AV → List AV
  | _, [] => []
  | d, c :: cs => fzV P rows d c :: fzVs P rows d cs
  termination_by d v => (d, SizeOf.sizeOf v)
end
mutual
def fzOk (P : Program) (rows : List (TypeId × List AV)) : Nat → AV → Bool
  | _, .val _ => true
  | _, .tree .. => true
  | _, .tptr .. => true
  | _, .emp .. => true
  | 0, .sl b _ _ _ _ => decide (kindT P (rows.getD b (0, [])).1 = .flat)
  | d + 1, .sl b _ _ _ _ => decide (kindT P (rows.getD b (0, [])).1 = .flat) || fzOks P rows d (rows.getD b (0, [])).2
  | d, .agg cs => fzOks P rows d cs
  | d, .tup cs => fzOks P rows d cs
  | _, _ => false
  termination_by d v => (d, SizeOf.sizeOf v)
def fzOks (P : Program) (rows : List (TypeId × List AV)) : Nat → List AV → Bool
  | _, [] => true
  | d, c :: cs => fzOk P rows d c && fzOks P rows d cs
  termination_by d v => (d, SizeOf.sizeOf v)
end
section
variable {P : Program} {w : World} {I : Nat → Prop} {ρ : Real} {rows : List (TypeId × List AV)}
theorem fzVs_len (d : Nat) : ∀ cs : List AV, (fzVs P rows d cs).length = cs.length
  | [] => by unfold fzVs; rfl
  | c :: cs => by unfold fzVs; simp [fzVs_len d cs]
theorem fzV_one (d : Nat) (v : AV) : oneA (fzV P rows d v) = oneA v := by
  cases v <;> (cases d <;> (unfold fzV; rfl))
theorem fzVs_one (d : Nat) : ∀ (cs : List AV), AllOne cs → AllOne (fzVs P rows d cs)
  | [], h => by unfold fzVs; exact h
  | c :: cs, h => fun x hx => by
    unfold fzVs at hx
    rcases List.mem_cons.1 hx with rfl | hx
    · rw [fzV_one]; exact h c (by simp)
    · exact fzVs_one d cs (fun y hy => h y (by simp [hy])) x hx
def rowG (ρ : Real) (g : Nat) : Prop := ∃ b o, ρ b = some (g, o)
theorem row_at (hS : SR P w I ρ (pushAll P Mem.empty rows)) (hk : ∀ b x, ρ b = some x → b < rows.length) {b g o : Nat} (hg : ρ b = some (g, o)) : ∃ r, rows.getD b (0, []) = r ∧ BR P w I ρ ⟨r.2, r.1, kindT P r.1, true⟩ g o := by
  have hb := hk b _ hg
  have hat : (pushAll P Mem.empty rows).at_ b = some (rowB P 0 rows[b]) := by
    rw [pushAll_at, if_pos (by simp [Mem.empty]; exact hb)]
    simp [Mem.empty, List.getElem?_eq_getElem hb]
  have hB := hS.blk b _ g o hat hg
  rw [rowB_zero] at hB
  exact ⟨rows[b], by simp [List.getD_eq_getElem?_getD, List.getElem?_eq_getElem hb], hB⟩
theorem keeps_or : Keeps w w I (fun g => I g ∨ rowG ρ g) := ⟨fun _ h => .inl h, fun _ _ => rfl, fun _ _ h => h⟩
theorem fz_flat {r : TypeId × List AV} {g o off : Nat} (hB : BR P w I ρ ⟨r.2, r.1, kindT P r.1, true⟩ g o) (hf : kindT P r.1 = .flat) : VRs P w (fun g => I g ∨ rowG ρ g) noneR (r.2.drop off) (fun j => w.cell? ⟨g, o + off + j, none⟩) := by
  have h3 := VRs_drop (BR.flatAt hB hf) off
  exact VRs_congr (VRs_keep keeps_or (fun _ _ h => h) _ _ h3) fun j _ => by rw [Nat.add_assoc]
mutual
theorem fzV_VR (hS : SR P w I ρ (pushAll P Mem.empty rows)) (hk : ∀ b x, ρ b = some x → b < rows.length) : ∀ (d : Nat) (av : AV) (v : Value), fzOk P rows d av = true → VR P w I ρ av v → VR P w (fun g => I g ∨ rowG ρ g) noneR (fzV P rows d av) v
  | d, .val x, v, _, hv => by unfold fzV; simpa only [VR] using hv
  | d, .tree n c cs f, v, _, hv => by
    rw [show fzV P rows d (.tree n c cs f) = .tree n c cs f by cases d <;> (unfold fzV; rfl)]
    exact VR_keep keeps_or (fun _ _ h => h) _ _ (noRef_VR (.tree n c cs f) v rfl hv)
  | d, .tptr o cs, v, _, hv => by
    rw [show fzV P rows d (.tptr o cs) = .tptr o cs by cases d <;> (unfold fzV; rfl)]
    exact VR_keep keeps_or (fun _ _ h => h) _ _ (noRef_VR (.tptr o cs) v rfl hv)
  | d, .emp _ _, v, _, hv => by unfold fzV; simpa only [VR] using hv
  | d, .agg cs, v, h, hv => by
    unfold fzOk at h
    unfold fzV
    simp only [VR] at hv ⊢
    obtain ⟨vs, h1, h2, h3, h4⟩ := hv
    exact ⟨vs, h1, by rw [h2, fzVs_len], fzVs_one d cs h3, fzVs_VR hS hk d cs _ h h4⟩
  | d, .tup cs, v, h, hv => by
    unfold fzOk at h
    unfold fzV
    simp only [VR] at hv ⊢
    obtain ⟨vs, h1, h2, h4⟩ := hv
    exact ⟨vs, h1, by rw [h2, fzVs_len], fzVs_VR hS hk d cs _ h h4⟩
  | 0, .sl b off n c f, v, h, hv => by
    unfold fzOk at h
    unfold fzV
    simp only [VR] at hv ⊢
    obtain ⟨g, o, cap, ty, n', s, hg, rfl, h1, h2, _⟩ := hv
    obtain ⟨r, hr, hB⟩ := row_at hS hk hg
    rw [hr] at h ⊢
    exact ⟨g, o + off, cap, rfl, .inr ⟨b, o, hg⟩, h1, h2, AllOne_drop hB.one _, fz_flat hB (of_decide_eq_true h)⟩
  | d + 1, .sl b off n c f, v, h, hv => by
    unfold fzOk at h
    unfold fzV
    simp only [VR] at hv ⊢
    obtain ⟨g, o, cap, ty, n', s, hg, rfl, h1, h2, _⟩ := hv
    obtain ⟨r, hr, hB⟩ := row_at hS hk hg
    rw [hr] at h ⊢
    by_cases hf : kindT P r.1 = .flat
    · rw [if_pos hf]
      exact ⟨g, o + off, cap, rfl, .inr ⟨b, o, hg⟩, h1, h2, AllOne_drop hB.one _, fz_flat hB hf⟩
    · rw [if_neg hf]
      rw [decide_eq_false hf, Bool.false_or] at h
      refine ⟨g, o + off, cap, rfl, .inr ⟨b, o, hg⟩, h1, h2, AllOne_drop (fzVs_one d _ hB.one) _, ?_⟩
      have h3 := VRs_drop (fzVs_VR hS hk d r.2 _ h hB.cellsAt) off
      exact VRs_congr h3 fun j _ => by rw [Nat.add_assoc]
  | d, .ptr _ _, v, h, hv => by unfold fzOk at h; cases h
  | d, .clo _ _, v, h, hv => by unfold fzOk at h; cases h
  termination_by d av => (d, SizeOf.sizeOf av)
theorem fzVs_VR (hS : SR P w I ρ (pushAll P Mem.empty rows)) (hk : ∀ b x, ρ b = some x → b < rows.length) : ∀ (d : Nat) (cs : List AV) (get : Nat → Option Value), fzOks P rows d cs = true → VRs P w I ρ cs get → VRs P w (fun g => I g ∨ rowG ρ g) noneR (fzVs P rows d cs) get
  | d, [], get, _, hv => by unfold fzVs; simp only [VRs]
  | d, c :: cs, get, h, hv => by
    unfold fzOks at h
    simp only [Bool.and_eq_true] at h
    unfold fzVs
    simp only [VRs] at hv ⊢
    obtain ⟨⟨v, h1, h2⟩, h3⟩ := hv
    exact ⟨⟨v, h1, fzV_VR hS hk d c v h.1 h2⟩, fzVs_VR hS hk d cs _ h.2 h3⟩
  termination_by d cs => (d, SizeOf.sizeOf cs)
end
/-- what a function answers may be taken for immutable -/
theorem fspec_frozen {f : FuncId} {args : List AV} {r : Res} (d : Nat) (h : FSpec P f args r) (ho : fzOk P r.rows d r.v = true) : FSpec P f args ⟨fzV P r.rows d r.v, []⟩ := ⟨h.1, fun w I vs hI hsz hv => (h.2 w I vs hI hsz hv).mono fun en w' => by
  rintro ⟨v, I', ρ', rfl, q1, q2, q3⟩
  have hnoWr : ∀ g, ¬ Wr noneR Mem.empty g := by
    rintro g (⟨b, k, o, h1, _⟩ | h1)
    · simp [Mem.empty] at h1
    · exact empty_has h1
  have hk : ∀ b x, ρ' b = some x → b < r.rows.length := fun b x h => by
    have := q3.lo b rfl (by rw [h]; simp)
    rw [pushAll_next] at this
    simp [Mem.empty] at this
    exact this
  have hat : ∀ b x, ρ' b = some x → ∃ k, (pushAll P Mem.empty r.rows).at_ b = some k ∧ k.wr = true := fun b x h => by
    have hb := hk b x h
    exact ⟨rowB P 0 r.rows[b], by rw [pushAll_at, if_pos (by simp [Mem.empty]; exact hb)]; simp [Mem.empty, List.getElem?_eq_getElem hb], rfl⟩
  have hnew : ∀ g, rowG ρ' g → w.heap.size ≤ g := by
    rintro g ⟨b, o, hb⟩
    obtain ⟨k, h1, h2⟩ := hat b _ hb
    rcases q3.own g (.inl ⟨b, k, o, h1, h2, hb⟩) with h | h
    · exact absurd h (hnoWr g)
    · exact h
  refine ⟨v, (fun g => I' g ∨ rowG ρ' g), noneR, rfl, fzV_VR q2 hk d r.v v ho q1, ⟨fun b k g o h => by simp [pushAll, pushFrom, Mem.empty] at h, fun b b' k k' g o o' h => by simp [pushAll, pushFrom, Mem.empty] at h, fun g hg => ?_, MRs.none⟩, ⟨q3.os, q3.tape, q3.output, q3.size, q3.same, q3.shape, fun g hg => .inl (q3.imm g hg), fun g hg => ?_, fun _ _ h => h, fun b h1 h2 => absurd h1 h2, fun g hg => ?_, Nat.le_refl _⟩⟩
  · rcases hg with hg | ⟨b, o, hb⟩
    · exact q2.lt g hg
    · obtain ⟨k, h1, h2⟩ := hat b _ hb
      exact q2.ltb h1 hb
  · rcases hg with hg | hg
    · exact q3.back g hg
    · exact .inr (.inr (hnew g hg))
  · rcases hg with ⟨b, k, o, h1, _⟩ | hg
    · simp [pushAll, pushFrom, Mem.empty] at h1
    · exact (empty_has hg).elim⟩
end
/-- a frozen row that grew -/
def treeR (n : Nat) (cells : List AV) : AV := if n = 0 then nilS else .tree n n cells false
theorem treeR_rd (n : Nat) (cells : List AV) : RdSl (treeR n cells) n cells := by
  unfold treeR
  split
  · rename_i h; exact ⟨.inl ⟨rfl, h⟩⟩
  · exact ⟨.inr (.inr ⟨n, false, rfl, Nat.le_refl _⟩)⟩
theorem shift_treeR {k n : Nat} {cells : List AV} : shift k (treeR n cells) = treeR n cells := by
  unfold treeR
  split <;> simp [shift, nilS]
theorem len_treeR {P : Program} {t : TypeId} {n : Nat} {cells : List AV} (h : (elE P t).isSome = true) : lenE P t (treeR n cells) = some (.val (.int .i64 (n : Nat))) := (treeR_rd n cells).len' h
theorem addr_treeR {P : Program} {t : TypeId} {n k : Nat} {cells : List AV} (h : (elE P t).isSome = true) : addrE P t k (treeR n cells) = (elE P t).bind fun el => (szE P el).bind fun sz => if k < n then some (.tptr (k * sz) cells) else none := (treeR_rd n cells).addr' h
theorem plain_treeR {n : Nat} {cells : List AV} : plain (treeR n cells) = true := (treeR_rd n cells).plain
theorem slOk_treeR {P : Program} {m : Mem} {t : TypeId} {n : Nat} {cells : List AV} : slOk P m t (treeR n cells) = true := (treeR_rd n cells).slOk
theorem postFz : (type_of% @shift_treeR) ∧ (type_of% @len_treeR) ∧ (type_of% @addr_treeR) ∧ (type_of% @slOk_treeR) := ⟨@shift_treeR, @len_treeR, @addr_treeR, @slOk_treeR⟩
theorem fz_ownR {P : Program} (el : TypeId) (n : Nat) (cells : List AV) : fzV P (ownR el n cells).rows 0 (ownR el n cells).v = treeR n cells := by
  unfold ownR treeR
  split <;> (unfold fzV; simp [nilS])
theorem fz_ownR_ok {P : Program} {el : TypeId} (hk : kindT P el = .flat) (n : Nat) (cells : List AV) : fzOk P (ownR el n cells).rows 0 (ownR el n cells).v = true := by
  unfold ownR
  split <;> (unfold fzOk; simp [nilS, hk])
end Go.Tw

/- Slices that can be read, be they one's own, frozen or lent: handed to functions. -/
set_option linter.unusedVariables false
set_option linter.unusedSimpArgs false
namespace Go.Tw
open Go

mutual
def fzPlain : AV → Bool
  | .clo _ (_ :: _) => false
  | .agg cs => fzPlains cs
  | _ => true
def fzPlains : List AV → Bool
  | [] => true
  | c :: cs => fzPlain c && fzPlains cs
end
structure Has (m : Mem) (v : AV) (n : Nat) (cells : List AV) : Prop where
  form : RdSl v n cells ∨ ∃ b off c f k, v = .sl b off n c f ∧ m.at_ b = some k ∧ k.kind = .flat ∧ k.cells.drop off = cells ∧ n ≤ c
section
variable {P : Program} {m : Mem} {v : AV} {n : Nat} {cells : List AV}
theorem has_rd (h : RdSl v n cells) : Has m v n cells := ⟨.inl h⟩
theorem has_own {el : TypeId} {sz : Nat} (h : Own m el sz v n cells) : Has m v n cells := by
  rcases h.form with ⟨rfl, rfl, rfl⟩ | ⟨b, rfl, hb, _, _⟩
  · exact ⟨.inl ⟨.inl ⟨rfl, rfl⟩⟩⟩
  · exact ⟨.inr ⟨b, 0, n, false, _, rfl, hb, rfl, rfl, Nat.le_refl _⟩⟩
theorem Has.to {m' : Mem} (h : Has m v n cells) (hm : ∀ b k, m.at_ b = some k → ∃ wr, m'.at_ b = some ⟨k.cells, k.el, k.kind, wr⟩) : Has m' v n cells := by
  rcases h.form with h | ⟨b, off, c, f, k, h1, h2, h3, h4, h5⟩
  · exact ⟨.inl h⟩
  · obtain ⟨wr, h6⟩ := hm b k h2
    exact ⟨.inr ⟨b, off, c, f, _, h1, h6, h3, h4, h5⟩⟩
theorem has_lend (h : Has m v n cells) (k : Nat) : ∃ av, lend k m v = some av ∧ RdSl av n cells := by
  rcases h.form with h | ⟨b, off, c, f, k', rfl, h2, h3, rfl, h5⟩
  · exact ⟨v, (plain_lend k v h.plain).1, h⟩
  · refine ⟨.tree n c (k'.cells.drop off) f, ?_, ⟨.inr (.inr ⟨c, f, rfl, h5⟩)⟩⟩
    cases k <;> (unfold lend; simp [h2, h3])
theorem has_fz (h : Has m v n cells) : ∃ av m1, fz m v = some (av, m1) ∧ RdSl av n cells ∧ m1.next = m.next ∧ ∀ b k, m.at_ b = some k → ∃ wr, m1.at_ b = some ⟨k.cells, k.el, k.kind, wr⟩ := by
  rcases h.form with h | ⟨b, off, c, f, k', rfl, h2, h3, rfl, h5⟩
  · refine ⟨v, m, ?_, h, rfl, fun b k hb => ⟨k.wr, hb⟩⟩
    rcases h.form with ⟨rfl, _⟩ | ⟨_, _, rfl, _⟩ | ⟨_, _, rfl, _⟩ <;> rfl
  · obtain ⟨kc, ke, kk, kw⟩ := k'
    simp only at h3
    subst h3
    refine ⟨.tree n c (kc.drop off) f, m.put b (some ⟨kc, ke, .flat, false⟩), by simp [fz, h2], ⟨.inr (.inr ⟨c, f, rfl, h5⟩)⟩, rfl, fun b' k hb => ?_⟩
    by_cases e : b' = b
    · subst e
      rw [h2] at hb
      cases hb
      exact ⟨false, by simp [Mem.put]⟩
    · exact ⟨k.wr, by simp [Mem.put, e, hb]⟩
mutual
theorem plain_fz : ∀ (v : AV), plain v = true → fzPlain v = true → fz m v = some (v, m)
  | .val v, h, _ => rfl
  | .tree .., h, _ => rfl
  | .tptr .., h, _ => rfl
  | .emp .., h, _ => rfl
  | .agg cs, h, h2 => by
    simp only [plain] at h
    simp only [fzPlain] at h2
    simp [fz, plains_fz cs h h2]
  | .clo _ [], h, _ => rfl
  | .clo _ (_ :: _), h, h2 => by simp [fzPlain] at h2
  | .tup _, h, _ => by simp [plain] at h
  | .sl .., h, _ => by simp [plain] at h
  | .ptr .., h, _ => by simp [plain] at h
theorem plains_fz : ∀ (v : List AV), plains v = true → fzPlains v = true → fzs m v = some (v, m)
  | [], h, _ => rfl
  | c :: cs, h, h2 => by
    simp only [plains, Bool.and_eq_true] at h
    simp only [fzPlains, Bool.and_eq_true] at h2
    simp [fzs, plain_fz c h.1 h2.1, plains_fz cs h.2 h2.2]
end
theorem lend1 {a : AV} (h : Has m a n cells) : ∃ av, lends 3 m [a] = some [av] ∧ RdSl av n cells := by
  obtain ⟨av, h1, h2⟩ := has_lend h 3
  refine ⟨av, ?_, h2⟩
  unfold lends
  rw [h1]
  unfold lends
  rfl
theorem lend2 {a : AV} (ha : plain a = true) (h : Has m v n cells) : ∃ av, lends 3 m [a, v] = some [a, av] ∧ RdSl av n cells := by
  obtain ⟨av, h1, h2⟩ := lend1 h
  refine ⟨av, ?_, h2⟩
  unfold lends
  rw [(plain_lend 3 a ha).1, h1]
  rfl
theorem lend3 {a b : AV} (ha : plain a = true) (h : Has m v n cells) (hb : plain b = true) : ∃ av, lends 3 m [a, v, b] = some [a, av, b] ∧ RdSl av n cells := by
  obtain ⟨av, h1, h2⟩ := has_lend h 3
  refine ⟨av, ?_, h2⟩
  unfold lends
  rw [(plain_lend 3 a ha).1]
  unfold lends
  rw [h1]
  unfold lends
  rw [(plain_lend 3 b hb).1]
  unfold lends
  rfl
theorem lend22 {v' : AV} {n' : Nat} {cells' : List AV} (h : Has m v n cells) (h' : Has m v' n' cells') : ∃ av av', lends 3 m [v, v'] = some [av, av'] ∧ RdSl av n cells ∧ RdSl av' n' cells' := by
  obtain ⟨av, h1, h2⟩ := has_lend h 3
  obtain ⟨av', h3, h4⟩ := lend1 h'
  refine ⟨av, av', ?_, h2, h4⟩
  unfold lends
  rw [h1, h3]
  rfl
theorem fz2 {a : AV} (ha : plain a = true) (ha2 : fzPlain a = true) (h : Has m v n cells) : ∃ av m1, fzs m [a, v] = some ([a, av], m1) ∧ RdSl av n cells ∧ m1.next = m.next ∧ ∀ b k, m.at_ b = some k → ∃ wr, m1.at_ b = some ⟨k.cells, k.el, k.kind, wr⟩ := by
  obtain ⟨av, m1, h1, h2, h3, h4⟩ := has_fz h
  exact ⟨av, m1, by simp [fzs, plain_fz a ha ha2, h1], h2, h3, h4⟩
theorem Has.len (h : Has m v n cells) {t : TypeId} (ht : (elE P t).isSome = true) : lenE P t v = some (.val (.int .i64 (n : Nat))) := by
  rcases h.form with h | ⟨b, off, c, f, k, rfl, _⟩
  · exact h.len' ht
  · obtain ⟨el, hel⟩ := Option.isSome_iff_exists.1 ht
    simp [lenE, hel, slLen, intV]
end
end Go.Tw

/- Slices of one's own that grow, beside other blocks that stay. -/
set_option linter.unusedVariables false
set_option linter.unusedSimpArgs false
namespace Go.Tw
open Go

/-- the block that a slice of one's own lies in -/
def blkOf : AV → Option Nat
  | .sl b _ _ _ _ => some b
  | _ => none
theorem rd_shift {v : AV} {n : Nat} {cs : List AV} (h : RdSl v n cs) (k : Nat) : shift k v = v := by
  rcases h.form with ⟨rfl, _⟩ | ⟨_, _, rfl, _⟩ | ⟨_, _, rfl, _⟩ <;> (try unfold nilS) <;> (unfold shift; rfl)
theorem OwnK.keep {kd : Kind} {m m' : Mem} {el : TypeId} {sz n : Nat} {v : AV} {cells : List AV} (h : OwnK kd m el sz v n cells) (h1 : m.next ≤ m'.next) (h2 : ∀ b k, blkOf v = some b → m.at_ b = some k → m'.at_ b = some k) : OwnK kd m' el sz v n cells := by
  refine ⟨?_, h.len⟩
  rcases h.form with h1 | ⟨b, rfl, h3, h4, h5⟩
  · exact .inl h1
  · exact .inr ⟨b, rfl, h2 b _ rfl h3, by omega, h5⟩
/-- a block of another kind is written -/
theorem OwnK.put_kind {kd : Kind} {m : Mem} {el : TypeId} {sz n : Nat} {v : AV} {cells : List AV} (h : OwnK kd m el sz v n cells) {j : Nat} {k : Blk} {x : Option Blk} (hj : m.at_ j = some k) (hk : k.kind ≠ kd) : OwnK kd (m.put j x) el sz v n cells := by
  refine ⟨?_, h.len⟩
  rcases h.form with h1 | ⟨b, rfl, h3, h4, h5⟩
  · exact .inl h1
  · refine .inr ⟨b, rfl, ?_, h4, h5⟩
    rw [put_at, if_neg ?_]
    · exact h3
    · rintro rfl
      rw [h3] at hj
      cases hj
      exact hk rfl
theorem OwnK.ne_kind {kd : Kind} {m : Mem} {el : TypeId} {sz n : Nat} {v : AV} {cells : List AV} (h : OwnK kd m el sz v n cells) {j : Nat} {k : Blk} (hj : m.at_ j = some k) (hk : k.kind ≠ kd) : blkOf v ≠ some j := by
  intro hb
  rcases h.form with ⟨rfl, _⟩ | ⟨b, rfl, h3, _⟩
  · cases hb
  · injection hb with hb
    subst hb
    rw [h3] at hj
    cases hj
    exact hk rfl
theorem OwnK.sl {kd : Kind} {m : Mem} {el : TypeId} {sz n : Nat} {v : AV} {cells : List AV} (h : OwnK kd m el sz v n cells) (hn : 0 < n) : ∃ b, v = .sl b 0 n n false ∧ m.at_ b = some ⟨cells, el, kd, true⟩ ∧ b < m.next := by
  rcases h.form with ⟨_, h0, _⟩ | ⟨b, h1, h2, h3, _⟩
  · omega
  · exact ⟨b, h1, h2, h3⟩
theorem OwnK.put_ne {kd : Kind} {m : Mem} {el : TypeId} {sz n : Nat} {v : AV} {cells : List AV} (h : OwnK kd m el sz v n cells) {j : Nat} {x : Option Blk} (hj : blkOf v ≠ some j) : OwnK kd (m.put j x) el sz v n cells := by
  refine h.keep (Nat.le_refl _) fun b k hb hk => ?_
  rw [put_at, if_neg (by rintro rfl; exact hj hb)]
  exact hk

theorem OwnK.one {kd : Kind} {m : Mem} {el : TypeId} {sz n : Nat} {v : AV} {cells : List AV} (h : OwnK kd m el sz v n cells) : oneA v = true := by
  rcases h.form with ⟨rfl, _⟩ | ⟨b, rfl, _⟩ <;> rfl
theorem OwnK.ok {kd : Kind} {m : Mem} {el : TypeId} {sz n : Nat} {v : AV} {cells : List AV} (h : OwnK kd m el sz v n cells) : okA v = true := by
  rcases h.form with ⟨rfl, _⟩ | ⟨b, rfl, _⟩ <;> rfl
theorem OwnK.cells {kd : Kind} {m : Mem} {el : TypeId} {sz n : Nat} {v : AV} {cells : List AV} (h : OwnK kd m el sz v n cells) : v.cells = [v] := by
  rcases h.form with ⟨rfl, _⟩ | ⟨b, rfl, _⟩ <;> rfl
/-- append to a slice of one's own: all other blocks stay -/
theorem app_keepM {P : Program} {kd : Kind} {el : TypeId} {m : Mem} {v x : AV} {K : Out → Prop} {sz y n cnt : Nat} {zl : List Value} {cells new : List AV} (hkd : kindT P el = kd) (ho : OwnK kd m el sz v n cells) (h1 : szE P el = some sz) (h2 : byE P el = some y) (h3 : zeroE P el = some zl) (h4 : zl.length = sz) (h5 : srcE P el sz m x = some (new, cnt)) (h6 : new.length = cnt * sz) (h7 : (n + cnt) * y ≤ 140737488355328) (h8 : n + cnt ≤ 140737488355328)
    (hK : ∀ v' m', OwnK kd m' el sz v' (n + cnt) (cells ++ new) → m.next ≤ m'.next → (∀ j k, m.at_ j = some k → j < m.next → blkOf v ≠ some j → m'.at_ j = some k) → (∀ j, blkOf v' = some j → j = m.next ∨ blkOf v = some j) → m'.mm = m.mm → K ⟨v', m', none⟩) : outW (appE P el m v x) K := by
  have hlen := ho.len
  rcases ho.form with ⟨rfl, rfl, rfl⟩ | ⟨b, rfl, hb, hlt, hn0⟩
  · by_cases hc : cnt = 0
    · subst hc
      have hn : new = [] := List.eq_nil_of_length_eq_zero (by omega)
      subst hn
      have : appE P el m nilS x = some ⟨nilS, m, none⟩ := by simp [appE, h1, h2, h3, h5, slView, nilS, hkd, h4, outV]
      rw [this]
      exact hK _ _ own_nil (Nat.le_refl _) (fun _ _ h _ _ => h) (fun _ h => .inr h) rfl
    · have : appE P el m nilS x = some ⟨.sl m.next 0 (0 + cnt) (0 + cnt) false, m.push ⟨new, el, kd, true⟩, none⟩ := by
        simp only [appE, h1, h2, h3, h5, slView, nilS, hkd, Option.bind_some, h7, h8, h4, and_self, if_true, if_neg hc]
        simp [outV]
      rw [this]
      exact hK _ _ ⟨.inr ⟨m.next, rfl, by rw [push_at, if_pos rfl]; rfl, by rw [push_next]; omega, by omega⟩, by simp [h6]⟩ (by rw [push_next]; omega) (fun j k h hj _ => by rw [push_at, if_neg (by omega)]; exact h) (fun j h => .inl (by injection h with h; exact h.symm)) rfl
  · have : appE P el m (.sl b 0 n n false) x = some ⟨.sl m.next 0 (n + cnt) (n + cnt) false, (m.put b none).push ⟨cells ++ new, el, kd, true⟩, none⟩ := by
      simp only [appE, h1, h2, h3, h5, slView, hb, hkd, Option.bind_some, h7, h8, h4, and_self, if_true]
      simp [outV, hlen, tight]
    rw [this]
    refine hK _ _ ⟨.inr ⟨m.next, rfl, by rw [push_at, put_next, if_pos rfl], by rw [push_next, put_next]; omega, by omega⟩, by simp [hlen, h6, Nat.add_mul]⟩ (by rw [push_next, put_next]; omega) (fun j k h hj hne => ?_) (fun j h => .inl (by injection h with h; exact h.symm)) rfl
    rw [push_at, put_next, if_neg (by omega), put_at, if_neg (by rintro rfl; exact hne rfl)]
    exact h
/-- append to a slice of one's own: all other blocks stay -/
theorem app_keep {P : Program} {kd : Kind} {el : TypeId} {m : Mem} {v x : AV} {K : Out → Prop} {sz y n cnt : Nat} {zl : List Value} {cells new : List AV} (hkd : kindT P el = kd) (ho : OwnK kd m el sz v n cells) (h1 : szE P el = some sz) (h2 : byE P el = some y) (h3 : zeroE P el = some zl) (h4 : zl.length = sz) (h5 : srcE P el sz m x = some (new, cnt)) (h6 : new.length = cnt * sz) (h7 : (n + cnt) * y ≤ 140737488355328) (h8 : n + cnt ≤ 140737488355328)
    (hK : ∀ v' m', OwnK kd m' el sz v' (n + cnt) (cells ++ new) → m.next ≤ m'.next → (∀ j k, m.at_ j = some k → j < m.next → blkOf v ≠ some j → m'.at_ j = some k) → (∀ j, blkOf v' = some j → j = m.next ∨ blkOf v = some j) → K ⟨v', m', none⟩) : outW (appE P el m v x) K := app_keepM hkd ho h1 h2 h3 h4 h5 h6 h7 h8 fun v' m' a b c d _ => hK v' m' a b c d
/-- append to an empty slice without room -/
theorem app_none {P : Program} {kd : Kind} {el : TypeId} {m : Mem} {x : AV} {sz y cnt : Nat} {zl : List Value} {new : List AV} (hkd : kindT P el = kd) (h1 : szE P el = some sz) (h2 : byE P el = some y) (h3 : zeroE P el = some zl) (h4 : zl.length = sz) (h5 : srcE P el sz m x = some (new, cnt)) (h7 : cnt * y ≤ 140737488355328) (h8 : cnt ≤ 140737488355328) (hc : 0 < cnt) :
    appE P el m (.tree 0 0 [] true) x = some ⟨.sl m.next 0 cnt cnt false, m.push ⟨new, el, kd, true⟩, none⟩ := by
  simp only [appE, h1, h2, h3, h5, slView, hkd, Option.bind_some]
  simp [outV, h4, h7, h8, Nat.ne_of_gt hc]
/-- a slice of one's own is frozen -/
theorem own_fz {m : Mem} {el : TypeId} {sz n : Nat} {v : AV} {cells : List AV} (h : Own m el sz v n cells) : ∃ m1, fz m v = some (treeR n cells, m1) ∧ m1.next = m.next ∧ ∀ j, blkOf v ≠ some j → m1.at_ j = m.at_ j := by
  rcases h.form with ⟨rfl, rfl, rfl⟩ | ⟨b, rfl, hb, hlt, hn⟩
  · exact ⟨m, rfl, rfl, fun _ _ => rfl⟩
  · refine ⟨m.put b (some ⟨cells, el, .flat, false⟩), ?_, rfl, fun j hj => ?_⟩
    · unfold fz
      simp [hb, treeR, Nat.ne_of_gt hn]
    · rw [put_at, if_neg (by rintro rfl; exact hj rfl)]
/-- what stands in another kind of row stays while one grows -/
theorem OwnK.other {kd kd' : Kind} {m m' : Mem} {el el' : TypeId} {sz sz' n n' : Nat} {v v' : AV} {cells cells' : List AV} (h : OwnK kd m el sz v n cells) (ho : OwnK kd' m el' sz' v' n' cells') (hk : kd ≠ kd') (hn : m.next ≤ m'.next) (hkeep : ∀ j k, m.at_ j = some k → j < m.next → blkOf v' ≠ some j → m'.at_ j = some k) : OwnK kd m' el sz v n cells := by
  refine ⟨?_, h.len⟩
  rcases h.form with h1 | ⟨b, rfl, h3, h4, h5⟩
  · exact .inl h1
  · exact .inr ⟨b, rfl, hkeep b _ h3 h4 (ho.ne_kind h3 hk), by omega, h5⟩
/-- values that an answer bears as they are -/
def Still (P : Program) (c : AV) : Prop := ∀ (m : Mem) (k : Nat) (ids : List (Nat × Nat)) (rows : List (TypeId × List AV)), canon P m k ids rows c = some (c, ids, rows)
theorem still_val {P : Program} (v : Value) : Still P (.val v) := fun m k ids rows => by cases k <;> (unfold canon; rfl)
theorem still_tree {P : Program} (n c : Nat) (cs : List AV) (f : Bool) : Still P (.tree n c cs f) := fun m k ids rows => by cases k <;> (unfold canon; rfl)
theorem still_treeR {P : Program} (n : Nat) (cs : List AV) : Still P (treeR n cs) := by
  unfold treeR
  split
  · exact still_val _
  · exact still_tree _ _ _ _
theorem still_all {P : Program} (m : Mem) (k : Nat) (ids : List (Nat × Nat)) (rows : List (TypeId × List AV)) : ∀ (cs : List AV), (∀ c ∈ cs, Still P c) → canons P m k ids rows cs = some (cs, ids, rows)
  | [], _ => by cases k <;> (unfold canons; rfl)
  | c :: cs, h => by
    have h1 := h c (by simp) m k ids rows
    have h2 := still_all m k ids rows cs fun x hx => h x (by simp [hx])
    cases k <;> (unfold canons; simp [h1, h2])
theorem own_canonV {P : Program} {m : Mem} {el : TypeId} {sz n : Nat} {v : AV} {cells : List AV} (hkd : kindT P el = .var) (h : OwnK .var m el sz v n cells) (hs : ∀ c ∈ cells, Still P c) : ∃ ids, canon P m 3 [] [] v = some ((ownR el n cells).v, ids, (ownR el n cells).rows) := by
  rcases h.form with ⟨rfl, rfl, rfl⟩ | ⟨b, rfl, hb, hlt, hn⟩
  · exact ⟨[], by unfold nilS canon; rfl⟩
  · refine ⟨[(b, 0)], ?_⟩
    have h1 := still_all m 2 [] [] cells hs
    unfold canon
    simp [hb, ownR, Nat.ne_of_gt hn, hkd, h1]
/-- a row of one pair, its slice frozen then -/
theorem build_fz1 {P : Program} {m : Mem} {t el el' : TypeId} {sz n : Nat} {x : Value} {v : AV} {cells : List AV} {z : List Value} (h : Own m el' sz v n cells) (hx : oneV x = true) (h1 : elE P t = some el) (h2 : szE P el = some 2) (h3 : zeroE P el = some z) (h4 : z.length = 2) : ∃ m1, buildX P false true m t 1 [(0, .agg [.val x, v])] = some ⟨.tree 1 1 [.val x, treeR n cells] true, m1, none⟩ ∧ m1.next = m.next ∧ ∀ j, blkOf v ≠ some j → m1.at_ j = m.at_ j := by
  match z, h4 with
  | [z1, z2], _ =>
  rcases h.form with ⟨rfl, rfl, rfl⟩ | ⟨b, rfl, hb, hlt, hn⟩
  · refine ⟨m, ?_, rfl, fun _ _ => rfl⟩
    have : buildTreeE P m t 1 [(0, .agg [.val x, nilS])] = some ⟨.tree 1 1 [.val x, nilS] true, m, none⟩ := by
      simp [buildTreeE, h1, h2, h3, zerosE, List.range_succ, fillE, okA, hx, oneA, splice, AV.cells, hasRefs, hasRef, outV, nilS, oneV]
    rw [buildX_tn (by rw [this]; rfl), this]
    rfl
  · refine ⟨m.put b (some ⟨cells, el', .flat, false⟩), ?_, rfl, fun j hj => ?_⟩
    · have : buildTreeE P m t 1 [(0, .agg [.val x, .sl b 0 n n false])] = none := by
        simp [buildTreeE, h1, h2, h3, zerosE, List.range_succ, fillE, okA, hx, oneA, splice, AV.cells, hasRefs, hasRef]
      rw [buildX_fz this]
      simp [buildFzE, h1, h2, h3, zerosE, List.range_succ, fillE, okA, hx, oneA, splice, AV.cells, fzs, fz, hb, outV, treeR, Nat.ne_of_gt hn]
    · rw [put_at, if_neg (by rintro rfl; exact hj rfl)]
theorem OwnK.setM {kd : Kind} {m : Mem} {el : TypeId} {sz n : Nat} {v : AV} {cells : List AV} (h : OwnK kd m el sz v n cells) (mm : Maps) : OwnK kd (m.setM mm) el sz v n cells := ⟨h.form, h.len⟩
/-- a row of one pair with a slice of one's own -/
theorem build_var1 {P : Program} {m : Mem} {t el : TypeId} {a : Value} {x : AV} {z : List Value} (hk : kindT P el = .var) (ha : oneV a = true) (hx : oneA x = true) (hx2 : x.cells = [x]) (h1 : elE P t = some el) (h2 : szE P el = some 2) (h3 : zeroE P el = some z) (h4 : z.length = 2) : buildSliceE P m t 1 [(0, .agg [.val a, x])] = some ⟨.sl m.next 0 1 1 true, m.push ⟨[.val a, x], el, .var, true⟩, none⟩ := by
  match z, h4 with
  | [z1, z2], _ =>
    simp [buildSliceE, hk, h1, h2, h3, zerosE, List.range_succ, fillE, okA, oneA, splice, AV.cells, outV]
section
variable {P : Program} {t : TypeId} {k off b : Nat} {cs : List AV}
theorem addr_arr (h : elE P t = none) : addrE P t k (.tptr off cs) = (arrE P t).bind fun a => (szE P a.2).bind fun sz => if k < a.1 then some (.tptr (off + k * sz) cs) else none := by simp [addrE, h]
theorem addr_arrp (h : elE P t = none) : addrE P t k (.ptr b off) = (arrE P t).bind fun a => (szE P a.2).bind fun sz => if k < a.1 then some (.ptr b (off + k * sz)) else none := by simp [addrE, h]
theorem addr_slp {n c : Nat} {f : Bool} (h : (elE P t).isSome = true) : addrE P t k (.sl b off n c f) = (elE P t).bind fun el => (szE P el).bind fun sz => if k < n then some (.ptr b (off + k * sz)) else none := by
  obtain ⟨el, hel⟩ := Option.isSome_iff_exists.1 h
  simp [addrE, hel]
theorem index_arr : indexE P t k (.agg cs) = (arrE P t).bind fun a => (szE P a.2).bind fun sz => if k < a.1 then partE P a.2 cs (k * sz) else none := rfl
theorem slOk_arr {m : Mem} : slOk P m t (.tptr off cs) = true := rfl
/-- all of an array that nobody writes -/
theorem slice_arr (h : elE P t = none) (h2 : (arrE P t).any (fun a => decide (0 < a.1)) = true) (h3 : ((arrE P t).bind fun a => szE P a.2).isSome = true) : sliceE P t none none none (.tptr off cs) = (arrE P t).bind fun a => some (.tree a.1 a.1 (cs.drop off) true) := by
  cases ha : arrE P t with
  | none => rw [ha] at h2; simp at h2
  | some a =>
    rw [ha] at h2 h3
    simp only [Option.any_some, decide_eq_true_eq, Option.bind_some] at h2 h3
    obtain ⟨sz, hsz⟩ := Option.isSome_iff_exists.1 h3
    have h0 : ¬ 0 = a.1 := by omega
    simp [sliceE, h, ha, hsz, h2, cutE, h0]
theorem postA : (type_of% @addr_arr) ∧ (type_of% @addr_arrp) ∧ (type_of% @index_arr) ∧ (type_of% @addr_slp) := ⟨@addr_arr, @addr_arrp, @index_arr, @addr_slp⟩
end
end Go.Tw
