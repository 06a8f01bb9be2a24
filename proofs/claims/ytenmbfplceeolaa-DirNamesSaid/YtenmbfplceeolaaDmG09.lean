import Derived.Test.YtenmbfplceeolaaDmG08
import Derived.Lib.Overlaps
/- What a value and the memory may be taken for: rows given up, moved, cut to what is known; a row's spare cells told. -/
set_option linter.unusedVariables false
set_option linter.unusedSimpArgs false
namespace Go.Tw
open Go

/-- memory m and value v may be taken for m' and v' -/
structure Gets (P : Program) (m : Mem) (v : AV) (m' : Mem) (v' : AV) : Prop where
  next : m.next ≤ m'.next
  to : ∀ (w : World) (I : Nat → Prop) (ρ : Real) (x : Value), SR P w I ρ m → VR P w I ρ v x → (∀ b, m.next ≤ b → ρ b = none) → ∃ ρ', SR P w I ρ' m' ∧ VR P w I ρ' v' x ∧ Step w I ρ m w I ρ' m' ∧ ∀ b, m'.next ≤ b → ρ' b = none

section
variable {P : Program} {m m' m'' : Mem} {v v' v'' : AV}
theorem Gets.refl (m : Mem) (v : AV) : Gets P m v m v := ⟨Nat.le_refl _, fun w I ρ x hS hv hf => ⟨ρ, hS, hv, Step.refl _ _ _ _, hf⟩⟩
theorem Gets.trans (h : Gets P m v m' v') (h' : Gets P m' v' m'' v'') : Gets P m v m'' v'' := ⟨Nat.le_trans h.next h'.next, fun w I ρ x hS hv hf => by
  obtain ⟨ρ1, a1, a2, a3, a4⟩ := h.to w I ρ x hS hv hf
  obtain ⟨ρ2, b1, b2, b3, b4⟩ := h'.to w I ρ1 x a1 a2 a4
  exact ⟨ρ2, b1, b2, a3.trans b3, b4⟩⟩
theorem gets_drop (m : Mem) (v : AV) (b : Nat) : Gets P m v (m.put b none) v := ⟨Nat.le_refl _, fun w I ρ x hS hv hf => by
  obtain ⟨a1, a2⟩ := SR_drop hS b
  exact ⟨ρ, a1, hv, a2, hf⟩⟩
theorem gets_cut {b off n c c' j : Nat} {f : Bool} {cells : List AV} {el : TypeId} (hb : m.at_ b = some ⟨cells, el, .flat, true⟩) (h1 : n ≤ c') (h2 : c' ≤ c) : Gets P m (.sl b off n c f) (m.put b (some ⟨cells.take j, el, .flat, true⟩)) (.sl b off n c' false) := ⟨Nat.le_refl _, fun w I ρ x hS hv hf => by
  have hold : ∀ b' k', (m.put b (some ⟨cells.take j, el, .flat, true⟩)).at_ b' = some k' → ∃ k, m.at_ b' = some k ∧ k'.wr = k.wr ∧ k'.el = k.el ∧ k'.kind = k.kind ∧ ∃ i, k'.cells = k.cells.take i := fun b' k' h => by
    by_cases e : b' = b
    · subst e
      simp [Mem.put] at h
      subst h
      exact ⟨_, hb, rfl, rfl, rfl, j, rfl⟩
    · simp [Mem.put, e] at h
      exact ⟨k', h, rfl, rfl, rfl, k'.cells.length, by simp⟩
  refine ⟨ρ, ⟨fun b' k' g o q1 q2 => ?_, fun b1 b2 k1 k2 g o1 o2 q1 q2 q3 q4 q5 => ?_, hS.lt⟩, ?_, ⟨rfl, rfl, rfl, Nat.le_refl _, fun _ _ _ => rfl, fun _ _ h => h, fun _ h => h, fun _ h => .inl h, fun _ _ h => h, fun b h1 h2 => absurd h1 h2, fun g hg => ?_, Nat.le_refl _⟩, hf⟩
  · obtain ⟨k, p1, p2, p3, p4, i, p5⟩ := hold b' k' q1
    have hB := hS.blk b' k g o p1 q2
    refine ⟨by rw [p5]; exact AllOne_take hB.one _, ?_, fun h => hB.wr (p2 ▸ h), fun h => hB.im (p2 ▸ h), fun h => hB.all1 (p2 ▸ h), fun h hu => hB.nostr (p2 ▸ h) (p3 ▸ hu)⟩
    obtain ⟨arr, fr, e1, e2⟩ := hB.cells
    refine ⟨arr, fr, by rw [p3]; exact e1, ?_⟩
    rw [p4, p5]
    exact VRs_take e2 _
  · obtain ⟨k, p1, p2, _⟩ := hold b1 k1 q1
    obtain ⟨k', p1', _⟩ := hold b2 k2 q2
    exact hS.inj b1 b2 k k' g o1 o2 p1 p1' q3 q4 (p2 ▸ q5)
  · simp only [VR] at hv ⊢
    obtain ⟨g, o, cap, ty, n', s, a1, a2, ⟨a3, a4⟩, a5, a6⟩ := hv
    exact ⟨g, o, cap, ty, n', s, a1, a2, ⟨h1, Nat.le_trans h2 a4⟩, (fun h => by cases h), a6⟩
  · obtain ⟨b', k', o, q1, q2, q3⟩ := hg
    obtain ⟨k, p1, p2, _⟩ := hold b' k' q1
    exact .inl ⟨b', k, o, p1, p2 ▸ q2, q3⟩⟩
theorem gets_move {b off n c : Nat} {f : Bool} {k : Blk} (hb : m.at_ b = some k) (hw : k.wr = true) : Gets P m (.sl b off n c f) ((m.put b none).push ⟨k.cells.drop off, k.el, k.kind, true⟩) (.sl m.next 0 n c f) := ⟨by simp [Mem.push, Mem.put], fun w I ρ x hS hv hf => by
  simp only [VR] at hv
  obtain ⟨g, o, cap, ty, n', s, a1, a2, a3, a4, a5, a6, a7⟩ := hv
  obtain ⟨s1, s2⟩ := SR_move hS hb hw a1 (hf m.next (Nat.le_refl _)) off
  refine ⟨_, s1, ?_, s2, free_step s2 hf⟩
  simp only [VR]
  exact ⟨g, o + off, cap, ty, n', s, setR_same _ _ _, by rw [a2]; rfl, a3, a4, a5, a6, a7⟩⟩
theorem ospec_gets {f : FuncId} {args : List AV} {Q Q' : AV → Mem → Prop} (h : OSpec P f args m Q) (hq : ∀ v m1, Q v m1 → ∃ v' m2, Gets P m1 v m2 v' ∧ Q' v' m2) : OSpec P f args m Q' := ⟨h.1, fun w I ρ vs hS hsz hv hf => (h.2 w I ρ vs hS hsz hv hf).mono fun en w' => by
  rintro ⟨v, r, m1, I', ρ', e, hQ, h1, h2, h3, h4⟩
  obtain ⟨v', m2, hg, hQ'⟩ := hq r m1 hQ
  obtain ⟨ρ2, a1, a2, a3, a4⟩ := hg.to w' I' ρ' v h2 h1 h4
  exact ⟨v, v', m2, I', ρ2, e, hQ', a2, a1, h3.trans a3, a4⟩⟩
theorem oneV_of {x : Value} (h : x.oneCell' = true) : oneV x = true := by cases x <;> simp_all [oneV, Value.oneCell']
/-- a row's capacity and spare cells told -/
theorem ospec_reveal {f : FuncId} {args : List AV} {Q : AV → Mem → Prop} {i b off n c sz : Nat} {cells : List AV} {el : TypeId} (hi : args[i]? = some (.sl b off n c false)) (hb : m.at_ b = some ⟨cells, el, .flat, true⟩) (hsz : szE P el = some sz) (hlen : off + n * sz = cells.length)
    (h : ∀ (k : Nat) (sp : List Value), n ≤ k → c ≤ k → sp.length = (k - n) * sz → (∀ x ∈ sp, oneV x = true) → OSpec P f (args.set i (.sl b off n k true)) (m.put b (some ⟨cells ++ sp.map .val, el, .flat, true⟩)) Q) (hcall : callable P f = true) : OSpec P f args m Q := by
  refine ⟨hcall, fun w I ρ vs hS hs hv hf => ?_⟩
  obtain ⟨x, hx, hvx⟩ := VRs_at hv hi
  have hvx' := hvx
  simp only [VR] at hvx
  obtain ⟨g, o, cap, ty, nn, s, a1, a2, ⟨a3, a4⟩, a5, a6, a7, a8⟩ := hvx
  have hB := hS.blk b _ g o hb a1
  obtain ⟨arr, fr, e1, e2⟩ := hB.cells
  have hsh := shape_of_heap e1
  rw [a6] at hsh
  simp only [Option.some.injEq, Prod.mk.injEq] at hsh
  obtain ⟨hty, rfl⟩ := hsh
  replace hty : ty = el := hty
  rw [hty] at a6 a7
  rw [hsz, Option.some.injEq] at a7
  subst a7
  have e2' : VRs P w I noneR cells (fun j => arr[o + j]?) := by simpa using e2
  have hncap : n ≤ cap := Nat.le_trans a3 a4
  have hmul : cap * sz = n * sz + (cap - n) * sz := by rw [← Nat.add_mul]; congr 1; omega
  have hspl : ((arr.toList.drop (o + cells.length)).take ((cap - n) * sz)).length = (cap - n) * sz := by
    rw [List.length_take, List.length_drop, Array.length_toList]; omega
  have h2 := h cap ((arr.toList.drop (o + cells.length)).take ((cap - n) * sz)) hncap a4 hspl (fun x hx => oneV_of (hB.all1 rfl arr _ fr e1 x (List.mem_of_mem_drop (List.mem_of_mem_take hx))))
  generalize hgsp : (arr.toList.drop (o + cells.length)).take ((cap - n) * sz) = sp at h2 hspl
  have hspone : ∀ x ∈ sp, x.oneCell' = true := fun x hx => by
    rw [← hgsp] at hx
    exact hB.all1 rfl arr _ fr e1 x (List.mem_of_mem_drop (List.mem_of_mem_take hx))
  have hspat : ∀ j, j < sp.length → arr[o + cells.length + j]? = sp[j]? := fun j hj => by
    rw [← hgsp, List.getElem?_take_of_lt (by omega), List.getElem?_drop, Array.getElem?_toList]
  have hold : ∀ b' k', (m.put b (some ⟨cells ++ sp.map .val, el, .flat, true⟩)).at_ b' = some k' → (b' = b ∧ k' = ⟨cells ++ sp.map .val, el, .flat, true⟩) ∨ (b' ≠ b ∧ m.at_ b' = some k') := fun b' k' h => by
    by_cases e : b' = b
    · simp [Mem.put, e] at h; exact .inl ⟨e, h.symm⟩
    · simp [Mem.put, e] at h; exact .inr ⟨e, h⟩
  have hwr : ∀ g', Wr ρ (m.put b (some ⟨cells ++ sp.map .val, el, .flat, true⟩)) g' ↔ Wr ρ m g' := fun g' => by
    constructor
    · rintro ⟨b', k', o', q1, q2, q3⟩
      rcases hold b' k' q1 with ⟨rfl, rfl⟩ | ⟨_, q1'⟩
      · exact ⟨b', ⟨cells, el, .flat, true⟩, o', hb, rfl, q3⟩
      · exact ⟨b', k', o', q1', q2, q3⟩
    · rintro ⟨b', k', o', q1, q2, q3⟩
      by_cases e : b' = b
      · subst e; exact ⟨b', ⟨cells ++ sp.map .val, el, .flat, true⟩, o', by simp [Mem.put], rfl, q3⟩
      · exact ⟨b', k', o', by simp [Mem.put, e, q1], q2, q3⟩
  have hS2 : SR P w I ρ (m.put b (some ⟨cells ++ sp.map .val, el, .flat, true⟩)) := by
    refine ⟨fun b' k' g' o' q1 q2 => ?_, fun b1 b2 k1 k2 g' o1 o2 q1 q2 q3 q4 q5 => ?_, hS.lt⟩
    · rcases hold b' k' q1 with ⟨rfl, rfl⟩ | ⟨_, q1'⟩
      · rw [a1] at q2
        simp only [Option.some.injEq, Prod.mk.injEq] at q2
        obtain ⟨rfl, rfl⟩ := q2
        refine ⟨fun c hc => ?_, ⟨arr, fr, e1, ?_⟩, hB.wr, (fun h => by cases h), hB.all1, hB.nostr⟩
        · rcases List.mem_append.1 hc with hc | hc
          · exact hB.one c hc
          · obtain ⟨x, hx, rfl⟩ := List.mem_map.1 hc
            exact oneA_val (oneV_of (hspone x hx))
        · simp only [if_true]
          refine VRs_iff.2 fun j c hj => ?_
          rcases Nat.lt_or_ge j cells.length with hl | hl
          · rw [List.getElem?_append_left hl] at hj
            exact VRs_at e2' hj
          · rw [List.getElem?_append_right hl, List.getElem?_map] at hj
            obtain ⟨x, hx, rfl⟩ := Option.map_eq_some_iff.1 hj
            refine ⟨x, ?_, by simp only [VR]⟩
            have hlt := (List.getElem?_eq_some_iff.1 hx).1
            rw [show o + j = o + cells.length + (j - cells.length) by omega, hspat _ hlt, hx]
      · exact hS.blk b' k' g' o' q1' q2
    · rcases hold b1 k1 q1 with ⟨rfl, rfl⟩ | ⟨n1, q1'⟩ <;> rcases hold b2 k2 q2 with ⟨rfl, rfl⟩ | ⟨n2, q2'⟩
      · rfl
      · exact hS.inj _ b2 _ k2 g' o1 o2 hb q2' q3 q4 rfl
      · exact hS.inj b1 _ k1 _ g' o1 o2 q1' hb q3 q4 q5
      · exact hS.inj b1 b2 k1 k2 g' o1 o2 q1' q2' q3 q4 q5
  have hilt : i < args.length := (List.getElem?_eq_some_iff.1 hi).1
  refine (h2.2 w I ρ vs hS2 (by simpa using hs) (VRs_iff.2 fun j c hj => ?_) hf).mono ?_
  · rw [List.getElem?_set] at hj
    split at hj
    · rename_i e
      subst e
      try rw [if_pos hilt] at hj
      simp only [Option.some.injEq] at hj
      subst hj
      refine ⟨x, hx, ?_⟩
      simp only [VR]
      exact ⟨g, o, cap, _, _, sz, a1, a2, ⟨hncap, Nat.le_refl _⟩, fun _ => rfl, a6, hsz, a8⟩
    · exact VRs_at hv hj
  · rintro en w' ⟨v, r, m', I', ρ', q0, q1, q2, q3, q4, q5⟩
    exact ⟨v, r, m', I', ρ', q0, q1, q2, q3, ⟨q4.os, q4.tape, q4.output, q4.size, fun g' h1 h2 => q4.same g' h1 (fun h => h2 ((hwr g').1 h)), q4.shape, q4.imm, fun g' h => (q4.back g' h).imp id (Or.imp (hwr g').1 id), q4.ext, q4.lo, fun g' h => (q4.own g' h).imp (hwr g').1 id, q4.next⟩, q5⟩

theorem run_overlaps_apart2 (w : World) (tS tR e : TypeId) (ht : P.underlying tS = some (.slice e)) (size : Nat) (hz : ∀ w, (Go.sizeOf e).run P w = .ok size w)
    (a b : Addr) (la ca lb cb : Nat) (hne : a.block ≠ b.block) (tA tB : TypeId) (kA kB : Nat)
    (hsa : w.shape? a.block = some (tA, kA)) (hsb : w.shape? b.block = some (tB, kB)) (hkA : kA ≠ 0)
    (hfb : w.frozen? b = false) (hfe : w.frozen? { block := b.block, off := kB } = false) :
    (Extern.SlicesOverlaps.overlaps #[tS, tS] #[tR] #[.slice (some a) la ca, .slice (some b) lb cb]).run P w = .ok (.bool false) w := by
  have hnb : (a.block != b.block) = true := by simpa using hne
  have hnb' : (a.block == b.block) = false := by simpa using hne
  change Sem.run P (α := Value) (do
    let some t := (#[tS, tS] : Array TypeId)[0]? | stuck "slices.overlaps: no parameter types"
    let .slice elem ← underlying t | stuck "slices.overlaps: slice type expected"
    let size ← sizeOf elem
    match (some a : Option Addr), (some b : Option Addr) with
    | some a, some b =>
      if la = 0 ∨ lb = 0 ∨ size = 0 then pure (Value.bool false)
      else if a.block != b.block && (← frozen a) && (← frozen b) then unsupported .addressObserved
      else do
        if a.block != b.block then do
          noView a; noView b
          if ← mayBeOne a b then return Value.bool ((← choose (.extern "sameAddr.stringBytes" 2)) == 1)
        pure (Value.bool (a.block == b.block && a.off < b.off + lb * size && b.off < a.off + la * size))
    | _, _ => pure (Value.bool false)) w = _
  by_cases h0 : la = 0 ∨ lb = 0 ∨ size = 0
  · simp [run_underlying ht, hz, h0]
  · cases kA with
    | zero => exact absurd rfl hkA
    | succ kA =>
      cases hfa : w.frozen? a <;> cases hfa2 : w.frozen? { block := a.block, off := kA + 1 } <;>
        simp [run_underlying ht, hz, h0, hnb, hnb', frozen, noView, viewAt, mayBeOne, stringish, shape, Sem.run, hsa, hsb, hfb, hfe, hfa, hfa2]
end
end Go.Tw

/- A function's answer frozen: its own rows taken for immutable ones. -/
set_option linter.unusedVariables false
set_option linter.unusedSimpArgs false
namespace Go.Tw
open Go

mutual
def fzV (rows : List (TypeId × List AV)) : AV → AV
  | .sl b off n c f => .tree n c ((rows.getD b (0, [])).2.drop off) f
  | .agg cs => .agg (fzVs rows cs)
  | .tup cs => .tup (fzVs rows cs)
  | .val v => .val v
  | .tree a b c d => .tree a b c d
  | .tptr a b => .tptr a b
  | .emp a b => .emp a b
  | .ptr a b => .ptr a b
  | .clo f cs => .clo f cs
def fzVs (rows : List (TypeId × List AV)) : List AV → List AV
  | [] => []
  | c :: cs => fzV rows c :: fzVs rows cs
end
mutual
def fzOk : AV → Bool
  | .val _ | .sl .. | .emp .. | .tree .. | .tptr .. => true
  | .agg cs | .tup cs => fzOks cs
  | _ => false
def fzOks : List AV → Bool
  | [] => true
  | c :: cs => fzOk c && fzOks cs
end
section
variable {P : Program} {w : World} {I : Nat → Prop} {ρ : Real} {rows : List (TypeId × List AV)}
theorem fzVs_len : ∀ cs : List AV, (fzVs rows cs).length = cs.length
  | [] => rfl
  | c :: cs => by simp [fzVs, fzVs_len cs]
theorem fzV_one (v : AV) (h : fzOk v = true) : oneA (fzV rows v) = oneA v := by cases v <;> simp [fzV, oneA] at h ⊢
theorem fzVs_one : ∀ (cs : List AV), fzOks cs = true → AllOne cs → AllOne (fzVs rows cs)
  | [], _, h => h
  | c :: cs, ho, h => fun x hx => by
    simp only [fzOks, Bool.and_eq_true] at ho
    simp only [fzVs] at hx
    rcases List.mem_cons.1 hx with rfl | hx
    · rw [fzV_one c ho.1]; exact h c (by simp)
    · exact fzVs_one cs ho.2 (fun y hy => h y (by simp [hy])) x hx
def rowG (ρ : Real) (g : Nat) : Prop := ∃ b o, ρ b = some (g, o)
mutual
theorem fzV_VR (hS : SR P w I ρ (pushAll Mem.empty rows)) (hk : ∀ b x, ρ b = some x → b < rows.length) : ∀ (av : AV) (v : Value), fzOk av = true → VR P w I ρ av v → VR P w (fun g => I g ∨ rowG ρ g) noneR (fzV rows av) v
  | .val x, v, _, hv => by simpa only [fzV, VR] using hv
  | .tree n c cs f, v, _, hv => VR_keep (⟨fun _ h => .inl h, fun _ _ => rfl, fun _ _ h => h⟩ : Keeps w w I _) (fun _ _ h => h) _ _ (noRef_VR (.tree n c cs f) v rfl hv)
  | .tptr o cs, v, _, hv => VR_keep (⟨fun _ h => .inl h, fun _ _ => rfl, fun _ _ h => h⟩ : Keeps w w I _) (fun _ _ h => h) _ _ (noRef_VR (.tptr o cs) v rfl hv)
  | .emp _ _, v, _, hv => by simpa only [fzV, VR] using hv
  | .agg cs, v, h, hv => by
    simp only [fzOk] at h
    simp only [fzV, VR] at hv ⊢
    obtain ⟨vs, h1, h2, h3, h4⟩ := hv
    exact ⟨vs, h1, by rw [h2, fzVs_len], fzVs_one cs h h3, fzVs_VR hS hk cs _ h h4⟩
  | .tup cs, v, h, hv => by
    simp only [fzOk] at h
    simp only [fzV, VR] at hv ⊢
    obtain ⟨vs, h1, h2, h4⟩ := hv
    exact ⟨vs, h1, by rw [h2, fzVs_len], fzVs_VR hS hk cs _ h h4⟩
  | .sl b off n c f, v, _, hv => by
    simp only [fzV, VR] at hv ⊢
    obtain ⟨g, o, cap, ty, n', s, hg, rfl, h1, h2, _⟩ := hv
    have hb := hk b _ hg
    have hat : (pushAll Mem.empty rows).at_ b = some ⟨rows[b].2, rows[b].1, .flat, true⟩ := by
      rw [pushAll_at, if_pos (by simp [Mem.empty]; exact hb)]
      simp [Mem.empty, List.getElem?_eq_getElem hb]
    have hB := hS.blk b _ g o hat hg
    have he : (rows.getD b (0, [])).2 = rows[b].2 := by simp [List.getD_eq_getElem?_getD, List.getElem?_eq_getElem hb]
    rw [he]
    refine ⟨g, o + off, cap, rfl, .inr ⟨b, o, hg⟩, h1, h2, AllOne_drop hB.one _, ?_⟩
    have h3 := VRs_drop (BR.flatAt hB rfl) off
    refine VRs_congr (VRs_keep (⟨fun _ h => .inl h, fun _ _ => rfl, fun _ _ h => h⟩ : Keeps w w I _) (fun _ _ h => h) _ _ h3) fun j _ => by rw [Nat.add_assoc]
  | .ptr _ _, v, h, hv => by simp [fzOk] at h
  | .clo _ _, v, h, hv => by simp [fzOk] at h
theorem fzVs_VR (hS : SR P w I ρ (pushAll Mem.empty rows)) (hk : ∀ b x, ρ b = some x → b < rows.length) : ∀ (cs : List AV) (get : Nat → Option Value), fzOks cs = true → VRs P w I ρ cs get → VRs P w (fun g => I g ∨ rowG ρ g) noneR (fzVs rows cs) get
  | [], get, _, hv => by simp only [fzVs, VRs]
  | c :: cs, get, h, hv => by
    simp only [fzOks, Bool.and_eq_true] at h
    simp only [fzVs, VRs] at hv ⊢
    obtain ⟨⟨v, h1, h2⟩, h3⟩ := hv
    exact ⟨⟨v, h1, fzV_VR hS hk c v h.1 h2⟩, fzVs_VR hS hk cs _ h.2 h3⟩
end
/-- what a function answers may be taken for immutable -/
theorem fspec_frozen {f : FuncId} {args : List AV} {r : Res} (h : FSpec P f args r) (ho : fzOk r.v = true) : FSpec P f args ⟨fzV r.rows r.v, []⟩ := ⟨h.1, fun w I vs hI hsz hv => (h.2 w I vs hI hsz hv).mono fun en w' => by
  rintro ⟨v, I', ρ', rfl, q1, q2, q3⟩
  have hnoWr : ∀ g, ¬ Wr noneR Mem.empty g := by rintro g ⟨b, k, o, h1, _⟩; simp [Mem.empty] at h1
  have hk : ∀ b x, ρ' b = some x → b < r.rows.length := fun b x h => by
    have := q3.lo b rfl (by rw [h]; simp)
    rw [pushAll_next] at this
    simp [Mem.empty] at this
    exact this
  have hat : ∀ b x, ρ' b = some x → ∃ k, (pushAll Mem.empty r.rows).at_ b = some k ∧ k.wr = true := fun b x h => by
    have hb := hk b x h
    exact ⟨⟨r.rows[b].2, r.rows[b].1, .flat, true⟩, by rw [pushAll_at, if_pos (by simp [Mem.empty]; exact hb)]; simp [Mem.empty, List.getElem?_eq_getElem hb], rfl⟩
  have hnew : ∀ g, rowG ρ' g → w.heap.size ≤ g := by
    rintro g ⟨b, o, hb⟩
    obtain ⟨k, h1, h2⟩ := hat b _ hb
    rcases q3.own g ⟨b, k, o, h1, h2, hb⟩ with h | h
    · exact absurd h (hnoWr g)
    · exact h
  refine ⟨v, (fun g => I' g ∨ rowG ρ' g), noneR, rfl, fzV_VR q2 hk r.v v ho q1, ⟨fun b k g o h => by simp [pushAll, Mem.empty] at h, fun b b' k k' g o o' h => by simp [pushAll, Mem.empty] at h, fun g hg => ?_⟩, ⟨q3.os, q3.tape, q3.output, q3.size, q3.same, q3.shape, fun g hg => .inl (q3.imm g hg), fun g hg => ?_, fun _ _ h => h, fun b h1 h2 => absurd h1 h2, fun g hg => ?_, Nat.le_refl _⟩⟩
  · rcases hg with hg | ⟨b, o, hb⟩
    · exact q2.lt g hg
    · obtain ⟨k, h1, h2⟩ := hat b _ hb
      exact q2.ltb h1 hb
  · rcases hg with hg | hg
    · exact q3.back g hg
    · exact .inr (.inr (hnew g hg))
  · obtain ⟨b, k, o, h1, _⟩ := hg
    simp [pushAll, Mem.empty] at h1⟩
end
/-- a frozen row that grew -/
def treeR (n : Nat) (cells : List AV) : AV := if n = 0 then nilS else .tree n n cells false
theorem treeR_rd (n : Nat) (cells : List AV) : RdSl (treeR n cells) n cells := by
  unfold treeR
  split
  · rename_i h; exact ⟨.inl ⟨rfl, h⟩⟩
  · exact ⟨.inr (.inr ⟨n, false, rfl, Nat.le_refl _⟩)⟩
theorem shift_treeR {k n : Nat} {cells : List AV} : shift k (treeR n cells) = treeR n cells := by
  unfold treeR
  split <;> simp [shift, nilS]
theorem len_treeR {P : Program} {t : TypeId} {n : Nat} {cells : List AV} (h : (elE P t).isSome = true) : lenE P t (treeR n cells) = some (.val (.int .i64 (n : Nat))) := (treeR_rd n cells).len' h
theorem addr_treeR {P : Program} {t : TypeId} {n k : Nat} {cells : List AV} (h : (elE P t).isSome = true) : addrE P t k (treeR n cells) = (elE P t).bind fun el => (szE P el).bind fun sz => if k < n then some (.tptr (k * sz) cells) else none := (treeR_rd n cells).addr' h
theorem plain_treeR {n : Nat} {cells : List AV} : plain (treeR n cells) = true := (treeR_rd n cells).plain
theorem slOk_treeR {P : Program} {m : Mem} {t : TypeId} {n : Nat} {cells : List AV} : slOk P m t (treeR n cells) = true := (treeR_rd n cells).slOk
theorem postFz : (type_of% @shift_treeR) ∧ (type_of% @len_treeR) ∧ (type_of% @addr_treeR) ∧ (type_of% @slOk_treeR) := ⟨@shift_treeR, @len_treeR, @addr_treeR, @slOk_treeR⟩
theorem fz_ownR (el : TypeId) (n : Nat) (cells : List AV) : fzV (ownR el n cells).rows (ownR el n cells).v = treeR n cells := by
  unfold ownR treeR
  split <;> simp [fzV, nilS]
theorem fz_ownR_ok (el : TypeId) (n : Nat) (cells : List AV) : fzOk (ownR el n cells).v = true := by
  unfold ownR
  split <;> rfl
end Go.Tw

/- Slices that can be read, be they one's own, frozen or lent: handed to functions. -/
set_option linter.unusedVariables false
set_option linter.unusedSimpArgs false
namespace Go.Tw
open Go

mutual
def fzPlain : AV → Bool
  | .clo _ (_ :: _) => false
  | .agg cs => fzPlains cs
  | _ => true
def fzPlains : List AV → Bool
  | [] => true
  | c :: cs => fzPlain c && fzPlains cs
end
structure Has (m : Mem) (v : AV) (n : Nat) (cells : List AV) : Prop where
  form : RdSl v n cells ∨ ∃ b off c f k, v = .sl b off n c f ∧ m.at_ b = some k ∧ k.kind = .flat ∧ k.cells.drop off = cells ∧ n ≤ c
section
variable {P : Program} {m : Mem} {v : AV} {n : Nat} {cells : List AV}
theorem has_rd (h : RdSl v n cells) : Has m v n cells := ⟨.inl h⟩
theorem has_own {el : TypeId} {sz : Nat} (h : Own m el sz v n cells) : Has m v n cells := by
  rcases h.form with ⟨rfl, rfl, rfl⟩ | ⟨b, rfl, hb, _, _⟩
  · exact ⟨.inl ⟨.inl ⟨rfl, rfl⟩⟩⟩
  · exact ⟨.inr ⟨b, 0, n, false, _, rfl, hb, rfl, rfl, Nat.le_refl _⟩⟩
theorem Has.to {m' : Mem} (h : Has m v n cells) (hm : ∀ b k, m.at_ b = some k → ∃ wr, m'.at_ b = some ⟨k.cells, k.el, k.kind, wr⟩) : Has m' v n cells := by
  rcases h.form with h | ⟨b, off, c, f, k, h1, h2, h3, h4, h5⟩
  · exact ⟨.inl h⟩
  · obtain ⟨wr, h6⟩ := hm b k h2
    exact ⟨.inr ⟨b, off, c, f, _, h1, h6, h3, h4, h5⟩⟩
theorem has_lend (h : Has m v n cells) (k : Nat) : ∃ av, lend k m v = some av ∧ RdSl av n cells := by
  rcases h.form with h | ⟨b, off, c, f, k', rfl, h2, h3, rfl, h5⟩
  · exact ⟨v, (plain_lend k v h.plain).1, h⟩
  · refine ⟨.tree n c (k'.cells.drop off) f, ?_, ⟨.inr (.inr ⟨c, f, rfl, h5⟩)⟩⟩
    unfold lend
    simp [h2, h3]
theorem has_fz (h : Has m v n cells) : ∃ av m1, fz m v = some (av, m1) ∧ RdSl av n cells ∧ m1.next = m.next ∧ ∀ b k, m.at_ b = some k → ∃ wr, m1.at_ b = some ⟨k.cells, k.el, k.kind, wr⟩ := by
  rcases h.form with h | ⟨b, off, c, f, k', rfl, h2, h3, rfl, h5⟩
  · refine ⟨v, m, ?_, h, rfl, fun b k hb => ⟨k.wr, hb⟩⟩
    rcases h.form with ⟨rfl, _⟩ | ⟨_, _, rfl, _⟩ | ⟨_, _, rfl, _⟩ <;> rfl
  · obtain ⟨kc, ke, kk, kw⟩ := k'
    simp only at h3
    subst h3
    refine ⟨.tree n c (kc.drop off) f, m.put b (some ⟨kc, ke, .flat, false⟩), by simp [fz, h2], ⟨.inr (.inr ⟨c, f, rfl, h5⟩)⟩, rfl, fun b' k hb => ?_⟩
    by_cases e : b' = b
    · subst e
      rw [h2] at hb
      cases hb
      exact ⟨false, by simp [Mem.put]⟩
    · exact ⟨k.wr, by simp [Mem.put, e, hb]⟩
mutual
theorem plain_fz : ∀ (v : AV), plain v = true → fzPlain v = true → fz m v = some (v, m)
  | .val v, h, _ => rfl
  | .tree .., h, _ => rfl
  | .tptr .., h, _ => rfl
  | .emp .., h, _ => rfl
  | .agg cs, h, h2 => by
    simp only [plain] at h
    simp only [fzPlain] at h2
    simp [fz, plains_fz cs h h2]
  | .clo _ [], h, _ => rfl
  | .clo _ (_ :: _), h, h2 => by simp [fzPlain] at h2
  | .tup _, h, _ => by simp [plain] at h
  | .sl .., h, _ => by simp [plain] at h
  | .ptr .., h, _ => by simp [plain] at h
theorem plains_fz : ∀ (v : List AV), plains v = true → fzPlains v = true → fzs m v = some (v, m)
  | [], h, _ => rfl
  | c :: cs, h, h2 => by
    simp only [plains, Bool.and_eq_true] at h
    simp only [fzPlains, Bool.and_eq_true] at h2
    simp [fzs, plain_fz c h.1 h2.1, plains_fz cs h.2 h2.2]
end
theorem lend1 {a : AV} (h : Has m a n cells) : ∃ av, lends 3 m [a] = some [av] ∧ RdSl av n cells := by
  obtain ⟨av, h1, h2⟩ := has_lend h 3
  refine ⟨av, ?_, h2⟩
  unfold lends
  rw [h1]
  unfold lends
  rfl
theorem lend2 {a : AV} (ha : plain a = true) (h : Has m v n cells) : ∃ av, lends 3 m [a, v] = some [a, av] ∧ RdSl av n cells := by
  obtain ⟨av, h1, h2⟩ := lend1 h
  refine ⟨av, ?_, h2⟩
  unfold lends
  rw [(plain_lend 3 a ha).1, h1]
  rfl
theorem lend3 {a b : AV} (ha : plain a = true) (h : Has m v n cells) (hb : plain b = true) : ∃ av, lends 3 m [a, v, b] = some [a, av, b] ∧ RdSl av n cells := by
  obtain ⟨av, h1, h2⟩ := has_lend h 3
  refine ⟨av, ?_, h2⟩
  unfold lends
  rw [(plain_lend 3 a ha).1]
  unfold lends
  rw [h1]
  unfold lends
  rw [(plain_lend 3 b hb).1]
  unfold lends
  rfl
theorem lend22 {v' : AV} {n' : Nat} {cells' : List AV} (h : Has m v n cells) (h' : Has m v' n' cells') : ∃ av av', lends 3 m [v, v'] = some [av, av'] ∧ RdSl av n cells ∧ RdSl av' n' cells' := by
  obtain ⟨av, h1, h2⟩ := has_lend h 3
  obtain ⟨av', h3, h4⟩ := lend1 h'
  refine ⟨av, av', ?_, h2, h4⟩
  unfold lends
  rw [h1, h3]
  rfl
theorem fz2 {a : AV} (ha : plain a = true) (ha2 : fzPlain a = true) (h : Has m v n cells) : ∃ av m1, fzs m [a, v] = some ([a, av], m1) ∧ RdSl av n cells ∧ m1.next = m.next ∧ ∀ b k, m.at_ b = some k → ∃ wr, m1.at_ b = some ⟨k.cells, k.el, k.kind, wr⟩ := by
  obtain ⟨av, m1, h1, h2, h3, h4⟩ := has_fz h
  exact ⟨av, m1, by simp [fzs, plain_fz a ha ha2, h1], h2, h3, h4⟩
theorem Has.len (h : Has m v n cells) {t : TypeId} (ht : (elE P t).isSome = true) : lenE P t v = some (.val (.int .i64 (n : Nat))) := by
  rcases h.form with h | ⟨b, off, c, f, k, rfl, _⟩
  · exact h.len' ht
  · obtain ⟨el, hel⟩ := Option.isSome_iff_exists.1 ht
    simp [lenE, hel, slLen, intV]
end
end Go.Tw
