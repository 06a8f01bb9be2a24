/- All operations that call no function: sound. -/
import Derived.Test.YtenmbfplceeolaaTwJ
set_option linter.unusedVariables false
set_option linter.unusedSimpArgs false
namespace Go.Tw
open Go

section
variable {P : Program} {w : World} {I : Nat → Prop} {ρ : Real} {m : Mem}

theorem run_copy {t : TypeId} {ts : List TypeId} {ty el : TypeId} {sz n len cap : Nat} {base : Option Addr} {xv : Value} (hel : elE P t = some el) (hsz : szE P el = some sz) (hlen : (Builtin.lenOf xv).run P w = .ok n w) {news : List Value}
    (hnews : (Builtin.firstCells sz (min n len) xv).run P w = .ok news.toArray w) {w' : World} (hr : (match base with | some a => storeCells a news | none => pure () : Sem Unit).run P w = .ok () w') :
    (Builtin.copy_ (t :: ts).toArray ty #[.slice base len cap, xv]).run P w = .ok (.int .i64 ((min n len : Nat) : Int)) w' := by
  have h0 : (t :: ts).toArray[0]? = some t := by simp
  unfold Builtin.copy_
  simp only [h0]
  cases base with
  | none =>
    simp only [Sem.run_pure, Result.ok.injEq, true_and] at hr
    subst hr
    simp [run_und (und_el hel), hlen, run_sz hsz, hnews, goInt]
  | some a =>
    simp only at hr
    simp [run_und (und_el hel), hlen, run_sz hsz, hnews, hr, goInt]

theorem copyE_sound (hS : SR P w I ρ m) {t : TypeId} {ts : List TypeId} {ty el : TypeId} (hel : elE P t = some el) {d x : AV} {out : Out} (h : copyE P el m d x = some out) {dv xv : Value} (hd : VR P w I ρ d dv) (hx : VR P w I ρ x xv) (addr : Value) :
    Does P w I ρ m ((Builtin.copy_ (t :: ts).toArray ty #[dv, xv]).run P w) id out addr := by
  unfold copyE at h
  obtain ⟨sz, hsz, h⟩ := Option.bind_eq_some_iff.1 h
  obtain ⟨⟨new, n⟩, hnew, h⟩ := Option.bind_eq_some_iff.1 h
  obtain ⟨l1, l2, l3, l4⟩ := srcE_sound hS hnew hx
  have zero : ∀ {base : Option Addr} {len cap : Nat}, min n len = 0 → Does P w I ρ m ((Builtin.copy_ (t :: ts).toArray ty #[.slice base len cap, xv]).run P w) id ⟨intV 0, m, none⟩ addr := by
    intro base len cap h0
    obtain ⟨news, n1, n2, n3⟩ := l4 0 (Nat.zero_le _)
    have hnil : news = [] := List.eq_nil_of_length_eq_zero (by rw [n1, Nat.zero_mul])
    subst hnil
    have := run_copy (P := P) (w := w) (t := t) (ts := ts) (ty := ty) (base := base) (len := len) (cap := cap) hel hsz l1 (by rw [h0]; exact n2) (w' := w) (by cases base <;> rfl)
    rw [h0] at this
    exact ⟨_, w, I, ρ, this, by simp only [id, intV, VR]; rfl, hS, Step.refl _ _ _ _, fun d y h => by cases h⟩
  have other : ((slView m d).bind fun r => if min n r.2.1 = 0 then outV (intV 0) m else none) = some out → Does P w I ρ m ((Builtin.copy_ (t :: ts).toArray ty #[dv, xv]).run P w) id out addr := by
    intro h
    obtain ⟨⟨cs, len, f⟩, hr, h⟩ := Option.bind_eq_some_iff.1 h
    simp only at h
    split at h
    · rename_i h0
      simp only [outV, Option.some.injEq] at h
      subst h
      obtain ⟨a, cap, rfl, _⟩ := slView_sound hS hr hd
      exact zero h0
    · cases h
  cases d with
  | sl b off len c f =>
    simp only at h
    obtain ⟨k, hk, h⟩ := Option.bind_eq_some_iff.1 h
    split at h
    · rename_i hc
      obtain ⟨c1, c2, c3⟩ := hc
      simp only [outV, Option.some.injEq] at h
      subst h
      simp only [VR] at hd
      obtain ⟨g, o, cap, ty', n', s', hb, rfl, hl, hf, hsh, hss, hroom⟩ := hd
      have hB := hS.blk b k g o hk hb
      obtain ⟨arr, fr, hh, hcells⟩ := hB.cells
      have hmn : min n len ≤ n := Nat.min_le_left _ _
      have hml : min n len * sz ≤ len * sz := Nat.mul_le_mul_right _ (Nat.min_le_right _ _)
      have hmn' : min n len * sz ≤ n * sz := Nat.mul_le_mul_right _ hmn
      obtain ⟨news, n1, n2, n3⟩ := l4 (min n len) hmn
      have hxl : (new.take (min n len * sz)).length = min n len * sz := by simp; omega
      have hone := VRs_one (P := P) (w := w) (I := I) (ρ := noneR) (AllOne_take l3 _) (by rw [n1, hxl]) n3
      have hsz' : o + off + news.length ≤ arr.size := by
        rw [n1]
        rcases Nat.eq_zero_or_pos (min n len * sz) with h0 | h0
        · rw [h0]
          have hty := shape_of_heap hh
          rw [hsh] at hty
          simp only [Option.some.injEq, Prod.mk.injEq] at hty
          omega
        · obtain ⟨u, hu⟩ := VRs_len hcells (j := off + min n len * sz - 1) (by omega)
          have := (Array.getElem?_eq_some_iff.1 hu).1
          omega
      have hw1 := run_write (P := P) (w := w) (o := o + off) (vs := news) hh (frozen_of_wr hB c2 hh) hsz' hone
      have hrun := run_copy (P := P) (w := w) (t := t) (ts := ts) (ty := ty) (base := some ⟨g, o + off, none⟩) (len := len) (cap := cap) hel hsz l1 n2 hw1
      obtain ⟨s1, s2⟩ := SR_write (k' := ⟨splice k.cells off (new.take (min n len * sz)), k.el, .flat, true⟩) hS hk c2 hb (vs := news) (p := o + off) ⟨rfl, rfl, AllOne_splice hB.one (AllOne_take l3 _) _⟩ (fun arr0 fr0 e0 hc0 arr' e1 e2 => by
        simp only [c1, if_true] at hc0 ⊢
        exact splice_VRs rfl (by omega) (by rw [n1, hxl]) hc0 n3 e2)
      exact ⟨_, _, _, _, hrun, by simp only [id, intV, VR], s1, s2, fun d y h => by cases h⟩
    · cases h
  | val _ => exact other h
  | emp _ _ => exact other h
  | tree _ _ _ _ => exact other h
  | agg _ => exact other h
  | tup _ => exact other h
  | tptr _ _ => exact other h
  | ptr _ _ => exact other h
  | clo _ _ => exact other h

theorem slLen_sound {x : AV} {n : Nat} (h : slLen x = some n) {v : Value} (hv : VR P w I ρ x v) : ∃ a cap, v = .slice a n cap := by
  unfold slLen at h
  split at h
  · simp only [Option.some.injEq] at h; subst h; simp only [VR] at hv; exact ⟨none, 0, hv⟩
  · simp only [Option.some.injEq] at h; subst h; simp only [VR] at hv; obtain ⟨g, o, cap, rfl, _⟩ := hv; exact ⟨_, _, rfl⟩
  · simp only [Option.some.injEq] at h; subst h; simp only [VR] at hv; obtain ⟨g, o, cap, rfl, _⟩ := hv; exact ⟨_, _, rfl⟩
  · simp only [Option.some.injEq] at h; subst h; simp only [VR] at hv; obtain ⟨g, o, cap, ty, n', s, _, rfl, _⟩ := hv; exact ⟨_, _, rfl⟩
  · cases h

theorem und_par {t : TypeId} {a : Nat × TypeId} (h : parE P t = some a) : ∃ ar, P.underlying t = some (.pointer ar) ∧ arrE P ar = some a := by
  unfold parE at h; split at h
  · exact ⟨_, by assumption, h⟩
  · cases h

theorem lenE_sound {t ty : TypeId} {x av : AV} (h : lenE P t x = some av) {v : Value} (hv : VR P w I ρ x v) : Pur P w I ρ (Builtin.len_ #[t] ty #[v]) av := by
  unfold lenE at h
  split at h
  · split at h
    · rename_i s hs
      simp only [Option.some.injEq] at h
      subst h
      simp only [VR] at hv
      subst hv
      exact ⟨.int .i64 s.size, by simp [Builtin.len_, run_und (und_str hs), goInt], by simp only [intV, VR]⟩
    · cases h
  · split at h
    · rename_i el hel
      obtain ⟨n, hn, rfl⟩ := Option.map_eq_some_iff.1 h
      obtain ⟨a, cap, rfl⟩ := slLen_sound hn hv
      exact ⟨.int .i64 n, by simp [Builtin.len_, run_und (und_el hel), goInt], by simp only [intV, VR]⟩
    · split at h
      · rename_i a ha
        simp only [Option.some.injEq] at h
        subst h
        exact ⟨.int .i64 a.1, by simp [Builtin.len_, run_und (und_arr ha), goInt], by simp only [intV, VR]⟩
      · rename_i a _ ha
        simp only [Option.some.injEq] at h
        subst h
        obtain ⟨ar, h1, h2⟩ := und_par ha
        exact ⟨.int .i64 a.1, by simp [Builtin.len_, run_und h1, run_und (und_arr h2), goInt], by simp only [intV, VR]⟩
      · cases h

theorem und_struct {t : TypeId} (h : structE P t = true) : ∃ fs : Array Field, P.underlying t = some (.struct fs) ∧ ∀ f ∈ fs.toList, ∃ n, szE P f.type = some n := by
  unfold structE at h; split at h
  · rename_i fs hfs
    refine ⟨fs, hfs, fun f hf => ?_⟩
    exact Option.isSome_iff_exists.1 (List.all_eq_true.1 h f hf)
  · cases h

theorem run_places : ∀ (l : List Field), (∀ f ∈ l, ∃ n, szE P f.type = some n) → ∃ pl : List (Nat × Nat), (l.mapM fun f => (do pure (f.offset, ← sizeOf f.type) : Sem (Nat × Nat))).run P w = .ok pl w ∧ pl.length = l.length ∧ ∀ (i : Nat) (f : Field), l[i]? = some f → ∃ n, szE P f.type = some n ∧ pl[i]? = some (f.offset, n)
  | [], _ => ⟨[], by simp, rfl, fun i f h => by simp at h⟩
  | f :: l, h => by
    obtain ⟨n, hn⟩ := h f (by simp)
    obtain ⟨pl, h1, h2, h3⟩ := run_places l (fun g hg => h g (by simp [hg]))
    refine ⟨(f.offset, n) :: pl, by simp [List.mapM_cons, run_sz hn] at h1 ⊢; simp [h1], by simp [h2], fun i g hi => ?_⟩
    cases i with
    | zero => simp at hi; subst hi; exact ⟨n, hn, rfl⟩
    | succ i => simpa using h3 i g (by simpa using hi)

theorem buildE_sound {t : TypeId} {parts : List (Nat × AV)} {av : AV} (h : buildE P t parts = some av) {vparts : List (Nat × Value)} (hl : vparts.length = parts.length)
    (hv : ∀ (j i : Nat) (av : AV) (i' : Nat) (v : Value), parts[j]? = some (i, av) → vparts[j]? = some (i', v) → i = i' ∧ VR P w I ρ av v) : Pur P w I ρ (Instr.build t vparts.toArray) av := by
  unfold buildE at h
  obtain ⟨z, hz, h⟩ := Option.bind_eq_some_iff.1 h
  obtain ⟨zv, h1, h2, h3, _⟩ := run_zero (w := w) hz
  have hcell : zv.cells.size = (z.map AV.val).length := by simp [← h2]
  have hone : AllOne (z.map AV.val) := fun c hc => by
    obtain ⟨x, hx, rfl⟩ := List.mem_map.1 hc
    exact oneA_val (h3 x hx)
  have hvr : VRs P w I ρ (z.map .val) (fun j => zv.cells[j]?) := by
    have := VRs_vals (P := P) (w := w) (I := I) (ρ := ρ) z
    rw [← h2] at this ⊢
    simpa using this
  split at h
  · rename_i hst
    obtain ⟨fs, hfs, hfz⟩ := und_struct hst
    obtain ⟨cs, hcs, rfl⟩ := Option.map_eq_some_iff.1 h
    -- the places
    obtain ⟨pl, hp1, hp2, hp3⟩ := run_places (P := P) (w := w) fs.toList hfz
    obtain ⟨places, hpp⟩ : ∃ places : Array (Nat × Nat), places = pl.toArray := ⟨_, rfl⟩
    have hp1' : (fs.mapM fun f => (do pure (f.offset, ← sizeOf f.type) : Sem (Nat × Nat))).run P w = .ok places w := by
      rw [Array.mapM_eq_mapM_toList, Sem.run_map, hp1, hpp]
      rfl
    obtain ⟨arr', f1, f2, f3, f4, f5⟩ := fillE_sound (P := P) (w := w) (I := I) (ρ := ρ) (place := fun i => places[i]?) (fun i p hp => by
      obtain ⟨fp, hfp, hp⟩ := Option.bind_eq_some_iff.1 hp
      obtain ⟨n, hn, rfl⟩ := Option.map_eq_some_iff.1 hp
      obtain ⟨fs', f, e1, e2, e3, e4⟩ := und_fld hfp
      rw [hfs] at e1
      simp only [Option.some.injEq, TypeDesc.struct.injEq] at e1
      subst e1
      obtain ⟨n', q1, q2⟩ := hp3 i f (by simpa using e2)
      rw [e4, hn, Option.some.injEq] at q1
      subst q1
      rw [hpp, List.getElem?_toArray, q2, e3]) parts vparts (z.map .val) cs zv.cells hcs hl hv hcell hone hvr
    refine ⟨.agg arr', ?_, ?_⟩
    · simp only [Instr.build, Sem.run_bind, h1, Result.andThen_ok, run_und hfs, hp1']
      simp [f1]
    · simp only [VR]
      exact ⟨arr', rfl, f2, f4, f5⟩
  · obtain ⟨a, ha, h⟩ := Option.bind_eq_some_iff.1 h
    obtain ⟨n, hn, h⟩ := Option.bind_eq_some_iff.1 h
    obtain ⟨cs, hcs, rfl⟩ := Option.map_eq_some_iff.1 h
    obtain ⟨arr', f1, f2, f3, f4, f5⟩ := fillE_sound (P := P) (w := w) (I := I) (ρ := ρ) (place := fun i => some (i * n, n)) (placeE := fun i => some (i * n, n)) (fun _ _ h => h) parts vparts (z.map .val) cs zv.cells hcs hl hv hcell hone hvr
    refine ⟨.agg arr', ?_, ?_⟩
    · simp [Instr.build, h1, run_und (und_arr ha), run_sz hn, f1]
    · simp only [VR]
      exact ⟨arr', rfl, f2, f4, f5⟩
end
end Go.Tw
