/- Conversions, append, copy, len as operations of the calculus: sound. -/
import Derived.Test.YtenmbfplceeolaaTwI
set_option linter.unusedVariables false
set_option linter.unusedSimpArgs false
namespace Go.Tw
open Go

section
variable {P : Program} {w : World} {I : Nat → Prop} {ρ : Real} {m : Mem}

theorem Does.pur {s : Sem Value} {av : AV} {addr : Value} (hS : SR P w I ρ m) (h : Pur P w I ρ s av) : Does P w I ρ m (s.run P w) id ⟨av, m, none⟩ addr := by
  obtain ⟨v, h1, h2⟩ := h
  exact ⟨v, w, I, ρ, h1, h2, hS, Step.refl _ _ _ _, fun d y h => by cases h⟩

theorem convE_sound (hS : SR P w I ρ m) {src dst : TypeId} {x : AV} {out : Out} (h : convE P m src dst x = some out) (hfree : ∀ b, m.next ≤ b → b < out.m.next → ρ b = none) {v : Value} (hv : VR P w I ρ x v) (addr : Value) :
    Does P w I ρ m ((Go.convert src dst v).run P w) id out addr := by
  unfold convE at h
  split at h
  · rename_i el hel
    split at h
    · rename_i s
      split at h
      · rename_i hc
        obtain ⟨hu, hss, hsz1⟩ := hc
        have hds := und_str hss
        simp only [outV, Option.some.injEq] at h
        subst h
        simp only [VR] at hv
        subst hv
        obtain ⟨cap, arr, w', h1, h2, h3, h4, h5⟩ := run_stringToBytes (P := P) (w := w) el s
        have hf : ρ m.next = none := hfree m.next (Nat.le_refl _) (by simp [Mem.push])
        obtain ⟨a, b⟩ := SR_push (k := ⟨bytesV s, el, .flat, true⟩) h3 hS hf rfl (bytes_one s) (by
          simp only [if_true]
          exact VRs_congr (bytes_VRs s) fun j hj => h5 j (by rw [bytesV_length] at hj; exact hj))
        refine ⟨.slice (some ⟨w.heap.size, 0, none⟩) s.size cap, w', I, _, ?_, ?_, a, b, fun d y h => by cases h⟩
        · simp [Go.convert, run_und hds, run_und (und_el hel), run_und (und_u8 hu), h1]
        · simp only [id, VR]
          obtain ⟨fr, hfr⟩ := h3.blk
          exact ⟨_, _, cap, el, _, 1, setR_same _ _ _, rfl, ⟨Nat.le_refl _, h2⟩, (fun h => by cases h), shape_of_heap hfr, hsz1, by omega⟩
      · cases h
    · cases h
  · rename_i hel
    have pure_case : ∀ u : Value, x = .val u → outO ((pureR P (Go.convert src dst u)).map .val) m = some out → Does P w I ρ m ((Go.convert src dst v).run P w) id out addr := by
      rintro u rfl h
      simp only [outO] at h
      obtain ⟨av, hav, rfl⟩ := Option.map_eq_some_iff.1 h
      obtain ⟨z, hz, rfl⟩ := Option.map_eq_some_iff.1 hav
      simp only [VR] at hv
      subst hv
      exact Does.pur hS ⟨z, pureR_run P _ _ hz w, by simp only [VR]⟩
    split at h
    · rename_i el hstr hsl
      split at h
      · rename_i hu
        obtain ⟨⟨cs, n, f⟩, hr, h⟩ := Option.bind_eq_some_iff.1 h
        simp only at h
        split at h
        · rename_i hle
          obtain ⟨bs, hbs, h⟩ := Option.bind_eq_some_iff.1 h
          simp only [outV, Option.some.injEq] at h
          subst h
          obtain ⟨a, cap, rfl, h1, h2, h3, h4, h5⟩ := slView_sound hS hr hv
          refine ⟨.string ⟨bs.toArray⟩, w, I, ρ, ?_, by simp only [id, VR], hS, Step.refl _ _ _ _, fun d y h => by cases h⟩
          have hsrc := und_el hsl
          have hdst := und_str hstr
          simp only [Go.convert, Sem.run_bind, run_und hsrc, run_und hdst, Result.andThen_ok, run_und (und_u8 hu)]
          cases a with
          | none =>
            obtain ⟨e1, e2, e3⟩ := h5 rfl
            subst e1; subst e2
            simp [bytesOf] at hbs
            subst hbs
            simp [Conv.bytesToString]
            rfl
          | some ad =>
            obtain ⟨news, q1, q2, q3⟩ := InMem_list (P := P) (sz := 1) (n := n) (len := n) (cap := cap) h3 (by rw [Nat.mul_one]; exact hle) (fun e => by cases e)
            rw [Nat.mul_one] at q1 q3
            have q2' : (loadCells ad n).run P w = .ok news.toArray w := by simpa [Builtin.firstCells] using q2
            obtain ⟨ns, e1, rfl, e2⟩ := bytesOf_spec _ bs _ hbs q3
            refine run_bytesToString q2' ?_
            apply List.ext_getElem?
            intro j
            have hln : (cs.take n).length = n := by simp; omega
            by_cases hj : j < n
            · rw [List.getElem?_map]
              exact e2 j (by omega)
            · rw [List.getElem?_eq_none (by omega), List.getElem?_eq_none (by simp [e1]; omega)]
        · cases h
      · cases h
    · split at h
      · exact pure_case _ rfl h
      · cases h

/-! append -/
theorem run_zeroV {t : TypeId} {z : List Value} (h : zeroE P t = some z) : ∃ v, v.cells.size = z.length ∧ ∀ w, (zeroValue t).run P w = .ok v w := by
  obtain ⟨v, h1, h2, h3, i, h4, h5⟩ := run_zero (w := default) h
  exact ⟨v, by rw [← h2]; simp, fun w => by simp [zeroValue, typeInfo, h4, h5]⟩

/-- a row given a new place, at a later cell -/
theorem SR_move (hS : SR P w I ρ m) {b : Nat} {k : Blk} (hb : m.at_ b = some k) (hw : k.wr = true) {g o : Nat} (hg : ρ b = some (g, o)) (hfree : ρ m.next = none) (off : Nat) :
    SR P w I (setR ρ m.next (g, o + off)) ((m.put b none).push ⟨k.cells.drop off, k.el, k.kind, true⟩) ∧ Step w I ρ m w I (setR ρ m.next (g, o + off)) ((m.put b none).push ⟨k.cells.drop off, k.el, k.kind, true⟩) := by
  have hext := setR_ext (ρ := ρ) (b := m.next) (x := (g, o + off)) hfree
  have hk := keeps_refl w I
  have hB := hS.blk b k g o hb hg
  have hold : ∀ b' k' x y, ((m.put b none).push ⟨k.cells.drop off, k.el, k.kind, true⟩).at_ b' = some k' → setR ρ m.next (g, o + off) b' = some (x, y) →
      (b' = m.next ∧ k' = ⟨k.cells.drop off, k.el, k.kind, true⟩ ∧ x = g ∧ y = o + off) ∨ (b' ≠ m.next ∧ b' ≠ b ∧ m.at_ b' = some k' ∧ ρ b' = some (x, y)) := by
    intro b' k' x y h1 h2
    by_cases e : b' = m.next
    · subst e
      simp [Mem.push, Mem.put] at h1
      simp [setR] at h2
      exact .inl ⟨rfl, h1.symm, h2.1.symm, h2.2.symm⟩
    · simp [Mem.push, Mem.put, e] at h1
      simp [setR, e] at h2
      exact .inr ⟨e, h1.1, h1.2, h2⟩
  refine ⟨⟨fun b' k' x y h1 h2 => ?_, fun b1 b2 k1 k2 x o1 o2 h1 h2 h3 h4 h5 => ?_, hS.lt⟩, ⟨rfl, rfl, rfl, Nat.le_refl _, fun _ _ _ => rfl, fun _ _ h => h, fun _ h => h, fun _ h => .inl h, hext, fun b' h1 h2 => ?_, fun x hx => ?_, by simp [Mem.push, Mem.put]⟩⟩
  · rcases hold b' k' x y h1 h2 with ⟨rfl, rfl, rfl, rfl⟩ | ⟨_, _, h3, h4⟩
    · obtain ⟨arr, fr, hh, hc⟩ := hB.cells
      refine ⟨AllOne_drop hB.one _, ⟨arr, fr, hh, ?_⟩, fun _ => hB.wr hw, fun h => by cases h⟩
      simp only at hc ⊢
      split at hc
      · rename_i hf; rw [if_pos hf]; exact VRs_congr (VRs_drop hc off) fun j _ => by rw [Nat.add_assoc]
      · rename_i hf; rw [if_neg hf]; exact VRs_congr (VRs_drop (VRs_keep hk hext _ _ hc) off) fun j _ => by rw [Nat.add_assoc]
    · exact BR_keep hk hext (hS.blk b' k' x y h3 h4) rfl (fun hwr => ((hS.blk b' k' x y h3 h4).wr hwr).1)
  · rcases hold b1 k1 x o1 h1 h3 with ⟨rfl, rfl, rfl, rfl⟩ | ⟨n1, n2, q1, q2⟩
    · rcases hold b2 k2 _ o2 h2 h4 with ⟨rfl, _⟩ | ⟨_, n3, q3, q4⟩
      · rfl
      · exact absurd (hS.inj b b2 k k2 _ o o2 hb q3 hg q4 hw).symm n3
    · rcases hold b2 k2 x o2 h2 h4 with ⟨rfl, rfl, rfl, rfl⟩ | ⟨_, n3, q3, q4⟩
      · exact absurd (hS.inj b1 b k1 k _ o1 o q1 hb q2 hg h5) n2
      · exact hS.inj b1 b2 k1 k2 x o1 o2 q1 q3 q2 q4 h5
  · unfold setR at h2
    split at h2
    · rename_i e; subst e; simp [Mem.push, Mem.put]
    · exact absurd h1 h2
  · obtain ⟨b', k', y, h1, h2, h3⟩ := hx
    rcases hold b' k' x y h1 h3 with ⟨rfl, rfl, rfl, rfl⟩ | ⟨_, _, q3, q4⟩
    · exact .inl ⟨b, k, o, hb, hw, hg⟩
    · exact .inl ⟨b', k', y, q3, h2, q4⟩

theorem notInt_und {t2 : TypeId} (h2 : notInt P t2 = true) : ∃ d, P.underlying t2 = some d ∧ ∀ k, d ≠ .int k := by
  unfold notInt at h2
  split at h2
  · cases h2
  · rename_i d hne hd
    exact ⟨d, hd, hne⟩
  · cases h2

theorem matches_false {d : TypeDesc} (h : ∀ k, d ≠ .int k) : (match (generalizing := false) d with | .int _ => true | _ => false) = false := by
  cases d <;> first | rfl | exact absurd rfl (h _)

theorem run_append_grows {t t2 ty el : TypeId} {sz y : Nat} (hel : elE P t = some el) (h2 : notInt P t2 = true) (hsz : szE P el = some sz) (hy : byE P el = some y) {z : Value} (hz : ∀ w, (zeroValue el).run P w = .ok z w)
    {base : Option Addr} {len cap n : Nat} {xv : Value} (hlen : (Builtin.lenOf xv).run P w = .ok n w) {old news : List Value} (hnews : (Builtin.firstCells sz n xv).run P w.drew = .ok news.toArray w.drew)
    (hold : (Builtin.firstCells sz len (.slice base len cap)).run P w.drew = .ok old.toArray w.drew) (hroom : (len + n) * y ≤ 140737488355328) (hroom2 : len + n ≤ 140737488355328) (hg : cap < len + n) :
    ∃ c, len + n ≤ c ∧ (Builtin.append_ #[t, t2] ty #[.slice base len cap, xv]).run P w = .ok (.slice (some ⟨w.heap.size, 0, none⟩) (len + n) c) (w.drew.alloc (.cells (old.toArray ++ news.toArray ++ Builtin.zeroCells z.cells (c - (len + n))) el)) := by
  obtain ⟨d2, hd2, hnz⟩ := notInt_und h2
  obtain ⟨i, hi, rfl⟩ := run_info hy
  obtain ⟨c, hc⟩ : ∃ c, c = (Question.appendCap (len + n) cap el).cut (w.tape w.drawn (.appendCap (len + n) cap el)) := ⟨_, rfl⟩
  refine ⟨c, by rw [hc]; simp only [Question.cut]; omega, ?_⟩
  have hns := growslice_fits (bytes := i.bytes) hg hroom
  have hn1 : ¬ (len + n ≤ cap) := by omega
  have hn2 : ¬ (281474976710656 < Builtin.nextslicecap (len + n) cap * i.bytes) := by omega
  have hn3 : ¬ ((9223372036854775807 : Int) < (len : Int) + (n : Int)) := by omega
  have hti : ∀ w, (typeInfo el).run P w = .ok i w := fun w => by simp [typeInfo, hi]
  have hm := matches_false hnz
  simp [Builtin.append_, run_und (und_el hel), run_und hd2, run_sz hsz, hti, hlen, hn1, hn2, hn3, Question.forced, hz, hnews, hold, newRow, hm, ← hc, Array.append_assoc]
  congr 2
  apply Array.ext'
  simp [List.append_assoc]

theorem run_append_fits {t t2 ty el : TypeId} {sz : Nat} (hel : elE P t = some el) (h2 : notInt P t2 = true) (hsz : szE P el = some sz)
    {base : Option Addr} {len cap n : Nat} {xv : Value} (hlen : (Builtin.lenOf xv).run P w = .ok n w) {news : List Value} (hnews : (Builtin.firstCells sz n xv).run P w = .ok news.toArray w)
    (hfit : len + n ≤ cap) {w' : World} (hr : (match base with | some a => storeCells (a.add (len * sz)) news | none => pure () : Sem Unit).run P w = .ok () w') : (Builtin.append_ #[t, t2] ty #[.slice base len cap, xv]).run P w = .ok (.slice base (len + n) cap) w' := by
  obtain ⟨d2, hd2, hnz⟩ := notInt_und h2
  have hm := matches_false hnz
  cases base with
  | none =>
    simp at hr
    subst hr
    simp [Builtin.append_, run_und (und_el hel), run_und hd2, run_sz hsz, hlen, hfit, hnews, hm]
  | some a =>
    simp only at hr
    simp [Builtin.append_, run_und (und_el hel), run_und hd2, run_sz hsz, hlen, hfit, hnews, hm, hr]

theorem keeps_drew (w : World) (I : Nat → Prop) : Keeps w w.drew I I := ⟨fun _ h => h, fun _ _ => rfl, fun _ _ h => h⟩
theorem VR_drew {av : AV} {v : Value} (h : VR P w I ρ av v) : VR P w.drew I ρ av v := VR_keep (keeps_drew w I) (fun _ _ h => h) av v h
theorem SR_drew (hS : SR P w I ρ m) : SR P w.drew I ρ m :=
  ⟨fun b k g o h1 h2 => BR_keep (keeps_drew w I) (fun _ _ h => h) (hS.blk b k g o h1 h2) rfl (fun hw => ((hS.blk b k g o h1 h2).wr hw).1), hS.inj, hS.lt⟩

theorem zeroCells_size (z : Array Value) (n : Nat) : (Builtin.zeroCells z n).size = n * z.size := by simp [Builtin.zeroCells]

theorem VRs_cat {as bs : List AV} {xs ys : List Value} {arr : Array Value} (hl : xs.length = as.length) (ha : VRs P w I ρ as (fun j => xs[j]?)) (hb : VRs P w I ρ bs (fun j => ys[j]?)) (hy : ys.length = bs.length) :
    VRs P w I ρ (as ++ bs) (fun j => (xs.toArray ++ ys.toArray ++ arr)[j]?) := VRs_iff.2 fun j c hj => by
  rcases Nat.lt_or_ge j as.length with h | h
  · rw [List.getElem?_append_left h] at hj
    obtain ⟨u, h1, h2⟩ := VRs_at ha hj
    exact ⟨u, by rw [Array.append_assoc, Array.getElem?_append_left (by simp; omega)]; simpa using h1, h2⟩
  · rw [List.getElem?_append_right h] at hj
    have hjb := (List.getElem?_eq_some_iff.1 hj).1
    obtain ⟨u, h1, h2⟩ := VRs_at hb hj
    refine ⟨u, ?_, h2⟩
    rw [Array.getElem?_append_left (by simp; omega), Array.getElem?_append_right (by simp; omega)]
    simp only [List.size_toArray, List.getElem?_toArray, hl]
    exact h1

theorem appE_sound (hS : SR P w I ρ m) {t t2 ty el : TypeId} (hel : elE P t = some el) (h2 : notInt P t2 = true) {s x : AV} {out : Out} (h : appE P el m s x = some out) (hfree : ∀ b, m.next ≤ b → b < out.m.next → ρ b = none)
    {sv xv : Value} (hs : VR P w I ρ s sv) (hx : VR P w I ρ x xv) (addr : Value) : Does P w I ρ m ((Builtin.append_ #[t, t2] ty #[sv, xv]).run P w) id out addr := by
  unfold appE at h
  obtain ⟨sz, hsz, h⟩ := Option.bind_eq_some_iff.1 h
  obtain ⟨y, hy, h⟩ := Option.bind_eq_some_iff.1 h
  obtain ⟨zl, hzl, h⟩ := Option.bind_eq_some_iff.1 h
  obtain ⟨⟨new, n⟩, hnew, h⟩ := Option.bind_eq_some_iff.1 h
  obtain ⟨⟨cs, len, f⟩, hsv, h⟩ := Option.bind_eq_some_iff.1 h
  simp only at h
  split at h
  · rename_i hc
    obtain ⟨c1, c2, c3⟩ := hc
    obtain ⟨z, hz0, hz⟩ := run_zeroV hzl
    obtain ⟨l1, l2, l3, l4⟩ := srcE_sound hS hnew hx
    obtain ⟨_, _, _, l4'⟩ := srcE_sound (SR_drew hS) hnew (VR_drew hx)
    obtain ⟨base, cap, rfl, b1, b2, b3, b4, b5⟩ := slView_sound hS hsv hs
    have hnewt : new.take (n * sz) = new := by rw [← l2]; exact List.take_length
    -- growing
    have grow : cap < len + n → len * sz ≤ cs.length → ∀ (m1 : Mem), m1.next = m.next → SR P w I ρ m1 → Step w I ρ m w I ρ m1 → ρ m.next = none →
        Does P w I ρ m ((Builtin.append_ #[t, t2] ty #[.slice base len cap, xv]).run P w) id ⟨.sl m1.next 0 (len + n) (len + n) false, m1.push ⟨cs.take (len * sz) ++ new, el, .flat, true⟩, none⟩ addr := by
      intro hg hlc m1 hm1 hS1 hst hf
      obtain ⟨news, n1, n2, n3⟩ := l4' n (Nat.le_refl _)
      have hin : InMem P w.drew I base cs := by
        cases base with
        | none => exact b3
        | some ad => exact ⟨b3.1, VRs_keep (keeps_drew w I) (fun _ _ h => h) _ _ b3.2⟩
      obtain ⟨old, o1, o2, o3⟩ := InMem_list (P := P) (sz := sz) (n := len) (len := len) (cap := cap) hin hlc (fun e => (b5 e).2.1)
      obtain ⟨c, hc1, hrun⟩ := run_append_grows (ty := ty) hel h2 hsz hy hz l1 n2 o2 c1 c2 hg
      have hA := news_of_alloc (w := w) (w1 := w.drew) (arr := old.toArray ++ news.toArray ++ Builtin.zeroCells z.cells (c - (len + n))) (ty := el) ⟨rfl, rfl, rfl, rfl⟩
      have hlt : (cs.take (len * sz)).length = len * sz := by simp; omega
      rw [hnewt] at n3
      obtain ⟨a, b⟩ := SR_push (k := ⟨cs.take (len * sz) ++ new, el, .flat, true⟩) hA hS1 (by rw [hm1]; exact hf) rfl (AllOne_append (AllOne_take b4 _) l3) (by
        simp only [if_true]
        exact VRs_keep (⟨fun _ h => h, fun _ _ => rfl, fun _ _ h => h⟩ : Keeps w.drew w I I) (fun _ _ h => h) _ _ (VRs_cat (by rw [o1, hlt]) o3 n3 (by rw [n1, l2])))
      refine ⟨_, _, _, _, hrun, ?_, a, hst.trans b, fun d y h => by cases h⟩
      simp only [id, VR]
      obtain ⟨fr, hfr⟩ := hA.blk
      refine ⟨_, _, c, el, _, sz, setR_same _ _ _, rfl, ⟨Nat.le_refl _, hc1⟩, (fun h => by cases h), shape_of_heap hfr, hsz, ?_⟩
      simp only [Array.size_append, List.size_toArray, zeroCells_size, o1, n1, hz0, c3]
      rw [← Nat.add_mul, ← Nat.add_mul]
      have : len + n + (c - (len + n)) = c := by omega
      rw [this]
      omega
    split at h
    · rename_i hf
      have hcap : cap = len := b2 hf
      split at h
      · rename_i hn0
        simp only [outV, Option.some.injEq] at h
        subst h
        subst hn0
        obtain ⟨news, n1, n2, n3⟩ := l4 0 (Nat.le_refl _)
        have hnil : news = [] := List.eq_nil_of_length_eq_zero (by rw [n1, Nat.zero_mul])
        subst hnil
        have hrun := run_append_fits (P := P) (w := w) (ty := ty) hel h2 hsz l1 n2 (base := base) (len := len) (cap := cap) (by omega) (w' := w) (by cases base <;> rfl)
        exact ⟨_, w, I, ρ, hrun, hs, hS, Step.refl _ _ _ _, fun d y h => by cases h⟩
      · rename_i hn0
        split at h
        · rename_i hlc
          simp only [outV, Option.some.injEq] at h
          subst h
          exact grow (by omega) hlc m rfl hS (Step.refl _ _ _ _) (hfree m.next (Nat.le_refl _) (by simp [Mem.push]))
        · cases h
    · cases s with
      | sl b off len' c' f' =>
        simp only at h
        obtain ⟨k, hk, h⟩ := Option.bind_eq_some_iff.1 h
        split at h
        · rename_i hc'
          obtain ⟨d1, d2, d3⟩ := hc'
          simp only [outV, Option.some.injEq] at h
          subst h
          simp only [slView, hk] at hsv
          obtain ⟨kc, ke, kk, kw⟩ := k
          simp only at d1 d2 d3 hsv
          subst d1; subst d2
          cases kk with
          | var => simp at hsv
          | hole => simp at hsv
          | flat =>
            simp only [Option.some.injEq, Prod.mk.injEq] at hsv
            obtain ⟨rfl, rfl, rfl⟩ := hsv
            have hcl : (kc.drop off).length = len' * sz := by simp; omega
            have htk : (kc.drop off).take (len' * sz) = kc.drop off := by rw [← hcl]; exact List.take_length
            have hfr : ρ m.next = none := hfree m.next (Nat.le_refl _) (by simp [Mem.push, Mem.put])
            rcases Nat.lt_or_ge cap (len' + n) with hg | hfit
            · obtain ⟨e1, e2⟩ := SR_drop hS b
              have := grow hg (by omega) (m.put b none) rfl e1 e2 hfr
              rw [htk] at this
              exact this
            · simp only [VR] at hs
              obtain ⟨g, o, cap', ty', n', s', hb, heq, ⟨hl1, hl2⟩, hl3, hsh, hss, hroom⟩ := hs
              simp only [Value.slice.injEq] at heq
              obtain ⟨rfl, _, rfl⟩ := heq
              have hB := hS.blk b _ g o hk hb
              obtain ⟨arr, fr, hh, hcells⟩ := hB.cells
              have hty := shape_of_heap hh
              rw [hsh] at hty
              simp only [Option.some.injEq, Prod.mk.injEq] at hty
              obtain ⟨ht1, ht2⟩ := hty
              rw [ht1] at hss hsh
              rw [ht2] at hsh hroom
              rw [hsz, Option.some.injEq] at hss
              subst hss
              obtain ⟨news, n1, n2, n3⟩ := l4 n (Nat.le_refl _)
              rw [hnewt] at n3
              have hle : (len' + n) * sz ≤ cap * sz := Nat.mul_le_mul_right _ hfit
              rw [Nat.add_mul] at hle
              have hone := VRs_one (P := P) (w := w) (I := I) (ρ := noneR) l3 (by rw [n1, l2]) n3
              have hw1 := run_write (P := P) (w := w) (o := o + off + len' * sz) (vs := news) hh (frozen_of_wr hB rfl hh) (by rw [n1]; omega) hone
              have hrun := run_append_fits (P := P) (w := w) (ty := ty) hel h2 hsz l1 n2 (base := some ⟨g, o + off, none⟩) (len := len') (cap := cap) hfit (by simpa only [Addr.add_lit] using hw1)
              obtain ⟨s1, s2⟩ := SR_write (k' := ⟨kc ++ new, ke, .flat, true⟩) hS hk rfl hb (vs := news) (p := o + off + len' * sz) ⟨rfl, rfl, AllOne_append hB.one l3⟩ (fun arr0 fr0 e0 hc0 arr' e1 e2 => by
                simp only [if_true] at hc0 ⊢
                rw [hh] at e0
                simp only [Option.some.injEq, Obj.cells.injEq] at e0
                obtain ⟨rfl, _, _⟩ := e0
                refine VRs_iff.2 fun j c hj => ?_
                simp only [e2]
                rcases Nat.lt_or_ge j kc.length with hlt | hge
                · rw [List.getElem?_append_left hlt] at hj
                  rw [if_neg (by omega)]
                  exact VRs_at hc0 hj
                · rw [List.getElem?_append_right hge] at hj
                  have hjb := (List.getElem?_eq_some_iff.1 hj).1
                  obtain ⟨u, h1, h2⟩ := VRs_at n3 hj
                  rw [if_pos (by omega)]
                  exact ⟨u, by rw [show o + j - (o + off + len' * sz) = j - kc.length by omega]; exact h1, h2⟩)
              obtain ⟨s3, s4⟩ := SR_move s1 (b := b) (k := ⟨kc ++ new, ke, .flat, true⟩) (by simp [Mem.put]) rfl hb hfr off
              have hmem : ((m.put b (some ⟨kc ++ new, ke, .flat, true⟩)).put b none).push ⟨(kc ++ new).drop off, ke, .flat, true⟩ = (m.put b none).push ⟨kc.drop off ++ new, ke, .flat, true⟩ := by
                have e1 : (m.put b (some ⟨kc ++ new, ke, .flat, true⟩)).put b none = m.put b none := by
                  simp only [Mem.put, Mem.mk.injEq, true_and]
                  funext j
                  by_cases e : j = b <;> simp [e]
                rw [e1, List.drop_append_of_le_length (by omega)]
              simp only at s3 s4
              rw [hmem] at s3 s4
              refine ⟨_, _, _, _, hrun, ?_, s3, s2.trans s4, fun d y h => by cases h⟩
              simp only [id, VR]
              refine ⟨g, o + off, cap, ke, arr.size, sz, setR_same _ _ _, rfl, ⟨Nat.le_refl _, hfit⟩, (fun h => by cases h), ?_, hsz, by omega⟩
              exact s2.shape _ _ hsh
        · cases h
      | _ => simp at h
  · cases h
end
end Go.Tw
