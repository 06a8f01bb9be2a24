import Derived.Test.YtaekhhlgnbhnpaaGreatPtcG14
set_option linter.unusedVariables false
set_option linter.unusedSimpArgs false
set_option maxRecDepth 10000
namespace Go.Proofs.YtaekhhlgnbhnpaaGreat
open Go Go.Tw Go.Proofs
def pairsA (L : List (Int × AV)) : List AV := L.flatMap fun x => [intV x.1, x.2]
theorem pairsA_append (a b : List (Int × AV)) : pairsA (a ++ b) = pairsA a ++ pairsA b := by simp [pairsA]
def insP (x : Int × AV) : List (Int × AV) → List (Int × AV)
 | [] => [x]
 | y :: l => if y.1 < x.1 then x :: y :: l else y :: insP x l
def sortL (L : List (Int × AV)) : List (Int × AV) := L.foldr insP []
theorem insP_perm (x : Int × AV) : ∀ l, (insP x l).Perm (x :: l)
 | [] => .refl _
 | y :: l => by
   unfold insP
   split
   · exact .refl _
   · exact ((insP_perm x l).cons y).trans (.swap x y l)
theorem sortL_perm : ∀ L, (sortL L).Perm L
 | [] => .refl _
 | x :: L => (insP_perm x (sortL L)).trans ((sortL_perm L).cons x)
theorem insP_pw (x : Int × AV) : ∀ l, l.Pairwise (fun a b => b.1 < a.1) → (∀ y ∈ l, y.1 ≠ x.1) → (insP x l).Pairwise (fun a b => b.1 < a.1)
 | [], _, _ => List.pairwise_singleton _ _
 | y :: l, h, hn => by
   unfold insP
   rw [List.pairwise_cons] at h
   split
   · rename_i hlt
     rw [List.pairwise_cons]
     refine ⟨fun z hz => ?_, List.pairwise_cons.2 h⟩
     rcases List.mem_cons.1 hz with rfl | hz
     · exact hlt
     · have := h.1 z hz; omega
   · rename_i hlt
     rw [List.pairwise_cons]
     refine ⟨fun z hz => ?_, insP_pw x l h.2 fun z hz => hn z (by simp [hz])⟩
     rw [(insP_perm x l).mem_iff, List.mem_cons] at hz
     rcases hz with rfl | hz
     · have := hn y (by simp); omega
     · exact h.1 z hz
theorem sortL_pw : ∀ L : List (Int × AV), (L.map (·.1)).Nodup → (sortL L).Pairwise (fun a b => b.1 < a.1)
 | [], _ => .nil
 | x :: L, h => by
   simp only [List.map_cons, List.nodup_cons] at h
   refine insP_pw x _ (sortL_pw L h.2) fun y hy => ?_
   have hy : y ∈ sortL L := hy
   rw [(sortL_perm L).mem_iff] at hy
   intro e
   exact h.1 (List.mem_map.2 ⟨y, hy, e⟩)
abbrev Trip := Int × Nat × List Int
def tripA (x : Trip) : Int × AV := (x.1, .sl x.2.1 0 x.2.2.length x.2.2.length false)
def nestO : Nat → List Trip → List AV
 | _, [] => []
 | n, x :: X => intV x.1 :: .sl n 0 x.2.2.length x.2.2.length false :: nestO (n + 1) X
def nestR (X : List Trip) : List (TypeId × List AV) := X.map fun x => (3, intsA x.2.2)
theorem nest_canon (m : Mem) (k : Nat) : ∀ (X : List Trip) (ids : List (Nat × Nat)) (rows : List (TypeId × List AV)), (∀ x ∈ X, m.at_ x.2.1 = some ⟨intsA x.2.2, 3, .flat, true⟩) → (X.map (·.2.1)).Nodup → (∀ x ∈ X, ∀ i ∈ ids, i.1 ≠ x.2.1) →
   canons Tryz.prog m k ids rows (pairsA (X.map tripA)) = some (nestO rows.length X, ids ++ X.map (fun x => (x.2.1, 0)), rows ++ nestR X)
 | [], ids, rows, _, _, _ => by
   have : pairsA (([] : List Trip).map tripA) = [] := rfl
   rw [this]
   cases k <;> (unfold canons; simp [nestO, nestR])
 | x :: X, ids, rows, h1, h2, h3 => by
   have k3 : kindT Tryz.prog 3 = .flat := by kernel_rfl
   simp only [List.map_cons, List.nodup_cons] at h2
   have e : pairsA ((x :: X).map tripA) = intV x.1 :: .sl x.2.1 0 x.2.2.length x.2.2.length false :: pairsA (X.map tripA) := rfl
   have ha := h1 x (by simp)
   have hids : ids.any (fun i => i.1 == x.2.1) = false := by
     rw [List.any_eq_false]
     intro i hi
     simpa using h3 x (by simp) i hi
   have ih := nest_canon m k X (ids ++ [(x.2.1, 0)]) (rows ++ [(3, intsA x.2.2)]) (fun y hy => h1 y (by simp [hy])) h2.2 (fun y hy i hi => by
     rcases List.mem_append.1 hi with hi | hi
     · exact h3 y (by simp [hy]) i hi
     · simp at hi
       subst hi
       intro e
       exact h2.1 (List.mem_map.2 ⟨y, hy, e.symm⟩))
   have hv : canon Tryz.prog m k ids rows (intV x.1) = some (intV x.1, ids, rows) := still_val _ m k ids rows
   have hs : canon Tryz.prog m k ids rows (.sl x.2.1 0 x.2.2.length x.2.2.length false) = some (.sl rows.length 0 x.2.2.length x.2.2.length false, ids ++ [(x.2.1, 0)], rows ++ [(3, intsA x.2.2)]) := by
     cases k <;> (unfold canon; simp only [ha, hids, k3, Option.bind_some, if_true, List.drop_zero, Bool.false_eq_true, ne_eq, not_true_eq_false, or_self, if_false])
   rw [e]
   have hc : ∀ (c : AV) (cs : List AV) (i : List (Nat × Nat)) (r : List (TypeId × List AV)), canons Tryz.prog m k i r (c :: cs) = (canon Tryz.prog m k i r c).bind fun r => (canons Tryz.prog m k r.2.1 r.2.2 cs).map fun s => (r.1 :: s.1, s.2) := by
     intro c cs i r
     cases k <;> (rw [canons])
   rw [hc, hv, Option.bind_some]
   simp only
   rw [hc, hs, Option.bind_some]
   simp only
   rw [ih]
   simp [nestO, nestR, List.append_assoc]
theorem fzVs_cons {P : Program} {rows : List (TypeId × List AV)} {d : Nat} {c : AV} {cs : List AV} : fzVs P rows d (c :: cs) = fzV P rows d c :: fzVs P rows d cs := by
 cases d <;> (rw [fzVs])
theorem fzOks_cons {P : Program} {rows : List (TypeId × List AV)} {d : Nat} {c : AV} {cs : List AV} : fzOks P rows d (c :: cs) = (fzOk P rows d c && fzOks P rows d cs) := by
 cases d <;> (rw [fzOks])
theorem nest_fz (P0 : List (TypeId × List AV)) (d : Nat) : ∀ (X : List Trip) (n : Nat), (∀ j x, X[j]? = some x → P0[n + j]? = some (3, intsA x.2.2)) → fzVs Tryz.prog P0 d (nestO n X) = X.flatMap (fun x => [intV x.1, .tree x.2.2.length x.2.2.length (intsA x.2.2) false]) ∧ fzOks Tryz.prog P0 d (nestO n X) = true
 | [], n, _ => by
   cases d <;> (unfold nestO fzVs fzOks; exact ⟨rfl, rfl⟩)
 | x :: X, n, h => by
   have k3 : kindT Tryz.prog 3 = .flat := by kernel_rfl
   have ih := nest_fz P0 d X (n + 1) fun j y hy => by
     have := h (j + 1) y (by simpa using hy)
     rw [← this]; congr 1; omega
   have h0 := h 0 x rfl
   rw [Nat.add_zero] at h0
   have hg : P0.getD n (0, []) = (3, intsA x.2.2) := by rw [List.getD_eq_getElem?_getD, h0]; rfl
   have e1 : fzV Tryz.prog P0 d (intV x.1) = intV x.1 := by cases d <;> (unfold intV fzV; rfl)
   have e2 : fzV Tryz.prog P0 d (.sl n 0 x.2.2.length x.2.2.length false) = .tree x.2.2.length x.2.2.length (intsA x.2.2) false := by
     cases d <;> (unfold fzV; simp only [hg, k3, if_true, List.drop_zero])
   have e3 : fzOk Tryz.prog P0 d (intV x.1) = true := by cases d <;> (unfold intV fzOk; rfl)
   have e4 : fzOk Tryz.prog P0 d (.sl n 0 x.2.2.length x.2.2.length false) = true := by
     cases d <;> (unfold fzOk; simp [h0, k3])
   constructor
   · have : fzVs Tryz.prog P0 d (nestO n (x :: X)) = fzV Tryz.prog P0 d (intV x.1) :: fzV Tryz.prog P0 d (.sl n 0 x.2.2.length x.2.2.length false) :: fzVs Tryz.prog P0 d (nestO (n + 1) X) := by
       show fzVs Tryz.prog P0 d (intV x.1 :: .sl n 0 x.2.2.length x.2.2.length false :: nestO (n + 1) X) = _
       rw [fzVs_cons, fzVs_cons]
     rw [this, e1, e2, ih.1]
     rfl
   · have : fzOks Tryz.prog P0 d (nestO n (x :: X)) = (fzOk Tryz.prog P0 d (intV x.1) && (fzOk Tryz.prog P0 d (.sl n 0 x.2.2.length x.2.2.length false) && fzOks Tryz.prog P0 d (nestO (n + 1) X))) := by
       show fzOks Tryz.prog P0 d (intV x.1 :: .sl n 0 x.2.2.length x.2.2.length false :: nestO (n + 1) X) = _
       rw [fzOks_cons, fzOks_cons]
     rw [this, e3, e4, ih.2]
     rfl
def insT (x : Trip) : List Trip → List Trip
 | [] => [x]
 | y :: l => if y.1 < x.1 then x :: y :: l else y :: insT x l
def sortT (L : List Trip) : List Trip := L.foldr insT []
theorem insT_map (x : Trip) : ∀ l : List Trip, insP (tripA x) (l.map tripA) = (insT x l).map tripA
 | [] => rfl
 | y :: l => by
   have ih := insT_map x l
   unfold insT
   show (if (tripA y).1 < (tripA x).1 then _ else tripA y :: insP (tripA x) (l.map tripA)) = _
   rw [ih]
   show (if y.1 < x.1 then _ else _) = _
   split <;> rfl
theorem sortT_map : ∀ L : List Trip, sortL (L.map tripA) = (sortT L).map tripA
 | [] => rfl
 | x :: L => by
   have ih := sortT_map L
   show insP (tripA x) (sortL (L.map tripA)) = _
   rw [ih, insT_map]
   rfl
theorem insT_perm (x : Trip) : ∀ l, (insT x l).Perm (x :: l)
 | [] => .refl _
 | y :: l => by
   unfold insT
   split
   · exact .refl _
   · exact ((insT_perm x l).cons y).trans (.swap x y l)
theorem sortT_perm : ∀ L, (sortT L).Perm L
 | [] => .refl _
 | x :: L => (insT_perm x (sortT L)).trans ((sortT_perm L).cons x)
def slB : AV → Nat
 | .sl b _ _ _ _ => b
 | _ => 0
def trip (E : Ents) (A : List AV) (j : Nat) : Trip := ((E.getD j (0, [])).1, slB (A.getD j nilS), (E.getD j (0, [])).2)
theorem tally_end {m : Mem} {g : Nat} {E : Ents} {A : List AV} {hs : List (Int × Int)} {N : Nat} {S : List Nat} (hM : MapI m g E A) (hE : EI hs N 0 E) (hN : hs.length = N) (hnd : S.Nodup) (hlt : ∀ j ∈ S, j < E.length) (hall : ∀ j, j < E.length → j ∈ S) :
   ((S.map fun j => ((E.getD j (0, [])).1, A.getD j nilS)).map (·.1)).Nodup ∧ (∀ x ∈ S.map fun j => ((E.getD j (0, [])).1, A.getD j nilS), oneA x.2 = true) ∧ ∃ X : List Trip, sortL (S.map fun j => ((E.getD j (0, [])).1, A.getD j nilS)) = X.map tripA ∧ (∀ x ∈ X, m.at_ x.2.1 = some ⟨intsA x.2.2, 3, .flat, true⟩ ∧ x.2.1 < m.next) ∧ (X.map (·.2.1)).Nodup ∧ X.map (fun x => (x.1, x.2.2)) = (versF hs).map (fun v => (v, cellsN hs v N)) := by
 have hat : ∀ j, j < E.length → ∃ ev b, E[j]? = some ev ∧ A[j]? = some (.sl b 0 ev.2.length ev.2.length false) ∧ m.at_ b = some ⟨intsA ev.2, 3, .flat, true⟩ ∧ b < m.next ∧ 0 < ev.1 ∧ ev.2 = cellsN hs ev.1 N ∧ ev.2 ≠ [] := by
   intro j hj
   have hja : j < A.length := by rw [hM.len]; exact hj
   have he : E[j]? = some E[j] := List.getElem?_eq_getElem hj
   have hi := hE.is _ (List.mem_of_getElem? he)
   have hck : cellsK hs E[j].1 N 0 = cellsN hs E[j].1 N := by
     unfold cellsK
     rw [List.getElem?_eq_none (by omega)]
     simp
   rw [hck] at hi
   obtain ⟨b, hb, h2, h3⟩ := (hM.own j _ _ he (List.getElem?_eq_getElem hja)).sl (List.length_pos_iff.2 hi.2.2)
   exact ⟨E[j], b, he, by rw [List.getElem?_eq_getElem hja, hb], h2, h3, hi.1, hi.2.1, hi.2.2⟩
 have htr : ∀ j, j < E.length → ((E.getD j (0, [])).1, A.getD j nilS) = tripA (trip E A j) := by
   intro j hj
   obtain ⟨ev, b, h1, h2, _⟩ := hat j hj
   simp only [trip, tripA, List.getD_eq_getElem?_getD, h1, h2, Option.getD_some, slB]
 have hL : (S.map fun j => ((E.getD j (0, [])).1, A.getD j nilS)) = (S.map (trip E A)).map tripA := by
   rw [List.map_map]
   exact List.map_congr_left fun j hj => htr j (hlt j hj)
 have hkeys : ((S.map fun j => ((E.getD j (0, [])).1, A.getD j nilS)).map (·.1)).Nodup := by
   rw [List.map_map]
   refine List.pairwise_map.2 (hnd.imp_of_mem fun {a b} ha hb hab he => ?_)
   have h1 := hlt a ha
   have h2 := hlt b hb
   simp only [Function.comp, List.getD_eq_getElem?_getD, List.getElem?_eq_getElem h1, List.getElem?_eq_getElem h2, Option.getD_some] at he
   have hp := List.pairwise_iff_getElem.1 hE.nd
   rcases Nat.lt_trichotomy a b with hh | hh | hh
   · exact hp a b (by simpa using h1) (by simpa using h2) hh (by simpa using he)
   · exact hab hh
   · exact hp b a (by simpa using h2) (by simpa using h1) hh (by simpa using he.symm)
 have hpw := sortL_pw _ hkeys
 have hperm := sortT_perm (S.map (trip E A))
 have hX : ∀ x ∈ sortT (S.map (trip E A)), ∃ j, j < E.length ∧ x = trip E A j := by
   intro x hx
   rw [hperm.mem_iff, List.mem_map] at hx
   obtain ⟨j, hj, rfl⟩ := hx
   exact ⟨j, hlt j hj, rfl⟩
 have hXs : ∀ x ∈ sortT (S.map (trip E A)), m.at_ x.2.1 = some ⟨intsA x.2.2, 3, .flat, true⟩ ∧ x.2.1 < m.next ∧ 0 < x.1 ∧ x.2.2 = cellsN hs x.1 N ∧ x.2.2 ≠ [] := by
   intro x hx
   obtain ⟨j, hj, rfl⟩ := hX x hx
   obtain ⟨ev, b, h1, h2, h3, h4, h5, h6, h7⟩ := hat j hj
   simp only [trip, List.getD_eq_getElem?_getD, h1, h2, Option.getD_some, slB]
   exact ⟨h3, h4, h5, h6, h7⟩
 refine ⟨hkeys, fun x hx => ?_, sortT (S.map (trip E A)), by rw [hL, sortT_map], fun x hx => ⟨(hXs x hx).1, (hXs x hx).2.1⟩, ?_, ?_⟩
 · rw [hL, List.mem_map] at hx
   obtain ⟨y, _, rfl⟩ := hx
   rfl
 · refine (hperm.map (·.2.1)).nodup_iff.2 ?_
   rw [List.map_map]
   refine List.pairwise_map.2 (hnd.imp_of_mem fun {a b} ha hb hab he => ?_)
   obtain ⟨ev, b1, h1, h2, _⟩ := hat a (hlt a ha)
   obtain ⟨ev', b2, h1', h2', _⟩ := hat b (hlt b hb)
   simp only [Function.comp, trip, List.getD_eq_getElem?_getD, h2, h2', Option.getD_some, slB] at he
   exact hab (hM.apart a b _ _ b1 h2 h2' rfl (by rw [he]; rfl))
 · have hvers : (sortT (S.map (trip E A))).map (·.1) = versF hs := by
     refine falls_vers ⟨?_, fun v => ?_⟩
     · rw [hL, sortT_map] at hpw
       rw [List.pairwise_map] at hpw ⊢
       exact hpw
     · constructor
       · intro hv
         obtain ⟨x, hx, rfl⟩ := List.mem_map.1 hv
         obtain ⟨_, _, h5, h6, h7⟩ := hXs x hx
         refine ⟨h5, by omega, ?_⟩
         rw [h6] at h7
         obtain ⟨c, hc⟩ := List.exists_mem_of_ne_nil _ h7
         unfold cellsN at hc
         obtain ⟨i, _, hi⟩ := List.mem_filterMap.1 hc
         split at hi
         · rename_i hh
           unfold holdsAt at hh
           cases hx2 : hs[i]? with
           | none => rw [hx2] at hh; simp at hh
           | some y =>
             rw [hx2] at hh
             simp only [Bool.or_eq_true, decide_eq_true_eq] at hh
             exact ⟨i, y, hx2, hh⟩
         · cases hi
       · rintro ⟨h1, _, i, y, hy, hh⟩
         have hil := (List.getElem?_eq_some_iff.1 hy).1
         have hne : cellsK hs v N 0 ≠ [] := by
           have : (i : Int) ∈ cellsN hs v N := by
             unfold cellsN
             rw [List.mem_filterMap]
             refine ⟨i, by rw [List.mem_range]; omega, ?_⟩
             have : holdsAt hs i v = true := by
               unfold holdsAt
               rw [hy]
               simpa using hh
             rw [if_pos this]
           intro h0
           unfold cellsK at h0
           rw [List.append_eq_nil_iff] at h0
           rw [h0.1] at this
           cases this
         obtain ⟨e, he, rfl⟩ := hE.all v h1 hne
         obtain ⟨j, hj⟩ := List.getElem?_of_mem he
         have hjl := (List.getElem?_eq_some_iff.1 hj).1
         refine List.mem_map.2 ⟨trip E A j, ?_, ?_⟩
         · rw [hperm.mem_iff]
           exact List.mem_map.2 ⟨j, hall j hjl, rfl⟩
         · simp only [trip, List.getD_eq_getElem?_getD, hj, Option.getD_some]
   rw [← hvers, List.map_map]
   exact List.map_congr_left fun x hx => by
     simp only [Function.comp]
     rw [← (hXs x hx).2.2.2.1]
theorem nestO_congr : ∀ (X Y : List Trip) (n : Nat), X.map (fun x => (x.1, x.2.2)) = Y.map (fun x => (x.1, x.2.2)) → nestO n X = nestO n Y ∧ nestR X = nestR Y
 | [], [], n, _ => ⟨rfl, rfl⟩
 | x :: X, y :: Y, n, h => by
   simp only [List.map_cons, List.cons.injEq, Prod.mk.injEq] at h
   obtain ⟨⟨h1, h2⟩, h3⟩ := h
   obtain ⟨i1, i2⟩ := nestO_congr X Y (n + 1) h3
   constructor
   · show intV x.1 :: .sl n 0 x.2.2.length x.2.2.length false :: nestO (n + 1) X = intV y.1 :: .sl n 0 y.2.2.length y.2.2.length false :: nestO (n + 1) Y
     rw [h1, h2, i1]
   · show (3, intsA x.2.2) :: nestR X = (3, intsA y.2.2) :: nestR Y
     rw [h2, i2]
 | [], _ :: _, n, h => by simp at h
 | _ :: _, [], n, h => by simp at h
def tX (hs : List (Int × Int)) : List Trip := (versF hs).map fun v => (v, 0, cellsN hs v hs.length)
def tallyR (hs : List (Int × Int)) : Res := if versF hs = [] then ⟨.tup [nilS, intV 0], []⟩ else ⟨.tup [.sl (versF hs).length 0 (versF hs).length (versF hs).length false, intV 0], nestR (tX hs) ++ [(226, nestO 0 (tX hs))]⟩
def SortSpec : Prop := ∀ (m : Mem) (b : Nat) (L : List (Int × AV)), m.at_ b = some ⟨pairsA L, 226, .var, true⟩ → (L.map (·.1)).Nodup → L.length ≤ 1000000 → (∀ x ∈ L, oneA x.2 = true) → OSpec Tryz.prog 322 [.sl b 0 L.length L.length false, .clo 323 []] m (fun v m' => v = undefA ∧ m' = m.put b (some ⟨pairsA (sortL L), 226, .var, true⟩))
def SortNil : Prop := FSpec Tryz.prog 322 [nilS, .clo 323 []] ⟨undefA, []⟩
def onceT : Nat → Bool := fun d => d != 71
theorem MapI.setM {m : Mem} {g : Nat} {E : Ents} {A : List AV} (h : MapI m g E A) {mm : Maps} (hm : mm.maps g = m.mm.maps g) : MapI (m.setM mm) g E A := ⟨by rw [← h.mp]; exact hm, h.len, fun j e a he ha => (h.own j e a he ha).setM _, h.apart⟩
theorem MapI.keep {m m' : Mem} {g : Nat} {E : Ents} {A : List AV} (h : MapI m g E A) (hm : m'.mm = m.mm) (hn : m.next ≤ m'.next) (hk : ∀ j k, m.at_ j = some k → j < m.next → k.kind = .flat → m'.at_ j = some k) : MapI m' g E A := ⟨by rw [hm]; exact h.mp, h.len, fun j e a he ha => by
 have := h.own j e a he ha
 rcases this.form with ⟨rfl, h1⟩ | ⟨b, rfl, h2, h3, h4⟩
 · exact ⟨.inl ⟨rfl, h1⟩, this.len⟩
 · exact ⟨.inr ⟨b, rfl, hk b _ h2 h3 rfl, by omega, h4⟩, this.len⟩, h.apart⟩
theorem MapI.pp {m : Mem} {g : Nat} {E : Ents} {A : List AV} (h : MapI m g E A) (x : Blk) (y : Option Blk) : MapI ((m.push x).put m.next y) g E A := h.keep rfl (by rw [put_next, push_next]; omega) fun j k hj hl _ => by rw [put_at, if_neg (by omega), push_at, if_neg (by omega)]; exact hj
theorem addE_len (v i : Int) (E : Ents) : (addE v i E).length ≤ E.length + 1 := by
 unfold addE
 split <;> simp
theorem census_Tallies_own (hso : SortSpec) (hsn : SortNil) (k r c w : Int) (v : AV) (ps : List PairB) (cells : List AV) (hv : RowV v ps cells) (hc : chkI k r c w ps = 0) : FSpec Tryz.prog 290 [parV k r c w, v] (tallyR (heldsP k r c w ps)) := by
 have hp := hv.rd.plain
 have hh := census_held k r c w v ps cells hv
 unfold heldV at hh
 rw [if_pos hc] at hh
 obtain ⟨_, _, _, hn⟩ := chk_ok hc
 have hlen := helds_len k r c w ps
 generalize hhs : heldsP k r c w ps = hs at *
 generalize hN : ps.length = N at *
 generalize hres : tallyR hs = res
 replace hres := Hid.mk hres
 have hrd : RdSl (.tree N N (intsA (flatH hs)) true) N (intsA (flatH hs)) := ⟨.inr (.inr ⟨_, true, rfl, Nat.le_refl _⟩)⟩
 replace hn := Hid.mk hn
 replace hlen := Hid.mk hlen
 refine fspec_of_body follows Tryz.func290 (by unfold Tryz.f290; rfl) (by unfold Tryz.f290; simp) onceT (by unfold Tryz.f290; simp) (by kernel_rfl) ?_; unfold Tryz.f290
 simp only [↓pre, simprocAttr, parV, sx, tys290, onceT, bne, postU, postA, postV, allocE, storeE, put_at, push_at, sr]
 refine call_plain (hh) (by simp only [parV, plQ, *]) ?_; simp only [↓pre, simprocAttr, parV, sx, tys290, onceT, bne, postU, postA, postV, allocE, storeE, put_at, push_at, hrd.len', sr]
 intro g hg
 simp only [↓pre, simprocAttr, parV, sx, tys290, onceT, bne, postU, postA, postV, allocE, storeE, put_at, push_at, hrd.len', sr]
 rw [codeW_loop]
 refine loop_intro (fun q e m => ∃ i E A, q + i = N ∧ e 8 = .val (.map (some g)) ∧ e 26 = .tree N N (intsA (flatH hs)) true ∧ e 27 = intV (N : Nat) ∧ e 28 = intV (i : Nat) ∧ Hid (MapI m g E A ∧ EI hs i 0 E ∧ E.length ≤ 2 * i)) N ⟨0, [], [], by omega, rfl, rfl, rfl, rfl, ⟨⟨by simp [Mem.setM, Maps.add]; rfl, rfl, fun j e a he => by simp at he, fun i j a b x ha => by simp at ha⟩, ei_start hs, by simp⟩⟩ ?_
 rintro q e m ⟨i, E, A, hqi, e8, e26, e27, e28, hJ⟩
 replace hqi := Hid.mk hqi
 by_cases hlt : i < N
 · have hlt' : ((i : Nat) : Int) < ((N : Nat) : Int) := by omega
   have w1 := wrap_succ (n := i) (by have := hn.out; omega)
   have hilh : i < hs.length := by have := hlen.out; omega
   obtain ⟨x, hx⟩ : ∃ x, hs[i]? = some x := ⟨_, List.getElem?_eq_getElem hilh⟩
   obtain ⟨hF1, hF2⟩ := flatH_at _ _ _ hx
   obtain ⟨ht, htl⟩ := take2 (int_at (x := []) hF1) (int_at (x := []) hF2)
   rw [List.append_nil] at ht htl
   replace hx := Hid.mk hx
   replace hilh := Hid.mk hilh
   simp only [↓pre, simprocAttr, parV, sx, tys290, onceT, bne, postU, postA, postV, allocE, storeE, put_at, push_at, e8, e26, e27, e28, hlt', hrd.addr', hlt, ht, htl, sr]
   rw [codeW_loop]
   refine loop_intro (fun q e m => ∃ kk E A, q + kk = 2 ∧ e 8 = .val (.map (some g)) ∧ e 9 = intV (i : Nat) ∧ e 10 = .tptr 0 [intV x.1, intV x.2] ∧ e 26 = .tree N N (intsA (flatH hs)) true ∧ e 27 = intV (N : Nat) ∧ e 28 = intV (i : Nat) ∧ e 33 = .agg [intV x.1, intV x.2] ∧ e 34 = intV (kk : Nat) ∧ Hid (MapI m g E A ∧ EI hs i kk E ∧ E.length ≤ 2 * i + kk)) 2 ⟨0, E, A, by omega, e8, rfl, rfl, e26, e27, e28, rfl, rfl, ⟨hJ.out.1.pp _ _, hJ.out.2⟩⟩ ?_
   rintro q2 e m2 ⟨kk, E, A, hqk, e8, e9, e10, e26, e27, e28, e33, e34, hJ2⟩
   replace hqk := Hid.mk hqk
   by_cases hkk : kk < 2
   · obtain ⟨z, hz⟩ : ∃ z, z = if kk = 0 then x.1 else x.2 := ⟨_, rfl⟩
     have hst := ei_step hx.out hJ2.out.2.1 hkk hz
     have hap : ∀ (c : Prop) [Decidable c], True := fun _ _ => trivial
     have hM := hJ2.out.1
     have hlk := hM.look z
     have hown := hM.own_look z
     have hLle : (lookL E z).length ≤ 1000000 := by
       unfold lookL
       cases hj : idxE z E with
       | none => simp
       | some j =>
         obtain ⟨e, he, _⟩ := idxE_some hj
         have := (hJ2.out.2.1.is e (List.mem_of_getElem? he)).2.1
         simp only [he, Option.map_some, Option.getD_some]
         rw [this]
         unfold cellsK
         have h1 := cellsN_le hs e.1 i
         rw [hx.out]
         simp only [List.length_append]
         have := hn.out
         split <;> simp <;> omega
     replace hLle := Hid.mk hLle
     replace hM := Hid.mk hM
     have hk2 : kk = 0 ∨ kk = 1 := by omega
     rcases hk2 with rfl | rfl
     · have e34' : e 34 = intV 0 := e34
       simp only [if_true] at hz
       subst hz
       have w2 : IntKind.i64.wrap (0 + 1) = 1 := by rfl
       by_cases c1 : 0 < x.1
       · rw [if_pos ⟨c1, .inl rfl⟩] at hst
         simp only [↓pre, simprocAttr, parV, sx, tys290, onceT, bne, postU, postA, postV, allocE, storeE, put_at, push_at, e8, e9, e10, e26, e27, e28, e33, e34', hlk, w2, c1, sr]
         refine app_keepM (kd := .flat) (sz := 1) (y := 8) (zl := [.int .i64 0]) (by kernel_rfl) hown (by kernel_rfl) (by kernel_rfl) (by kernel_rfl) rfl srcT1 (by rfl) (by have := hLle.out; omega) (by have := hLle.out; omega) ?_
         intro a' m3 ho' hn' hkeep hbl hmm
         obtain ⟨hup, hM'⟩ := hM.out.upd x.1 i hn' hkeep hbl hmm ho'
         simp only [↓pre, simprocAttr, parV, sx, tys290, onceT, bne, postU, postA, postV, allocE, storeE, put_at, push_at, e8, e9, e10, e26, e27, e28, e33, e34', hlk, w2, c1, hup, sr]
         exact ⟨q2 - 1, by have := hqk.out; omega, 1, _, _, by have := hqk.out; omega, rfl, ⟨hM', hst, by have := addE_len x.1 i E; have := hJ2.out.2.2; omega⟩⟩
       · rw [if_neg (fun h => c1 h.1)] at hst
         simp only [↓pre, simprocAttr, parV, sx, tys290, onceT, bne, postU, postA, postV, allocE, storeE, put_at, push_at, e8, e9, e10, e26, e27, e28, e33, e34', hlk, w2, c1, sr]
         exact ⟨q2 - 1, by have := hqk.out; omega, 1, _, _, by have := hqk.out; omega, rfl, ⟨hM.out, hst, by have := hJ2.out.2.2; omega⟩⟩
     · have e34' : e 34 = intV 1 := e34
       simp only [Nat.one_ne_zero, if_false, false_or] at hz hst
       subst hz
       have w2 : IntKind.i64.wrap (1 + 1) = 2 := by rfl
       by_cases c1 : 0 < x.2
       · by_cases c2 : x.2 = x.1
         · rw [if_neg (fun h => h.2 c2)] at hst
           have c3 : 0 < x.1 := by rw [← c2]; exact c1
           simp only [↓pre, simprocAttr, parV, sx, tys290, onceT, bne, postU, postA, postV, allocE, storeE, put_at, push_at, e8, e9, e10, e26, e27, e28, e33, e34', hlk, w2, c3, c2, sr]
           exact ⟨q2 - 1, by have := hqk.out; omega, 2, _, _, by have := hqk.out; omega, rfl, ⟨hM.out, hst, by have := hJ2.out.2.2; omega⟩⟩
         · rw [if_pos ⟨c1, c2⟩] at hst
           simp only [↓pre, simprocAttr, parV, sx, tys290, onceT, bne, postU, postA, postV, allocE, storeE, put_at, push_at, e8, e9, e10, e26, e27, e28, e33, e34', hlk, w2, c1, c2, sr]
           refine app_keepM (kd := .flat) (sz := 1) (y := 8) (zl := [.int .i64 0]) (by kernel_rfl) hown (by kernel_rfl) (by kernel_rfl) (by kernel_rfl) rfl srcT1 (by rfl) (by have := hLle.out; omega) (by have := hLle.out; omega) ?_
           intro a' m3 ho' hn' hkeep hbl hmm
           obtain ⟨hup, hM'⟩ := hM.out.upd x.2 i hn' hkeep hbl hmm ho'
           simp only [↓pre, simprocAttr, parV, sx, tys290, onceT, bne, postU, postA, postV, allocE, storeE, put_at, push_at, e8, e9, e10, e26, e27, e28, e33, e34', hlk, w2, c1, c2, hup, sr]
           exact ⟨q2 - 1, by have := hqk.out; omega, 2, _, _, by have := hqk.out; omega, rfl, ⟨hM', hst, by have := addE_len x.2 i E; have := hJ2.out.2.2; omega⟩⟩
       · rw [if_neg (fun h => c1 h.1)] at hst
         simp only [↓pre, simprocAttr, parV, sx, tys290, onceT, bne, postU, postA, postV, allocE, storeE, put_at, push_at, e8, e9, e10, e26, e27, e28, e33, e34', hlk, w2, c1, sr]
         exact ⟨q2 - 1, by have := hqk.out; omega, 2, _, _, by have := hqk.out; omega, rfl, ⟨hM.out, hst, by have := hJ2.out.2.2; omega⟩⟩
   · have hkk' : ¬ ((kk : Nat) : Int) < 2 := by omega
     have : kk = 2 := by have := hqk.out; omega
     subst this
     simp only [↓pre, simprocAttr, parV, sx, tys290, onceT, bne, postU, postA, postV, allocE, storeE, put_at, push_at, e8, e9, e10, e26, e27, e28, e33, e34, hkk', w1, sr]
     exact ⟨q - 1, by have := hqi.out; omega, i + 1, E, A, by have := hqi.out; omega, rfl, ⟨hJ2.out.1, ei_next hilh.out hJ2.out.2.1, by have := hJ2.out.2.2; omega⟩⟩
 · have hlt' : ¬ ((i : Nat) : Int) < ((N : Nat) : Int) := by omega
   have hiN : i = N := by have := hqi.out; omega
   subst hiN
   simp only [↓pre, simprocAttr, parV, sx, tys290, onceT, bne, postU, postA, postV, allocE, storeE, put_at, push_at, e8, e26, e27, e28, hlt', sr]
   have hM := hJ.out.1
   have hE := hJ.out.2.1
   have hEl : E.length ≤ 32 := by have := hJ.out.2.2; have := hn.out; omega
   replace hEl := Hid.mk hEl
   refine ⟨(g, zipM E A), by rw [mapT_tally]; rfl, by simp only [mapAt, hM.mp, Option.map_some], ?_⟩
   intro rr hrr
   simp only [↓pre, simprocAttr, parV, sx, tys290, onceT, bne, postU, postA, postV, allocE, storeE, put_at, push_at, e8, e26, e27, e28, sr]
   rw [codeW_loop]
   refine loop_intro (fun q e m => ∃ S lv, q + S.length = E.length ∧ e 13 = lv ∧ e 61 = .val (.pointer (some ⟨rr, 0, none⟩)) ∧ m.mm.iters rr = some (g, S) ∧ Hid (MapI m g E A ∧ S.Nodup ∧ (∀ j ∈ S, j < E.length) ∧ OwnK .var m 226 2 lv S.length (pairsA (S.map fun j => ((E.getD j (0, [])).1, A.getD j nilS))))) E.length ⟨[], nilS, by simp, rfl, rfl, by simp [Mem.setM, Maps.walk], ⟨hM.setM rfl, List.nodup_nil, fun j h => (by cases h), own_nil⟩⟩ ?_
   rintro q e m3 ⟨S, lv, hq, e13, e61, hit, hJ3⟩
   replace hq := Hid.mk hq
   replace hM := Hid.mk hM
   replace hE := Hid.mk hE
   simp only [↓pre, simprocAttr, parV, sx, tys290, onceT, bne, postU, postA, postV, allocE, storeE, put_at, push_at, e13, e61, sr]
   have hM3 := hJ3.out.1
   have hlv := hJ3.out.2.2.2
   have hzl : (zipM E A).length = E.length := by unfold zipM; rw [List.length_zipWith, hM3.len]; omega
   refine ⟨(rr, (g, S), zipM E A), by simp only [iterAt, hit, hM3.mp, Option.bind_some, Option.map_some], fun hall => ?_, fun j kv hj hjs => ?_⟩
   · simp only at hall
     simp only [hzl] at hall
     obtain ⟨hk1, hk2, X, hX1, hX2, hX3, hX4⟩ := tally_end hM3 hE.out hlen.out hJ3.out.2.1 hJ3.out.2.2.1 hall
     have hlL : (S.map fun j => ((E.getD j (0, [])).1, A.getD j nilS)).length = S.length := by simp
     generalize hLg : (S.map fun j => ((E.getD j (0, [])).1, A.getD j nilS)) = L at *
     have hXl : X.length = L.length := by
       have := (sortL_perm L).length_eq
       rw [hX1, List.length_map] at this
       exact this
     have hvl : X.length = (versF hs).length := by
       have := congrArg List.length hX4
       simpa using this
     have hSl : S.length ≤ 32 := by have := hEl.out; have := hq.out; omega
     replace hX1 := Hid.mk hX1
     replace hX4 := Hid.mk hX4
     replace hLg := Hid.mk hLg
     replace hvl := Hid.mk hvl
     replace hXl := Hid.mk hXl
     replace hlL := Hid.mk hlL
     replace hSl := Hid.mk hSl
     rcases hlv.form with ⟨rfl, h0, _⟩ | ⟨b, rfl, hb, hbl, hpos⟩
     · have hv0 : versF hs = [] := List.eq_nil_of_length_eq_zero (by have := hvl.out; have := hXl.out; have := hlL.out; omega)
       simp only [↓pre, simprocAttr, parV, sx, tys290, onceT, bne, postU, postA, postV, allocE, storeE, put_at, push_at, e13, e61, sr]
       refine call_plain (hsn) (by rfl) ?_; simp only [↓pre, simprocAttr, parV, sx, tys290, onceT, bne, postU, postA, postV, allocE, storeE, put_at, push_at, e13, e61, nilS, sr]
       rw [← hres.out]
       unfold tallyR
       rw [if_pos hv0]
       rfl
     · have hne : ¬ versF hs = [] := by
         intro h
         have h1 := hvl.out
         rw [h, List.length_nil] at h1
         have h2 := hXl.out
         have h3 := hlL.out
         omega
       have hsort := hso m3 b L hb hk1 (by have := hlL.out; have := hSl.out; omega) hk2
       rw [hlL.out] at hsort
       have hms : ∀ x ∈ X, (m3.put b (some ⟨pairsA (sortL L), 226, .var, true⟩)).at_ x.2.1 = some ⟨intsA x.2.2, 3, .flat, true⟩ := by
         intro x hx
         have h1 := (hX2 x hx).1
         rw [put_at, if_neg ?_]
         · exact h1
         · intro e
           rw [e, hb] at h1
           have h2 := congrArg Blk.kind (Option.some.inj h1)
           cases h2
       have hcn := nest_canon (m3.put b (some ⟨pairsA (sortL L), 226, .var, true⟩)) 2 X [] [] hms hX3 (fun x hx i hi => by cases hi)
       rw [← hX1.out, List.length_nil, List.nil_append, List.nil_append] at hcn
       have hany : (X.map (fun x => (x.2.1, 0))).any (fun i : Nat × Nat => i.1 == b) = false := by
         rw [List.any_eq_false]
         intro i hi
         obtain ⟨x, hx, rfl⟩ := List.mem_map.1 hi
         have h1 := (hX2 x hx).1
         intro e
         have e : x.2.1 = b := by simpa using e
         rw [e, hb] at h1
         have h2 := congrArg Blk.kind (Option.some.inj h1)
         cases h2
       have hcan : canon Tryz.prog (m3.put b (some ⟨pairsA (sortL L), 226, .var, true⟩)) 3 [] [] (.sl b 0 S.length S.length false) = some (.sl X.length 0 S.length S.length false, X.map (fun x => (x.2.1, 0)) ++ [(b, 0)], nestR X ++ [(226, nestO 0 X)]) := by
         have k9 : kindT Tryz.prog 226 = .var := by kernel_rfl
         have hnr : (nestR X).length = X.length := by simp [nestR]
         unfold canon
         simp only [put_at, if_true, Option.bind_some, k9, and_self, List.drop_zero, hcn, hany, Bool.false_eq_true, if_false, hnr]
       simp only [↓pre, simprocAttr, parV, sx, tys290, onceT, bne, postU, postA, postV, allocE, storeE, put_at, push_at, e13, e61, sr]
       refine .inr (.inr (.inl ⟨_, _, hsort, ?_⟩))
       simp only [↓pre, simprocAttr, parV, sx, tys290, onceT, bne, postU, postA, postV, allocE, storeE, put_at, push_at, e13, e61, hcan, sr]
       rw [← hres.out]
       unfold tallyR
       rw [if_neg hne]
       obtain ⟨c1, c2⟩ := nestO_congr X (tX hs) 0 (by rw [hX4.out]; unfold tX; rw [List.map_map, hlen.out]; rfl)
       have h1 := hvl.out
       have h2 := hXl.out
       have h3 := hlL.out
       have h4 : S.length = (versF hs).length := by omega
       rw [h1, h4, c1, c2]
       rfl
   · simp only at hj hjs
     obtain ⟨ev, hev, hj⟩ := Option.bind_eq_some_iff.1 (zip_at (E := E) (A := A) j ▸ hj)
     obtain ⟨av, hav, rfl⟩ := Option.map_eq_some_iff.1 hj
     have hoj := hM3.own j ev av hev hav
     have hei := hE.out.is ev (List.mem_of_getElem? hev)
     obtain ⟨b', rfl, hb', hlt'⟩ := hoj.sl (List.length_pos_iff.2 hei.2.2)
     have hel : j < E.length := (List.getElem?_eq_some_iff.1 hev).1
     have hent : entE (m3.setM (m3.mm.walk rr (g, S ++ [j]))) (.val (.pointer (some ⟨rr, 0, none⟩))) = some (.tup [.val (.int .i64 ev.1), .sl b' 0 ev.2.length ev.2.length false]) := by
       have h1 : (m3.setM (m3.mm.walk rr (g, S ++ [j]))).mm.iters rr = some (g, S ++ [j]) := by simp [Mem.setM, Maps.walk]
       have h2 : (m3.setM (m3.mm.walk rr (g, S ++ [j]))).mm.maps g = some (zipM E A) := hM3.mp
       simp only [entE, iterAt, h1, h2, Option.bind_some, Option.map_some, List.getLast?_append, List.getLast?_singleton, Option.some_or, zip_at, hev, hav]
     have hlen2 : S.length < E.length := by
       have := hJ3.out.2.1
       have h3 := hJ3.out.2.2.1
       have : (S ++ [j]).Nodup := List.nodup_append.2 ⟨this, by simp, fun a ha b hb => by simp at hb; subst hb; rintro rfl; exact hjs ha⟩
       have hle := List.Nodup.length_le_of_subset this (l₂ := List.range E.length) (fun y hy => by
         rw [List.mem_range]
         rcases List.mem_append.1 hy with hy | hy
         · exact h3 y hy
         · simp at hy; omega)
       simp at hle
       omega
     have hbs := fun m => build_var1 (P := Tryz.prog) (m := m) (t := 223) (el := 226) (a := .int .i64 ev.1) (x := .sl b' 0 ev.2.length ev.2.length false) (z := [.int .i64 0, .slice none 0 0]) (by kernel_rfl) rfl rfl rfl (by kernel_rfl) (by kernel_rfl) (by kernel_rfl) rfl
     simp only [↓pre, simprocAttr, parV, sx, tys290, onceT, bne, postU, postA, postV, allocE, storeE, put_at, push_at, e13, e61, hent, hbs, sr]
     have hlv4 : OwnK .var ((m3.setM (m3.mm.walk rr (g, S ++ [j]))).push ⟨[.val (.int .i64 ev.1), .sl b' 0 ev.2.length ev.2.length false], 226, .var, true⟩) 226 2 lv S.length _ := (hlv.setM _).push _
     refine app_keepM (kd := .var) (sz := 2) (y := 32) (zl := [.int .i64 0, .slice none 0 0]) (by kernel_rfl) hlv4 (by kernel_rfl) (by kernel_rfl) (by kernel_rfl) rfl (src1a (by kernel_rfl) rfl) (by rfl) (by have := hEl.out; omega) (by have := hEl.out; omega) ?_
     intro lv' m5 ho5 hn5 hkeep5 hbl5 hmm5
     simp only [↓pre, simprocAttr, parV, sx, tys290, onceT, bne, postU, postA, postV, allocE, storeE, put_at, push_at, e13, e61, sr]
     refine ⟨q - 1, by have := hq.out; omega, S ++ [j], lv', by have := hq.out; simp; omega, rfl, ?_, ⟨?_, ?_, ?_, ?_⟩⟩
     · rw [hmm5]; simp [Mem.push, Mem.setM, Maps.walk]
     · have hMp : MapI ((m3.setM (m3.mm.walk rr (g, S ++ [j]))).push ⟨[.val (.int .i64 ev.1), .sl b' 0 ev.2.length ev.2.length false], 226, .var, true⟩) g E A := (hM3.setM (mm := m3.mm.walk rr (g, S ++ [j])) rfl).keep rfl (by rw [push_next]; omega) fun j k hj hl _ => by rw [push_at, if_neg (by omega)]; exact hj
       exact hMp.keep hmm5 hn5 fun j k hj hl hk => hkeep5 j k hj hl (hlv4.ne_kind hj (by rw [hk]; intro h; cases h))
     · exact List.nodup_append.2 ⟨hJ3.out.2.1, by simp, fun a ha b hb => by simp at hb; subst hb; rintro rfl; exact hjs ha⟩
     · intro y hy
       rcases List.mem_append.1 hy with hy | hy
       · exact hJ3.out.2.2.1 y hy
       · simp at hy; omega
     · have e1 : (E.getD j (0, [])).1 = ev.1 := by rw [List.getD_eq_getElem?_getD, hev]; rfl
       have e2 : A.getD j nilS = .sl b' 0 ev.2.length ev.2.length false := by rw [List.getD_eq_getElem?_getD, hav]; rfl
       rw [List.length_append, List.map_append, pairsA_append, List.map_cons, List.map_nil, e1, e2]
       exact ho5
end Go.Proofs.YtaekhhlgnbhnpaaGreat