import Derived.Test.YtaekhhlgnbhnpaaGreatOzcG03
import Derived.Laws.IdiomCopy
set_option linter.unusedVariables false
set_option linter.unusedSimpArgs false
namespace Go.Tw
open Go
structure oQ (w w':World) (arr:Array Value) (ty:TypeId):Prop where
 os:w'.os=w.os
 tape:w'.tape=w.tape
 output:w'.output=w.output
 size:w'.heap.size=w.heap.size+1
 same:∀ g,g < w.heap.size→w'.heap[g]? = w.heap[g]?
 blk:∃ fr,w'.heap[w.heap.size]? = some (.cells arr ty fr)
 free:∀ j,j < arr.size→w'.frozen? ⟨w.heap.size,j,none⟩=false
theorem oQ.alloc (w:World) (arr:Array Value) (ty:TypeId):oQ w (w.alloc (.cells arr ty)) arr ty where
 os:=rfl
 tape:=rfl
 output:=rfl
 size:=by simp
 same g hg:=heap_alloc_old w _ g hg
 blk:=⟨(0,0),heap_alloc_new w _⟩
 free j _:=by
  unfold World.frozen?
  rw [heap_alloc_new w (.cells arr ty)]
  simp
theorem aaq {w1:World} (arr:Array Value) (ty:TypeId):∀ j,(w1.alloc (.cells arr ty)).frozen? ⟨w1.heap.size,j,none⟩=false:=by
 intro j
 unfold World.frozen?
 rw [heap_alloc_new w1 (.cells arr ty)]
 simp
section
variable {P:Program} {w w':World} {I:Nat→Prop} {ρ:cK} {m:aF}
theorem lO {g:Nat} {arr:Array Value} {ty:TypeId} {fr:Nat×Nat} (h:w.heap[g]? = some (.cells arr ty fr)):w.shape? g=some (ty,arr.size):=by
 simp [World.shape?,h]
theorem uB {g:Nat} (h:w'.heap[g]? = w.heap[g]?):w'.shape? g=w.shape? g:=by simp [World.shape?,h]
theorem aar {g:Nat} {x:TypeId×Nat} (h:w.shape? g=some x):g < w.heap.size:=by
 rcases Nat.lt_or_ge g w.heap.size with hl | hl
 ·exact hl
 ·simp [World.shape?,Array.getElem?_eq_none hl] at h
theorem vC {g:Nat} {o:Obj} (h:w.heap[g]? = some o):g < w.heap.size:=(Array.getElem?_eq_some_iff.1 h).1
def nQ (ρ:cK) (b:Nat) (x:Nat×Nat):cK:=fun j=>if j=b then some x else ρ j
theorem ah2 {b:Nat} {x:Nat×Nat} (h:ρ b=none):∀ j y,ρ j=some y→nQ ρ b x j=some y:=by
 intro j y hj
 unfold nQ
 split
 ·rename_i e;subst e;rw [h] at hj;cases hj
 ·exact hj
theorem wT (ρ:cK) (b:Nat) (x:Nat×Nat):nQ ρ b x b=some x:=by simp [nQ]
theorem pQ {I':Nat→Prop} {ρ':cK} (k:gT w w' I I') (hρ:∀ b x,ρ b=some x→ρ' b=some x) {x:eP} {g o:Nat} (h:BR P w I ρ x g o) (hg:w'.heap[g]? = w.heap[g]?) (hI:x.wr=true→¬ I' g):BR P w' I' ρ' x g o where
 one:=h.one
 cells:=by
  obtain ⟨arr,fr,h1,h2⟩:=h.cells
  refine ⟨arr,fr,hg.trans h1, ?_⟩
  split at h2
  ·rename_i hf;rw [if_pos hf];exact eL k (fun _ _ h=>h) _ _ h2
  ·rename_i hf;rw [if_neg hf];exact eL k hρ _ _ h2
 wr hw:=by
  refine ⟨hI hw,fun j hj n ty hs => ?_⟩
  rw [uB hg] at hs
  refine (h.wr hw).2 j ?_ n ty hs
  simpa [World.frozen?,hg] using hj
 im hw:=k.imm g (h.im hw)
 all1 hw arr ty fr he:=h.all1 hw arr ty fr (hg ▸ he)
 nostr hw hu j:=by
  have:=h.nostr hw hu j
  simpa [World.frozen?,hg] using this
theorem yQ {arr : Array Value} {k : eP} (hA : oQ w w' arr k.el) (hS : SR P w I ρ m) (hfree : ρ m.next = none) (hw : k.wr = true) (h1 : eF k.cells) (hc : bK P w I (if k.kind = .flat then dL else ρ) k.cells (fun j => arr[j]?)) (hall : ∀ v ∈ arr.toList, v.oneCell' = true) (hnf : rG P k.el = false → ∀ j, w'.frozen? ⟨w.heap.size, j, none⟩ = false) :
   SR P w' I (nQ ρ m.next (w.heap.size, 0)) (m.push k) ∧ cP w I ρ m w' I (nQ ρ m.next (w.heap.size, 0)) (m.push k) := by
 have hk : gT w w' I I := ⟨fun _ h => h, fun g hg => hA.same g (hS.lt g hg), fun g x hx => by rw [uB (hA.same g (aar hx))]; exact hx⟩
 have hext := ah2 (ρ := ρ) (b := m.next) (x := (w.heap.size, 0)) hfree
 have hlt : ∀ b k g o, m.at_ b = some k → ρ b = some (g, o) → g < w.heap.size := fun b k g o h1 h2 => by
   obtain ⟨arr, fr, h3, _⟩ := (hS.blk b k g o h1 h2).cells
   exact vC h3
 have hold : ∀ b k' g o, (m.push k).at_ b = some k' → nQ ρ m.next (w.heap.size, 0) b = some (g, o) → (b = m.next ∧ k' = k ∧ g = w.heap.size ∧ o = 0) ∨ (b ≠ m.next ∧ m.at_ b = some k' ∧ ρ b = some (g, o)) := by
   intro b k' g o h1 h2
   by_cases hb : b = m.next
   · subst hb
     simp [aF.push] at h1
     simp [nQ] at h2
     exact .inl ⟨rfl, h1.symm, h2.1.symm, h2.2.symm⟩
   · simp [aF.push, hb] at h1
     simp [nQ, hb] at h2
     exact .inr ⟨hb, h1, h2⟩
 refine ⟨⟨fun b k' g o hb hg => ?_, fun b b' k1 k2 g o o' ha hb hga hgb hwr => ?_, fun g hg => by rw [hA.size]; exact Nat.lt_succ_of_lt (hS.lt g hg), hS.mms.keep hk hext (fun g hg => ⟨hA.same g (hS.mms.lt hg), fun h => h⟩)⟩, ?_⟩
 · rcases hold b k' g o hb hg with ⟨rfl, rfl, rfl, rfl⟩ | ⟨hne, hb', hg'⟩
   · obtain ⟨fr, hfr⟩ := hA.blk
     refine ⟨h1, ⟨arr, fr, hfr, ?_⟩, fun _ => ⟨fun hI => by have := hS.lt _ hI; omega, fun j hj n ty hs => ?_⟩, (fun h => by rw [hw] at h; cases h), (fun _ arr' ty' fr' he v hv => by rw [hfr] at he; cases he; exact hall v hv), fun _ => hnf⟩
     · split at hc
       · rename_i hf; rw [if_pos hf]; simpa using eL hk (fun _ _ h => h) _ _ hc
       · rename_i hf; rw [if_neg hf]; simpa using eL hk hext _ _ hc
     · rw [lO hfr] at hs
       simp only [Option.some.injEq, Prod.mk.injEq] at hs
       rcases Nat.lt_or_ge j n with hjn | hjn
       · rw [hA.free j (by omega)] at hj; cases hj
       · exact hjn
   · exact pQ hk hext (hS.blk b k' g o hb' hg') (hA.same g (hlt b k' g o hb' hg')) (fun hwr => ((hS.blk b k' g o hb' hg').wr hwr).1)
 · rcases hold b k1 g o ha hga with ⟨rfl, rfl, rfl, rfl⟩ | ⟨hne, hb', hg'⟩
   · rcases hold b' k2 _ o' hb hgb with ⟨rfl, _⟩ | ⟨_, hb2, hg2⟩
     · rfl
     · have := hlt _ _ _ _ hb2 hg2; omega
   · rcases hold b' k2 g o' hb hgb with ⟨rfl, rfl, rfl, rfl⟩ | ⟨_, hb2, hg2⟩
     · have := hlt _ _ _ _ hb' hg'; omega
     · exact hS.inj b b' k1 k2 g o o' hb' hb2 hg' hg2 hwr
 · refine ⟨hA.os, hA.tape, hA.output, by rw [hA.size]; omega, fun g hg _ => hA.same g hg, hk.shape, fun _ h => h, fun _ h => .inl h, hext, fun b hb1 hb2 => ?_, fun g hg => ?_, by simp [aF.push]⟩
   · unfold nQ at hb2
     split at hb2
     · rename_i e; subst e; simp [aF.push]
     · exact absurd hb1 hb2
   · rcases hg with ⟨b, k', o, h1', h2', h3'⟩ | hg
     · rcases hold b k' g o h1' h3' with ⟨rfl, rfl, rfl, rfl⟩ | ⟨_, hb2, hg2⟩
       · exact .inr (Nat.le_refl _)
       · exact .inl (.inl ⟨b, k', o, hb2, h2', hg2⟩)
     · exact .inl (.inr hg)
theorem adi {arr : Array Value} {ty : TypeId} (hA : oQ w w' arr ty) (hS : SR P w I ρ m) :
   SR P w' (fun g => I g ∨ g = w.heap.size) ρ m ∧ cP w I ρ m w' (fun g => I g ∨ g = w.heap.size) ρ m := by
 have hk : gT w w' I (fun g => I g ∨ g = w.heap.size) := ⟨fun _ h => .inl h, fun g hg => hA.same g (hS.lt g hg), fun g x hx => by rw [uB (hA.same g (aar hx))]; exact hx⟩
 have hlt : ∀ b k g o, m.at_ b = some k → ρ b = some (g, o) → g < w.heap.size := fun b k g o h1 h2 => by
   obtain ⟨arr, fr, h3, _⟩ := (hS.blk b k g o h1 h2).cells
   exact vC h3
 refine ⟨⟨fun b k' g o hb hg => ?_, hS.inj, fun g hg => ?_, hS.mms.keep hk (fun _ _ h => h) (fun g hg => ⟨hA.same g (hS.mms.lt hg), fun h => h.elim id fun h => absurd (hS.mms.lt hg) (by omega)⟩)⟩, ⟨hA.os, hA.tape, hA.output, by rw [hA.size]; omega, fun g hg _ => hA.same g hg, hk.shape, fun _ h => .inl h, fun g h => ?_, fun _ _ h => h, fun b h1 h2 => absurd h1 h2, fun _ h => .inl h, Nat.le_refl _⟩⟩
 · refine pQ hk (fun _ _ h => h) (hS.blk b k' g o hb hg) (hA.same g (hlt b k' g o hb hg)) (fun hwr hI => ?_)
   rcases hI with hI | hI
   · exact ((hS.blk b k' g o hb hg).wr hwr).1 hI
   · have := hlt b k' g o hb hg; omega
 · rw [hA.size]
   rcases hg with hg | hg
   · exact Nat.lt_succ_of_lt (hS.lt g hg)
   · omega
 · rcases h with h | h
   · exact .inl h
   · exact .inr (.inr (by omega))
theorem ah3 (hS:SR P w I ρ m) (b:Nat):SR P w I ρ (m.put b none)∧cP w I ρ m w I ρ (m.put b none):=by
 have hold:∀ b' k,(m.put b none).at_ b'=some k→m.at_ b'=some k:=fun b' k h=>by
  simp [aF.put] at h
  exact h.2
 refine ⟨⟨fun b' k g o h1 h2=>hS.blk b' k g o (hold b' k h1) h2,fun b1 b2 k1 k2 g o o' h1 h2=>hS.inj b1 b2 k1 k2 g o o' (hold _ _ h1) (hold _ _ h2),hS.lt,hS.mms⟩,⟨rfl,rfl,rfl,Nat.le_refl _,fun _ _ _=>rfl,fun _ _ h=>h,fun _ h=>h,fun _ h => .inl h,fun _ _ h=>h,fun b h1 h2=>absurd h1 h2,fun g hg => ?_,Nat.le_refl _⟩⟩
 rcases hg with ⟨b',k,o,h1,h2,h3⟩ | hg
 ·exact .inl (.inl ⟨b',k,o,hold _ _ h1,h2,h3⟩)
 ·exact .inl (.inr hg)
theorem ah4 (hS : SR P w I ρ m) {b : Nat} {k : eP} (hb : m.at_ b = some k) {g o : Nat} (hg : ρ b = some (g, o)) :
   SR P w (fun x => I x ∨ x = g) ρ (m.put b (some ⟨k.cells, k.el, k.kind, false⟩)) ∧ cP w I ρ m w (fun x => I x ∨ x = g) ρ (m.put b (some ⟨k.cells, k.el, k.kind, false⟩)) := by
 have hk : gT w w I (fun x => I x ∨ x = g) := ⟨fun _ h => .inl h, fun _ _ => rfl, fun _ _ h => h⟩
 have hold : ∀ b' k', (m.put b (some ⟨k.cells, k.el, k.kind, false⟩)).at_ b' = some k' → (b' = b ∧ k' = ⟨k.cells, k.el, k.kind, false⟩) ∨ (b' ≠ b ∧ m.at_ b' = some k') := fun b' k' h => by
   by_cases e : b' = b
   · simp [aF.put, e] at h; exact .inl ⟨e, h.symm⟩
   · simp [aF.put, e] at h; exact .inr ⟨e, h⟩
 have hB := hS.blk b k g o hb hg
 have hglt : g < w.heap.size := by
   obtain ⟨arr, fr, h3, _⟩ := hB.cells
   exact vC h3
 have hgw : I g ∨ Wr ρ m g := by
   cases hw : k.wr with
   | false => exact .inl (hB.im hw)
   | true => exact .inr (.inl ⟨b, k, o, hb, hw, hg⟩)
 refine ⟨⟨fun b' k' g' o' h1 h2 => ?_, fun b1 b2 k1 k2 g' o1 o2 h1 h2 h3 h4 h5 => ?_, fun x hx => ?_, hS.mms.keep hk (fun _ _ h => h) (fun x hx => ⟨rfl, fun h => h.elim id fun h => by subst h; obtain ⟨arr, fr, h3, _⟩ := hB.cells; exact (hS.mms.not_cells hx h3).elim⟩)⟩, ⟨rfl, rfl, rfl, Nat.le_refl _, fun _ _ _ => rfl, fun _ _ h => h, fun _ h => .inl h, fun x hx => ?_, fun _ _ h => h, fun b h1 h2 => absurd h1 h2, fun x hx => ?_, Nat.le_refl _⟩⟩
 · rcases hold b' k' h1 with ⟨rfl, rfl⟩ | ⟨hne, h1'⟩
   · rw [hg] at h2
     simp only [Option.some.injEq, Prod.mk.injEq] at h2
     obtain ⟨rfl, rfl⟩ := h2
     refine ⟨hB.one, ?_, (fun h => by cases h), (fun _ => .inr rfl), (fun h => by cases h), (fun h => by cases h)⟩
     obtain ⟨arr, fr, h3, h4⟩ := hB.cells
     refine ⟨arr, fr, h3, ?_⟩
     simp only at h4 ⊢
     split at h4
     · rename_i hf; rw [if_pos hf]; exact eL hk (fun _ _ h => h) _ _ h4
     · rename_i hf; rw [if_neg hf]; exact eL hk (fun _ _ h => h) _ _ h4
   · refine pQ hk (fun _ _ h => h) (hS.blk b' k' g' o' h1' h2) rfl (fun hwr hI => ?_)
     rcases hI with hI | rfl
     · exact ((hS.blk b' k' g' o' h1' h2).wr hwr).1 hI
     · exact hne (hS.inj b' b k' k _ o' o h1' hb h2 hg hwr)
 · rcases hold b1 k1 h1 with ⟨rfl, rfl⟩ | ⟨hne, h1'⟩
   · cases h5
   · rcases hold b2 k2 h2 with ⟨rfl, rfl⟩ | ⟨_, h2'⟩
     · exact hS.inj b1 _ k1 k g' o1 o2 h1' hb h3 h4 h5
     · exact hS.inj b1 b2 k1 k2 g' o1 o2 h1' h2' h3 h4 h5
 · rcases hx with hx | rfl
   · exact hS.lt x hx
   · exact hglt
 · rcases hx with hx | rfl
   · exact .inl hx
   · exact hgw.imp id .inl
 · rcases hx with ⟨b', k', o', h1, h2, h3⟩ | hx
   · rcases hold b' k' h1 with ⟨rfl, rfl⟩ | ⟨_, h1'⟩
     · cases h2
     · exact .inl (.inl ⟨b', k', o', h1', h2, h3⟩)
   · exact .inl (.inr hx)
def ah5 (P:Program) (w:World) (I:Nat→Prop) (ρ:cK) (m m':aF) (R:(Nat→Prop)→Prop):Prop:=∃ I',SR P w I' ρ m'∧cP w I ρ m w I' ρ m'∧m'.next=m.next∧R I'
mutual
theorem yR:∀ (av:AV) (v:Value),iS av=false→VR P w I ρ av v→VR P w I dL av v
 | .val x,v,h,hv=>by simpa only [VR] using hv
 | .tree _ _ _ _,v,h,hv=>by simpa only [VR] using hv
 | .tptr _ _,v,h,hv=>by simpa only [VR] using hv
 | .emp _ _,v,h,hv=>by simpa only [VR] using hv
 | .agg cs,v,h,hv=>by
  simp only [iS] at h
  simp only [VR] at hv ⊢
  obtain ⟨vs,h1,h2,h3,h4⟩:=hv
  exact ⟨vs,h1,h2,h3,yS cs _ h h4⟩
 | .tup cs,v,h,hv=>by
  simp only [iS] at h
  simp only [VR] at hv ⊢
  obtain ⟨vs,h1,h2,h4⟩:=hv
  exact ⟨vs,h1,h2,yS cs _ h h4⟩
 | .clo f cs,v,h,hv=>by
  simp only [iS] at h
  simp only [VR] at hv ⊢
  obtain ⟨vs,h1,h2,h4⟩:=hv
  exact ⟨vs,h1,h2,yS cs _ h h4⟩
 | .sl _ _ _ _ _,v,h,hv=>by simp [iS] at h
 | .ptr _ _,v,h,hv=>by simp [iS] at h
theorem yS:∀ (cs:List AV) (get:Nat→Option Value),jG cs=false→bK P w I ρ cs get→bK P w I dL cs get
 | [],get,h,hv=>by simp only [bK]
 | c::cs,get,h,hv=>by
  simp only [jG,Bool.or_eq_false_iff] at h
  simp only [bK] at hv ⊢
  obtain ⟨⟨v,h1,h2⟩,h3⟩:=hv
  exact ⟨⟨v,h1,yR c v h.1 h2⟩,yS cs _ h.2 h3⟩
end
mutual
theorem ao8 : ∀ (av : AV) (m m' : aF) (I : Nat → Prop) (av' : AV) (v : Value), fz m av = some (av', m') → SR P w I ρ m → VR P w I ρ av v →
   ah5 P w I ρ m m' fun I' => VR P w I' dL av' v ∧ (dF av = true → dF av' = true)
 | .val x, m, m', I, av', v, h, hS, hv => by
   simp only [fz, Option.some.injEq, Prod.mk.injEq] at h
   obtain ⟨rfl, rfl⟩ := h
   exact ⟨I, hS, cP.refl _ _ _ _, rfl, by simpa only [VR] using hv, fun h => h⟩
 | .tree n c cs f, m, m', I, av', v, h, hS, hv => by
   simp only [fz, Option.some.injEq, Prod.mk.injEq] at h
   obtain ⟨rfl, rfl⟩ := h
   exact ⟨I, hS, cP.refl _ _ _ _, rfl, by simpa only [VR] using hv, fun h => h⟩
 | .tptr o cs, m, m', I, av', v, h, hS, hv => by
   simp only [fz, Option.some.injEq, Prod.mk.injEq] at h
   obtain ⟨rfl, rfl⟩ := h
   exact ⟨I, hS, cP.refl _ _ _ _, rfl, by simpa only [VR] using hv, fun h => h⟩
 | .emp c f, m, m', I, av', v, h, hS, hv => by
   simp only [fz, Option.some.injEq, Prod.mk.injEq] at h
   obtain ⟨rfl, rfl⟩ := h
   exact ⟨I, hS, cP.refl _ _ _ _, rfl, by simpa only [VR] using hv, fun h => h⟩
 | .agg cs, m, m', I, av', v, h, hS, hv => by
   simp only [fz] at h
   obtain ⟨r, hr, h⟩ := awD h
   simp only [Prod.mk.injEq] at h
   obtain ⟨rfl, rfl⟩ := h
   simp only [VR] at hv
   obtain ⟨vs, rfl, hs, h1, hc⟩ := hv
   obtain ⟨I', a, b, c, d1, d2, d3⟩ := wU cs m r.2 I r.1 _ hr hS hc
   refine ⟨I', a, b, c, ?_, fun h => by simp [dF] at h⟩
   simp only [VR]
   exact ⟨vs, rfl, by rw [hs, d2], d3 h1, d1⟩
 | .sl b off len c full, m, m', I, av', v, h, hS, hv => by
   simp only [fz] at h
   split at h
   · rename_i cells el wr hb
     simp only [Option.some.injEq, Prod.mk.injEq] at h
     obtain ⟨rfl, rfl⟩ := h
     simp only [VR] at hv
     obtain ⟨g, o, cap, ty, n, s, hg, rfl, hlc, hf, _⟩ := hv
     obtain ⟨h1, h2⟩ := ah4 hS hb hg
     have hB := hS.blk b _ g o hb hg
     refine ⟨_, h1, h2, rfl, ?_, fun _ => rfl⟩
     simp only [VR]
     refine ⟨g, o + off, cap, rfl, .inr rfl, hlc, hf, kJ hB.one _, ?_⟩
     have h3 := kX (BR.flatAt hB rfl) off
     refine iB (eL (⟨fun _ h => .inl h, fun _ _ => rfl, fun _ _ h => h⟩ : gT w w I _) (fun _ _ h => h) _ _ h3) fun j _ => by rw [Nat.add_assoc]
   · rename_i cells el wr hb
     split at h
     · cases h
     rename_i hnr
     simp only [Option.some.injEq, Prod.mk.injEq] at h
     obtain ⟨rfl, rfl⟩ := h
     simp only [VR] at hv
     obtain ⟨g, o, cap, ty, n, s, hg, rfl, hlc, hf, _⟩ := hv
     obtain ⟨h1, h2⟩ := ah4 hS hb hg
     have hB := hS.blk b _ g o hb hg
     refine ⟨_, h1, h2, rfl, ?_, fun _ => rfl⟩
     simp only [VR]
     refine ⟨g, o + off, cap, rfl, .inr rfl, hlc, hf, kJ hB.one _, ?_⟩
     have h3 := kX (yS cells _ (by simpa using hnr) hB.cellsAt) off
     refine iB (eL (⟨fun _ h => .inl h, fun _ _ => rfl, fun _ _ h => h⟩ : gT w w I _) (fun _ _ h => h) _ _ h3) fun j _ => by rw [Nat.add_assoc]
   · cases h
 | .ptr b off, m, m', I, av', v, h, hS, hv => by simp [fz] at h
 | .tup cs, m, m', I, av', v, h, hS, hv => by simp [fz] at h
 | .clo f [], m, m', I, av', v, h, hS, hv => by
   simp only [fz, Option.some.injEq, Prod.mk.injEq] at h
   obtain ⟨rfl, rfl⟩ := h
   refine ⟨I, hS, cP.refl _ _ _ _, rfl, ?_, fun h => h⟩
   simp only [VR, bK] at hv ⊢
   exact hv
 | .clo f (c :: cs), m, m', I, av', v, h, hS, hv => by simp [fz] at h
theorem wU : ∀ (cs : List AV) (m m' : aF) (I : Nat → Prop) (cs' : List AV) (get : Nat → Option Value), fzs m cs = some (cs', m') → SR P w I ρ m → bK P w I ρ cs get →
   ah5 P w I ρ m m' fun I' => bK P w I' dL cs' get ∧ cs'.length = cs.length ∧ (eF cs → eF cs')
 | [], m, m', I, cs', get, h, hS, hv => by
   simp only [fzs, Option.some.injEq, Prod.mk.injEq] at h
   obtain ⟨rfl, rfl⟩ := h
   exact ⟨I, hS, cP.refl _ _ _ _, rfl, by simp only [bK], rfl, fun h => h⟩
 | c :: cs, m, m', I, cs', get, h, hS, hv => by
   simp only [fzs] at h
   obtain ⟨r, hr, h⟩ := awC h
   obtain ⟨s, hs, h⟩ := awD h
   simp only [Prod.mk.injEq] at h
   obtain ⟨rfl, rfl⟩ := h
   simp only [bK] at hv
   obtain ⟨⟨v, hv1, hv2⟩, hv3⟩ := hv
   obtain ⟨I1, a1, b1, c1, d1, d2⟩ := ao8 c m r.2 I r.1 v hr hS hv2
   obtain ⟨I2, a2, b2, c2, e1, e2, e3⟩ := wU cs r.2 s.2 I1 s.1 _ hs a1 (ahT b1 hS hv3)
   refine ⟨I2, a2, b1.trans b2, c2.trans c1, ?_, by simp [e2], fun h => ?_⟩
   · simp only [bK]
     exact ⟨⟨v, hv1, pP (b2.keeps a1) (fun _ _ h => h) _ _ d1⟩, e1⟩
   · intro x hx
     rcases List.mem_cons.1 hx with rfl | hx
     · exact d2 (h c (by simp))
     · exact e3 (fun y hy => h y (by simp [hy])) x hx
end
theorem afi (g : Nat) : ∀ (vs : List Value) (o : Nat) (w : World) (arr : Array Value) (ty : TypeId) (fr : Nat × Nat), w.heap[g]? = some (.cells arr ty fr) →
   ∃ arr', (w.setCells g o vs).heap[g]? = some (.cells arr' ty fr) ∧ arr'.size = arr.size ∧ ∀ i, arr'[i]? = if o ≤ i ∧ i < o + vs.length ∧ i < arr.size then vs[i - o]? else arr[i]?
 | [], o, w, arr, ty, fr, h => ⟨arr, h, rfl, fun i => by rw [if_neg (by simp; omega)]⟩
 | v :: vs, o, w, arr, ty, fr, h => by
   have h1 : (w.setCell ⟨g, o, none⟩ v).heap[g]? = some (.cells (arr.setIfInBounds o v) ty fr) := by simp [World.setCell, Array.getElem?_modify, h]
   obtain ⟨arr', h2, h3, h4⟩ := afi g vs (o + 1) _ _ ty fr h1
   refine ⟨arr', h2, by rw [h3]; simp, fun i => ?_⟩
   rw [h4 i]
   simp only [Array.size_setIfInBounds, List.length_cons]
   by_cases hi : o = i
   · subst hi
     by_cases hb : o < arr.size
     · rw [if_neg (by omega), if_pos (by omega), Array.getElem?_setIfInBounds_self_of_lt hb]; simp
     · rw [if_neg (by omega), if_neg (by omega), Array.getElem?_eq_none (by simp; omega), Array.getElem?_eq_none (by omega)]
   · by_cases hc : o + 1 ≤ i ∧ i < o + 1 + vs.length ∧ i < arr.size
     · rw [if_pos hc, if_pos (by omega)]
       obtain ⟨d, hd⟩ : ∃ d, i - o = d + 1 := ⟨i - o - 1, by omega⟩
       rw [hd, List.getElem?_cons_succ]
       congr 1; omega
     · rw [if_neg hc, if_neg (by omega), Array.getElem?_setIfInBounds_ne hi]
theorem s7 (g:Nat):∀ (vs:List Value) (o:Nat) (w:World) (k:Nat),k≠g→(w.setCells g o vs).heap[k]? = w.heap[k]?
 | [],_,_,_,_=>rfl
 | v::vs,o,w,k,h=>by rw [World.setCells,s7 g vs (o+1) _ k h,heap_setCell_other _ _ _ _ h]
theorem afj (g:Nat):∀ (vs:List Value) (o:Nat) (w:World),(w.setCells g o vs).os=w.os∧(w.setCells g o vs).tape=w.tape∧(w.setCells g o vs).output=w.output∧(w.setCells g o vs).heap.size=w.heap.size
 | [],_,_=>⟨rfl,rfl,rfl,rfl⟩
 | v::vs,o,w=>by
  obtain ⟨h1,h2,h3,h4⟩:=afj g vs (o+1) (w.setCell ⟨g,o,none⟩ v)
  exact ⟨h1,h2,h3,by rw [World.setCells,h4];simp⟩
theorem uC {cs:List AV} (h1:eF cs) {vs:List Value} (hl:vs.length=cs.length) (hv:bK P w I ρ cs (fun j=>vs[j]?)):∀ v∈vs,v.oneCell'=true:=by
 intro v hm
 obtain ⟨j,hj,rfl⟩:=List.mem_iff_getElem.1 hm
 obtain ⟨u,hu,hr⟩:=fY hv (List.getElem?_eq_getElem (show j < cs.length by omega))
 simp [List.getElem?_eq_getElem hj] at hu
 subst hu
 exact ahV (h1 _ (List.getElem_mem _)) hr
theorem abS {arr : Array Value} {ty : TypeId} {fr : Nat × Nat} {g o : Nat} (hh : w.heap[g]? = some (.cells arr ty fr)) (hf : ∀ j, w.frozen? ⟨g, j, none⟩ = true → arr.size ≤ j) {vs : List Value} (hl : o + vs.length ≤ arr.size) (h1 : ∀ v ∈ vs, v.oneCell' = true) :
   (storeCells ⟨g, o, none⟩ vs).run P w = .ok () (w.setCells g o vs) := by
 have := run_storeCells_cells (P := P) g o vs 0 w (fun j hj => by rw [cell_of_row w g _ arr ty fr hh, Nat.add_zero, Array.getElem?_eq_getElem (by omega)]; rfl) (fun j hj => by
   cases hq : w.frozen? ⟨g, o + 0 + j, none⟩ with
   | false => rfl
   | true => have := hf _ hq; omega) h1
 simpa using this
theorem wV (hS : SR P w I ρ m) {b : Nat} {k k' : eP} (hb : m.at_ b = some k) (hw : k.wr = true) {g o : Nat} (hg : ρ b = some (g, o)) {vs : List Value} {p : Nat}
   (hk' : k'.el = k.el ∧ k'.wr = true ∧ eF k'.cells) (hvs1 : ∀ v ∈ vs, v.oneCell' = true)
   (hc : ∀ arr fr, w.heap[g]? = some (.cells arr k.el fr) → bK P w I (if k.kind = .flat then dL else ρ) k.cells (fun j => arr[o + j]?) → ∀ arr' : Array Value, arr'.size = arr.size →
     (∀ i, arr'[i]? = if p ≤ i ∧ i < p + vs.length ∧ i < arr.size then vs[i - p]? else arr[i]?) → bK P w I (if k'.kind = .flat then dL else ρ) k'.cells (fun j => arr'[o + j]?)) :
   SR P (w.setCells g p vs) I ρ (m.put b (some k')) ∧ cP w I ρ m (w.setCells g p vs) I ρ (m.put b (some k')) := by
 have hB := hS.blk b k g o hb hg
 obtain ⟨arr, fr, hh, hcells⟩ := hB.cells
 obtain ⟨arr', h1, h2, h3⟩ := afi g vs p w arr k.el fr hh
 obtain ⟨r1, r2, r3, r4⟩ := afj g vs p w
 have hng : ¬ I g := (hB.wr hw).1
 have hsh : ∀ x y, w.shape? x = some y → (w.setCells g p vs).shape? x = some y := by
   intro x y hx
   by_cases e : x = g
   · subst e
     rw [lO h1, h2, ← lO hh]; exact hx
   · rw [uB (s7 g vs p w x e)]; exact hx
 have hk : gT w (w.setCells g p vs) I I := ⟨fun _ h => h, fun x hx => s7 g vs p w x (fun e => hng (e ▸ hx)), hsh⟩
 have hold : ∀ b' k1, (m.put b (some k')).at_ b' = some k1 → (b' = b ∧ k1 = k') ∨ (b' ≠ b ∧ m.at_ b' = some k1) := fun b' k1 h => by
   by_cases e : b' = b
   · simp [aF.put, e] at h; exact .inl ⟨e, h.symm⟩
   · simp [aF.put, e] at h; exact .inr ⟨e, h⟩
 have hne : ∀ b' k1 x o', b' ≠ b → m.at_ b' = some k1 → ρ b' = some (x, o') → x ≠ g := by
   rintro b' k1 x o' hn h1' h2' rfl
   exact hn (hS.inj b b' k k1 _ o o' hb h1' hg h2' hw).symm
 refine ⟨⟨fun b' k1 x o' h1' h2' => ?_, fun b1 b2 k1 k2 x o1 o2 q1 q2 q3 q4 q5 => ?_, fun x hx => by rw [r4]; exact hS.lt x hx, hS.mms.keep hk (fun _ _ h => h) (fun x hx => ⟨s7 g vs p w x (fun e => by subst e; exact (hS.mms.not_cells hx hh).elim), fun h => h⟩)⟩, ⟨r1, r2, r3, by rw [r4]; exact Nat.le_refl _, fun x hx hn => s7 g vs p w x (fun e => hn (.inl ⟨b, k, o, hb, hw, by rw [e]; exact hg⟩)), hsh, fun _ h => h, fun _ h => .inl h, fun _ _ h => h, fun b h1 h2 => absurd h1 h2, fun x hx => ?_, Nat.le_refl _⟩⟩
 · rcases hold b' k1 h1' with ⟨rfl, rfl⟩ | ⟨hn, h1''⟩
   · rw [hg] at h2'
     simp only [Option.some.injEq, Prod.mk.injEq] at h2'
     obtain ⟨rfl, rfl⟩ := h2'
     refine ⟨hk'.2.2, ⟨arr', fr, by rw [hk'.1]; exact h1, ?_⟩, fun _ => ⟨hng, fun j hj n ty hs => ?_⟩, (fun h => by rw [hk'.2.1] at h; cases h), fun _ arr2 ty2 fr2 he v hv => ?_, fun _ hu j => by rw [World.frozen?_setCells]; exact hB.nostr hw (hk'.1 ▸ hu) j⟩
     · have := hc arr fr hh hcells arr' h2 h3
       split at this
       · rename_i hf; rw [if_pos hf]; exact eL hk (fun _ _ h => h) _ _ this
       · rename_i hf; rw [if_neg hf]; exact eL hk (fun _ _ h => h) _ _ this
     · rw [World.frozen?_setCells] at hj
       refine (hB.wr hw).2 j hj n ty ?_
       rw [lO h1, h2] at hs
       rw [lO hh]; exact hs
     · rw [h1] at he
       simp only [Option.some.injEq, Obj.cells.injEq] at he
       obtain ⟨rfl, _, _⟩ := he
       obtain ⟨i, hi, rfl⟩ := List.mem_iff_getElem.1 hv
       have hq := h3 i
       rw [Array.getElem?_eq_getElem (by simpa using hi)] at hq
       split at hq
       · exact hvs1 _ (List.mem_of_getElem? hq.symm)
       · exact hB.all1 hw arr k.el fr hh _ (by simpa using Array.mem_of_getElem? hq.symm)
   · have hx := hne b' k1 x o' hn h1'' h2'
     exact pQ hk (fun _ _ h => h) (hS.blk b' k1 x o' h1'' h2') (s7 g vs p w x hx) (fun hwr => ((hS.blk b' k1 x o' h1'' h2').wr hwr).1)
 · rcases hold b1 k1 q1 with ⟨rfl, rfl⟩ | ⟨hn1, q1'⟩
   · rcases hold b2 k2 q2 with ⟨rfl, rfl⟩ | ⟨hn2, q2'⟩
     · rfl
     · exact hS.inj _ b2 k k2 x o1 o2 hb q2' q3 q4 hw
   · rcases hold b2 k2 q2 with ⟨rfl, rfl⟩ | ⟨hn2, q2'⟩
     · exact hS.inj b1 _ k1 k x o1 o2 q1' hb q3 q4 q5
     · exact hS.inj b1 b2 k1 k2 x o1 o2 q1' q2' q3 q4 q5
 · rcases hx with ⟨b', k1, o', h1', h2', h3'⟩ | hx
   · rcases hold b' k1 h1' with ⟨rfl, rfl⟩ | ⟨hn, h1''⟩
     · exact .inl (.inl ⟨_, k, o', hb, hw, h3'⟩)
     · exact .inl (.inl ⟨b', k1, o', h1'', h2', h3'⟩)
   · exact .inl (.inr hx)
end
end Go.Tw