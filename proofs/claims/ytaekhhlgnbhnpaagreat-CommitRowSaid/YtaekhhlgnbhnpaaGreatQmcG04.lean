import Derived.Test.YtaekhhlgnbhnpaaGreatQmcG03
import Derived.Laws.IdiomCopy
set_option linter.unusedVariables false
set_option linter.unusedSimpArgs false
open Array renaming getElem?_eq_none→azf,getElem?_eq_getElem→azn
open Go.World renaming frozen?→azi,shape?→azj
open List renaming mem_iff_getElem→azl,getElem?_eq_getElem→azm
open Nat renaming le_refl→aza
open Option renaming map_eq_some_iff→ay1
open Option.some renaming injEq→ay0
open Prod.mk renaming injEq→azk
namespace Go.Tw
open Go
structure qN (w w':World) (arr:Array Value) (ty:TypeId):Prop where
 os:w'.os=w.os
 tape:w'.tape=w.tape
 output:w'.output=w.output
 size:w'.heap.size=w.heap.size+1
 same:∀ g,g < w.heap.size→w'.heap[g]? = w.heap[g]?
 blk:∃ fr,w'.heap[w.heap.size]? = some (.cells arr ty fr)
 free:∀ j,j < arr.size→w'.frozen? ⟨w.heap.size,j,none⟩=false
theorem qN.alloc (w:World) (arr:Array Value) (ty:TypeId):qN w (w.alloc (.cells arr ty)) arr ty where
 os:=rfl
 tape:=rfl
 output:=rfl
 size:=by simp
 same g hg:=heap_alloc_old w _ g hg
 blk:=⟨(0,0),heap_alloc_new w _⟩
 free j _:=by
  unfold azi;rw [heap_alloc_new w (.cells arr ty)];simp
theorem abu {w1:World} (arr:Array Value) (ty:TypeId):∀ j,(w1.alloc (.cells arr ty)).frozen? ⟨w1.heap.size,j,none⟩=false:=by
 intro j;unfold azi;rw [heap_alloc_new w1 (.cells arr ty)];simp
section
variable {P:Program} {w w':World} {I:Nat→Prop} {ρ:cA} {m:aF}
theorem mJ {g:Nat} {arr:Array Value} {ty:TypeId} {a:Nat×Nat} (h:w.heap[g]? = some (.cells arr ty a)):w.shape? g=some (ty,arr.size):=by
 simp [azj,h]
theorem xW {g:Nat} (h:w'.heap[g]? = w.heap[g]?):w'.shape? g=w.shape? g:=by simp [azj,h]
theorem acP {g:Nat} {x:TypeId×Nat} (h:w.shape? g=some x):g < w.heap.size:=by
 rcases Nat.lt_or_ge g w.heap.size with a | a
 ·exact a
 ·simp [azj,azf a] at h
theorem zI {g:Nat} {o:Obj} (h:w.heap[g]? = some o):g < w.heap.size:=(Array.getElem?_eq_some_iff.1 h).1
def pS (ρ:cA) (b:Nat) (x:Nat×Nat):cA:=fun j=>if j=b then some x else ρ j
theorem ajl {b:Nat} {x:Nat×Nat} (h:ρ b=none):∀ j y,ρ j=some y→pS ρ b x j=some y:=by
 intro j y a;unfold pS;split
 ·rename_i e;subst e;rw [h] at a;cases a
 ·exact a
theorem zJ (ρ:cA) (b:Nat) (x:Nat×Nat):pS ρ b x b=some x:=by simp [pS]
theorem tY {e:Nat→Prop} {ρ':cA} (k:iL w w' I e) (p:∀ b x,ρ b=some x→ρ' b=some x) {x:eZ} {g o:Nat} (h:BR P w I ρ x g o) (a:w'.heap[g]? = w.heap[g]?) (m:x.wr=true→¬ e g):BR P w' e ρ' x g o where
 one:=h.one
 cells:=by
  obtain ⟨arr,d,l,f⟩:=h.cells;refine ⟨arr,d,a.trans l, ?_⟩;split at f
  ·rename_i c;rw [if_pos c];exact eN k (fun _ _ h=>h) _ _ f
  ·rename_i c;rw [if_neg c];exact eN k p _ _ f
 wr hw:=by
  refine ⟨m hw,fun j i n ty hs => ?_⟩;rw [xW a] at hs;refine (h.wr hw).2 j ?_ n ty hs;simpa [azi,a] using i
 im hw:=k.imm g (h.im hw)
 all1 hw arr ty d he:=h.all1 hw arr ty d (a ▸ he)
 nostr hw hu j:=by
  have:=h.nostr hw hu j;simpa [azi,a] using this
theorem aaH {arr:Array Value} {k:eZ} (p:qN w w' arr k.el) (r:SR P w I ρ m) (u:ρ m.next=none) (hw:k.wr=true) (t:dY k.cells) (L:bB P w I (if k.kind = .flat then dA else ρ) k.cells (fun j=>arr[j]?)) (C:∀ v∈arr.toList,v.oneCell'=true) (G:tR P k.el=false→∀ j,w'.frozen? ⟨w.heap.size,j,none⟩=false) :
 SR P w' I (pS ρ m.next (w.heap.size,0)) (m.push k)∧cM w I ρ m w' I (pS ρ m.next (w.heap.size,0)) (m.push k):=by
 have F:iL w w' I I:=⟨fun _ h=>h,fun g f=>p.same g (r.lt g f),fun g x X=>by rw [xW (p.same g (acP X))];exact X⟩
 have d:=ajl (ρ:=ρ) (b:=m.next) (x:=(w.heap.size,0)) u;have A:∀ b k g o,m.at_ b=some k→ρ b=some (g,o)→g < w.heap.size:=fun b k g o t z=>by
  obtain ⟨arr,V,h3,_⟩:=(r.blk b k g o t z).cells;exact zI h3
 have c:∀ b k' g o,(m.push k).at_ b=some k'→pS ρ m.next (w.heap.size,0) b=some (g,o)→(b=m.next∧k'=k∧g=w.heap.size∧o=0)∨(b≠m.next∧m.at_ b=some k'∧ρ b=some (g,o)):=by
  intro b k' g o t z;by_cases s:b=m.next
  ·subst s;simp [aF.push] at t;simp [pS] at z;exact .inl ⟨rfl,t.symm,z.1.symm,z.2.symm⟩
  ·simp [aF.push,s] at t;simp [pS,s] at z;exact .inr ⟨s,t,z⟩
 refine ⟨⟨fun b k' g o s f => ?_,fun b R W M g o S ha s O E y => ?_,fun g f=>by rw [p.size];exact Nat.lt_succ_of_lt (r.lt g f),r.mms.keep F d (fun g f=>⟨p.same g (r.mms.lt f),fun h=>h⟩)⟩, ?_⟩
 ·rcases c b k' g o s f with ⟨rfl,rfl,rfl,rfl⟩ | ⟨N,i,l⟩
  ·obtain ⟨V,B⟩:=p.blk;refine ⟨t,⟨arr,V,B, ?_⟩,fun _=>⟨fun hI=>by have:=r.lt _ hI;omega,fun j U n ty hs => ?_⟩,(fun h=>by rw [hw] at h;cases h),(fun _ Y a1 a0 Z v hv=>by rw [B] at Z;cases Z;exact C v hv),fun _=>G⟩
   ·split at L
    ·rename_i Q;rw [if_pos Q];simpa using eN F (fun _ _ h=>h) _ _ L
    ·rename_i Q;rw [if_neg Q];simpa using eN F d _ _ L
   ·rw [mJ B] at hs;simp only [ay0,azk] at hs;rcases Nat.lt_or_ge j n with D | D
    ·rw [p.free j (by omega)] at U;cases U
    ·exact D
  ·exact tY F d (r.blk b k' g o i l) (p.same g (A b k' g o i l)) (fun y=>((r.blk b k' g o i l).wr y).1)
 ·rcases c b W g o ha O with ⟨rfl,rfl,rfl,rfl⟩ | ⟨N,i,l⟩
  ·rcases c R M _ S s E with ⟨rfl,_⟩ | ⟨_,a,q⟩
   ·rfl
   ·have:=A _ _ _ _ a q;omega
  ·rcases c R M g S s E with ⟨rfl,rfl,rfl,rfl⟩ | ⟨_,a,q⟩
   ·have:=A _ _ _ _ i l;omega
   ·exact r.inj b R W M g o S i a l q y
 ·refine ⟨p.os,p.tape,p.output,by rw [p.size];omega,fun g f _=>p.same g f,F.shape,fun _ h=>h,fun _ h => .inl h,d,fun b T a => ?_,fun g f => ?_,by simp [aF.push]⟩
  ·unfold pS at a;split at a
   ·rename_i e;subst e;simp [aF.push]
   ·exact absurd T a
  ·rcases f with ⟨b,k',o,J,H,K⟩ | f
   ·rcases c b k' g o J K with ⟨rfl,rfl,rfl,rfl⟩ | ⟨_,a,q⟩
    ·exact .inr (aza _)
    ·exact .inl (.inl ⟨b,k',o,a,H,q⟩)
   ·exact .inl (.inr f)
theorem ad6 {arr:Array Value} {ty:TypeId} (c:qN w w' arr ty) (d:SR P w I ρ m) :
 SR P w' (fun g=>I g∨g=w.heap.size) ρ m∧cM w I ρ m w' (fun g=>I g∨g=w.heap.size) ρ m:=by
 have p:iL w w' I (fun g=>I g∨g=w.heap.size):=⟨fun _ h => .inl h,fun g a=>c.same g (d.lt g a),fun g x q=>by rw [xW (c.same g (acP q))];exact q⟩
 have e:∀ b k g o,m.at_ b=some k→ρ b=some (g,o)→g < w.heap.size:=fun b k g o n j=>by
  obtain ⟨arr,s,r,_⟩:=(d.blk b k g o n j).cells;exact zI r
 refine ⟨⟨fun b k' g o i a => ?_,d.inj,fun g a => ?_,d.mms.keep p (fun _ _ h=>h) (fun g a=>⟨c.same g (d.mms.lt a),fun h=>h.elim id fun h=>absurd (d.mms.lt a) (by omega)⟩)⟩,⟨c.os,c.tape,c.output,by rw [c.size];omega,fun g a _=>c.same g a,p.shape,fun _ h => .inl h,fun g h => ?_,fun _ _ h=>h,fun b n j=>absurd n j,fun _ h => .inl h,aza _⟩⟩
 ·refine tY p (fun _ _ h=>h) (d.blk b k' g o i a) (c.same g (e b k' g o i a)) (fun l f => ?_);rcases f with f | f
  ·exact ((d.blk b k' g o i a).wr l).1 f
  ·have:=e b k' g o i a;omega
 ·rw [c.size];rcases a with a | a
  ·exact Nat.lt_succ_of_lt (d.lt g a)
  ·omega
 ·rcases h with h | h
  ·exact .inl h
  ·exact .inr (.inr (by omega))
theorem ajm (f:SR P w I ρ m) (b:Nat):SR P w I ρ (m.put b none)∧cM w I ρ m w I ρ (m.put b none):=by
 have a:∀ c k,(m.put b none).at_ c=some k→m.at_ c=some k:=fun c k h=>by
  simp [aF.put] at h;exact h.2
 refine ⟨⟨fun c k g o e d=>f.blk c k g o (a c k e) d,fun j n r p g o q e d=>f.inj j n r p g o q (a _ _ e) (a _ _ d),f.lt,f.mms⟩,⟨rfl,rfl,rfl,aza _,fun _ _ _=>rfl,fun _ _ h=>h,fun _ h=>h,fun _ h => .inl h,fun _ _ h=>h,fun b e d=>absurd e d,fun g i => ?_,aza _⟩⟩;rcases i with ⟨c,k,o,e,d,l⟩ | i
 ·exact .inl (.inl ⟨c,k,o,a _ _ e,d,l⟩)
 ·exact .inl (.inr i)
theorem ajn (l:SR P w I ρ m) {b:Nat} {k:eZ} (z:m.at_ b=some k) {g o:Nat} (y:ρ b=some (g,o)) :
 SR P w (fun x=>I x∨x=g) ρ (m.put b (some ⟨k.cells,k.el,k.kind,false⟩))∧cM w I ρ m w (fun x=>I x∨x=g) ρ (m.put b (some ⟨k.cells,k.el,k.kind,false⟩)):=by
 have A:iL w w I (fun x=>I x∨x=g):=⟨fun _ h => .inl h,fun _ _=>rfl,fun _ _ h=>h⟩
 have c:∀ d k',(m.put b (some ⟨k.cells,k.el,k.kind,false⟩)).at_ d=some k'→(d=b∧k'=⟨k.cells,k.el,k.kind,false⟩)∨(d≠b∧m.at_ d=some k'):=fun d k' h=>by
  by_cases e:d=b
  ·simp [aF.put,e] at h;exact .inl ⟨e,h.symm⟩
  ·simp [aF.put,e] at h;exact .inr ⟨e,h⟩
 have r:=l.blk b k g o z y;have s:g < w.heap.size:=by
  obtain ⟨arr,C,j,_⟩:=r.cells;exact zI j
 have H:I g∨Wr ρ m g:=by
  cases L:k.wr with
  | false=>exact .inl (r.im L)
  | true=>exact .inr (.inl ⟨b,k,o,z,L,y⟩)
 refine ⟨⟨fun d k' t v n f => ?_,fun D O G M t K N n f j p B => ?_,fun x i => ?_,l.mms.keep A (fun _ _ h=>h) (fun x i=>⟨rfl,fun h=>h.elim id fun h=>by subst h;obtain ⟨arr,C,j,_⟩:=r.cells;exact (l.mms.not_cells i j).elim⟩)⟩,⟨rfl,rfl,rfl,aza _,fun _ _ _=>rfl,fun _ _ h=>h,fun _ h => .inl h,fun x i => ?_,fun _ _ h=>h,fun b n f=>absurd n f,fun x i => ?_,aza _⟩⟩
 ·rcases c d k' n with ⟨rfl,rfl⟩ | ⟨u,a⟩
  ·rw [y] at f;simp only [ay0,azk] at f;obtain ⟨rfl,rfl⟩:=f;refine ⟨r.one, ?_,(fun h=>by cases h),(fun _ => .inr rfl),(fun h=>by cases h),(fun h=>by cases h)⟩;obtain ⟨arr,C,j,p⟩:=r.cells;refine ⟨arr,C,j, ?_⟩;simp only at p ⊢;split at p
   ·rename_i J;rw [if_pos J];exact eN A (fun _ _ h=>h) _ _ p
   ·rename_i J;rw [if_neg J];exact eN A (fun _ _ h=>h) _ _ p
  ·refine tY A (fun _ _ h=>h) (l.blk d k' t v a f) rfl (fun q F => ?_);rcases F with F | rfl
   ·exact ((l.blk d k' t v a f).wr q).1 F
   ·exact u (l.inj d b k' k _ v o a z f y q)
 ·rcases c D G n with ⟨rfl,rfl⟩ | ⟨u,a⟩
  ·cases B
  ·rcases c O M f with ⟨rfl,rfl⟩ | ⟨_,E⟩
   ·exact l.inj D _ G k t K N a z j p B
   ·exact l.inj D O G M t K N a E j p B
 ·rcases i with i | rfl
  ·exact l.lt x i
  ·exact s
 ·rcases i with i | rfl
  ·exact .inl i
  ·exact H.imp id .inl
 ·rcases i with ⟨d,k',v,n,f,j⟩ | i
  ·rcases c d k' n with ⟨rfl,rfl⟩ | ⟨_,a⟩
   ·cases f
   ·exact .inl (.inl ⟨d,k',v,a,f,j⟩)
  ·exact .inl (.inr i)
def ajo (P:Program) (w:World) (I:Nat→Prop) (ρ:cA) (m m':aF) (R:(Nat→Prop)→Prop):Prop:=∃ a,SR P w a ρ m'∧cM w I ρ m w a ρ m'∧m'.next=m.next∧R a
mutual
theorem aaI:∀ (av:AV) (v:Value),iI av=false→VR P w I ρ av v→VR P w I dA av v
 | .val x,v,h,hv=>by simpa only [VR] using hv
 | .tree _ _ _ _,v,h,hv=>by simpa only [VR] using hv
 | .tptr _ _,v,h,hv=>by simpa only [VR] using hv
 | .emp _ _,v,h,hv=>by simpa only [VR] using hv
 | .agg cs,v,h,hv=>by
  simp only [iI] at h
  simp only [VR] at hv ⊢
  obtain ⟨vs,h1,h2,h3,h4⟩:=hv
  exact ⟨vs,h1,h2,h3,aaJ cs _ h h4⟩
 | .tup cs,v,h,hv=>by
  simp only [iI] at h
  simp only [VR] at hv ⊢
  obtain ⟨vs,h1,h2,h4⟩:=hv
  exact ⟨vs,h1,h2,aaJ cs _ h h4⟩
 | .clo f cs,v,h,hv=>by
  simp only [iI] at h
  simp only [VR] at hv ⊢
  obtain ⟨vs,h1,h2,h4⟩:=hv
  exact ⟨vs,h1,h2,aaJ cs _ h h4⟩
 | .sl _ _ _ _ _,v,h,hv=>by simp [iI] at h
 | .ptr _ _,v,h,hv=>by simp [iI] at h
theorem aaJ:∀ (cs:List AV) (get:Nat→Option Value),kF cs=false→bB P w I ρ cs get→bB P w I dA cs get
 | [],get,h,hv=>by simp only [bB]
 | c::cs,get,h,hv=>by
  simp only [kF,Bool.or_eq_false_iff] at h
  simp only [bB] at hv ⊢
  obtain ⟨⟨v,h1,h2⟩,h3⟩:=hv
  exact ⟨⟨v,h1,aaI c v h.1 h2⟩,aaJ cs _ h.2 h3⟩
end
mutual
theorem aqO:∀ (av:AV) (m m':aF) (I:Nat→Prop) (av':AV) (v:Value),fz m av=some (av',m')→SR P w I ρ m→VR P w I ρ av v →
 ajo P w I ρ m m' fun I'=>VR P w I' dA av' v∧(dL av=true→dL av'=true)
 | .val x,m,m',I,av',v,h,hS,hv=>by
  simp only [fz,ay0,azk] at h
  obtain ⟨rfl,rfl⟩:=h
  exact ⟨I,hS,cM.refl _ _ _ _,rfl,by simpa only [VR] using hv,fun h=>h⟩
 | .tree n c cs f,m,m',I,av',v,h,hS,hv=>by
  simp only [fz,ay0,azk] at h
  obtain ⟨rfl,rfl⟩:=h
  exact ⟨I,hS,cM.refl _ _ _ _,rfl,by simpa only [VR] using hv,fun h=>h⟩
 | .tptr o cs,m,m',I,av',v,h,hS,hv=>by
  simp only [fz,ay0,azk] at h
  obtain ⟨rfl,rfl⟩:=h
  exact ⟨I,hS,cM.refl _ _ _ _,rfl,by simpa only [VR] using hv,fun h=>h⟩
 | .emp c f,m,m',I,av',v,h,hS,hv=>by
  simp only [fz,ay0,azk] at h
  obtain ⟨rfl,rfl⟩:=h
  exact ⟨I,hS,cM.refl _ _ _ _,rfl,by simpa only [VR] using hv,fun h=>h⟩
 | .agg cs,m,m',I,av',v,h,hS,hv=>by
  simp only [fz] at h
  obtain ⟨r,hr,h⟩:=ayT h
  simp only [azk] at h
  obtain ⟨rfl,rfl⟩:=h
  simp only [VR] at hv
  obtain ⟨vs,rfl,hs,h1,hc⟩:=hv
  obtain ⟨I',a,b,c,d1,d2,d3⟩:=zK cs m r.2 I r.1 _ hr hS hc
  refine ⟨I',a,b,c, ?_,fun h=>by simp [dL] at h⟩
  simp only [VR]
  exact ⟨vs,rfl,by rw [hs,d2],d3 h1,d1⟩
 | .sl b off len c full,m,m',I,av',v,h,hS,hv=>by
  simp only [fz] at h
  split at h
  ·rename_i cells el wr hb
   simp only [ay0,azk] at h
   obtain ⟨rfl,rfl⟩:=h
   simp only [VR] at hv
   obtain ⟨g,o,cap,ty,n,s,hg,rfl,hlc,hf,_⟩:=hv
   obtain ⟨h1,h2⟩:=ajn hS hb hg
   have hB:=hS.blk b _ g o hb hg
   refine ⟨_,h1,h2,rfl, ?_,fun _=>rfl⟩
   simp only [VR]
   refine ⟨g,o+off,cap,rfl,.inr rfl,hlc,hf,lH hB.one _, ?_⟩
   have h3:=lS (BR.flatAt hB rfl) off
   refine iK (eN (⟨fun _ h => .inl h,fun _ _=>rfl,fun _ _ h=>h⟩:iL w w I _) (fun _ _ h=>h) _ _ h3) fun j _=>by rw [Nat.add_assoc]
  ·rename_i cells el wr hb
   split at h
   ·cases h
   rename_i hnr
   simp only [ay0,azk] at h
   obtain ⟨rfl,rfl⟩:=h
   simp only [VR] at hv
   obtain ⟨g,o,cap,ty,n,s,hg,rfl,hlc,hf,_⟩:=hv
   obtain ⟨h1,h2⟩:=ajn hS hb hg
   have hB:=hS.blk b _ g o hb hg
   refine ⟨_,h1,h2,rfl, ?_,fun _=>rfl⟩
   simp only [VR]
   refine ⟨g,o+off,cap,rfl,.inr rfl,hlc,hf,lH hB.one _, ?_⟩
   have h3:=lS (aaJ cells _ (by simpa using hnr) hB.cellsAt) off
   refine iK (eN (⟨fun _ h => .inl h,fun _ _=>rfl,fun _ _ h=>h⟩:iL w w I _) (fun _ _ h=>h) _ _ h3) fun j _=>by rw [Nat.add_assoc]
  ·cases h
 | .ptr b off,m,m',I,av',v,h,hS,hv=>by simp [fz] at h
 | .tup cs,m,m',I,av',v,h,hS,hv=>by simp [fz] at h
 | .clo f [],m,m',I,av',v,h,hS,hv=>by
  simp only [fz,ay0,azk] at h
  obtain ⟨rfl,rfl⟩:=h
  refine ⟨I,hS,cM.refl _ _ _ _,rfl, ?_,fun h=>h⟩
  simp only [VR,bB] at hv ⊢
  exact hv
 | .clo f (c::cs),m,m',I,av',v,h,hS,hv=>by simp [fz] at h
theorem zK:∀ (cs:List AV) (m m':aF) (I:Nat→Prop) (cs':List AV) (get:Nat→Option Value),fzs m cs=some (cs',m')→SR P w I ρ m→bB P w I ρ cs get →
 ajo P w I ρ m m' fun I'=>bB P w I' dA cs' get∧cs'.length=cs.length∧(dY cs→dY cs')
 | [],m,m',I,cs',get,h,hS,hv=>by
  simp only [fzs,ay0,azk] at h
  obtain ⟨rfl,rfl⟩:=h
  exact ⟨I,hS,cM.refl _ _ _ _,rfl,by simp only [bB],rfl,fun h=>h⟩
 | c::cs,m,m',I,cs',get,h,hS,hv=>by
  simp only [fzs] at h
  obtain ⟨r,hr,h⟩:=ayS h
  obtain ⟨s,hs,h⟩:=ayT h
  simp only [azk] at h
  obtain ⟨rfl,rfl⟩:=h
  simp only [bB] at hv
  obtain ⟨⟨v,hv1,hv2⟩,hv3⟩:=hv
  obtain ⟨I1,a1,b1,c1,d1,d2⟩:=aqO c m r.2 I r.1 v hr hS hv2
  obtain ⟨I2,a2,b2,c2,e1,e2,e3⟩:=zK cs r.2 s.2 I1 s.1 _ hs a1 (aqA b1 hS hv3)
  refine ⟨I2,a2,b1.trans b2,c2.trans c1, ?_,by simp [e2],fun h => ?_⟩
  ·simp only [bB]
   exact ⟨⟨v,hv1,rI (b2.keeps a1) (fun _ _ h=>h) _ _ d1⟩,e1⟩
  ·intro x hx
   rcases List.mem_cons.1 hx with rfl | hx
   ·exact d2 (h c (by simp))
   ·exact e3 (fun y hy=>h y (by simp [hy])) x hx
end
theorem agp (g:Nat):∀ (vs:List Value) (o:Nat) (w:World) (arr:Array Value) (ty:TypeId) (b:Nat×Nat),w.heap[g]? = some (.cells arr ty b) →
 ∃ a,(w.setCells g o vs).heap[g]? = some (.cells a ty b)∧a.size=arr.size∧∀ i,a[i]? = if o≤i∧i < o+vs.length∧i < arr.size then vs[i - o]? else arr[i]?
 | [],o,w,arr,ty,b,h=>⟨arr,h,rfl,fun i=>by rw [if_neg (by simp;omega)]⟩
 | v::vs,o,w,arr,ty,b,h=>by
  have k:(w.setCell ⟨g,o,none⟩ v).heap[g]? = some (.cells (arr.setIfInBounds o v) ty b):=by simp [World.setCell,Array.getElem?_modify,h]
  obtain ⟨a,j,f,e⟩:=agp g vs (o+1) _ _ ty b k;refine ⟨a,j,by rw [f];simp,fun i => ?_⟩;rw [e i];simp only [Array.size_setIfInBounds,List.length_cons];by_cases hi:o=i
  ·subst hi;by_cases l:o < arr.size
   ·rw [if_neg (by omega),if_pos (by omega),Array.getElem?_setIfInBounds_self_of_lt l];simp
   ·rw [if_neg (by omega),if_neg (by omega),azf (by simp;omega),azf (by omega)]
  ·by_cases c:o+1≤i∧i < o+1+vs.length∧i < arr.size
   ·rw [if_pos c,if_pos (by omega)];obtain ⟨d,m⟩:∃ d,i - o=d+1:=⟨i - o - 1,by omega⟩
    rw [m,List.getElem?_cons_succ];congr 1;omega
   ·rw [if_neg c,if_neg (by omega),Array.getElem?_setIfInBounds_ne hi]
theorem vD (g:Nat):∀ (vs:List Value) (o:Nat) (w:World) (k:Nat),k≠g→(w.setCells g o vs).heap[k]? = w.heap[k]?
 | [],_,_,_,_=>rfl
 | v::vs,o,w,k,h=>by rw [World.setCells,vD g vs (o+1) _ k h,heap_setCell_other _ _ _ _ h]
theorem agq (g:Nat):∀ (vs:List Value) (o:Nat) (w:World),(w.setCells g o vs).os=w.os∧(w.setCells g o vs).tape=w.tape∧(w.setCells g o vs).output=w.output∧(w.setCells g o vs).heap.size=w.heap.size
 | [],_,_=>⟨rfl,rfl,rfl,rfl⟩
 | v::vs,o,w=>by
  obtain ⟨d,c,b,a⟩:=agq g vs (o+1) (w.setCell ⟨g,o,none⟩ v);exact ⟨d,c,b,by rw [World.setCells,a];simp⟩
theorem wR {cs:List AV} (d:dY cs) {vs:List Value} (g:vs.length=cs.length) (f:bB P w I ρ cs (fun j=>vs[j]?)):∀ v∈vs,v.oneCell'=true:=by
 intro v b;obtain ⟨j,c,rfl⟩:=azl.1 b;obtain ⟨u,a,e⟩:=gW f (azm (show j < cs.length by omega));simp [azm c] at a;subst a;exact ajf (d _ (List.getElem_mem _)) e
theorem acQ {arr:Array Value} {ty:TypeId} {a:Nat×Nat} {g o:Nat} (f:w.heap[g]? = some (.cells arr ty a)) (b:∀ j,w.frozen? ⟨g,j,none⟩=true→arr.size≤j) {vs:List Value} (h:o+vs.length≤arr.size) (e:∀ v∈vs,v.oneCell'=true) :
 (storeCells ⟨g,o,none⟩ vs).run P w = .ok () (w.setCells g o vs):=by
 have:=run_storeCells_cells (P:=P) g o vs 0 w (fun j d=>by rw [cell_of_row w g _ arr ty a f,Nat.add_zero,azn (by omega)];rfl) (fun j d=>by
  cases c:w.frozen? ⟨g,o+0+j,none⟩ with
  | false=>rfl
  | true=>have:=b _ c;omega) e
 simpa using this
theorem aaK (t:SR P w I ρ m) {b:Nat} {k k':eZ} (F:m.at_ b=some k) (B:k.wr=true) {g o:Nat} (S:ρ b=some (g,o)) {vs:List Value} {p:Nat}
 (A:k'.el=k.el∧k'.wr=true∧dY k'.cells) (Q:∀ v∈vs,v.oneCell'=true)
 (hc:∀ arr E,w.heap[g]? = some (.cells arr k.el E)→bB P w I (if k.kind = .flat then dA else ρ) k.cells (fun j=>arr[o+j]?)→∀ d:Array Value,d.size=arr.size →
  (∀ i,d[i]? = if p≤i∧i < p+vs.length∧i < arr.size then vs[i - p]? else arr[i]?)→bB P w I (if k'.kind = .flat then dA else ρ) k'.cells (fun j=>d[o+j]?)) :
 SR P (w.setCells g p vs) I ρ (m.put b (some k'))∧cM w I ρ m (w.setCells g p vs) I ρ (m.put b (some k')):=by
 have J:=t.blk b k g o F S;obtain ⟨arr,E,G,z⟩:=J.cells;obtain ⟨d,D,L,h3⟩:=agp g vs p w arr k.el E G;obtain ⟨r1,r2,r3,r4⟩:=agq g vs p w;have M:¬ I g:=(J.wr B).1;have N:∀ x y,w.shape? x=some y→(w.setCells g p vs).shape? x=some y:=by
  intro x y r;by_cases e:x=g
  ·subst e;rw [mJ D,L,←mJ G];exact r
  ·rw [xW (vD g vs p w x e)];exact r
 have V:iL w (w.setCells g p vs) I I:=⟨fun _ h=>h,fun x r=>vD g vs p w x (fun e=>M (e ▸ r)),N⟩
 have l:∀ f c,(m.put b (some k')).at_ f=some c→(f=b∧c=k')∨(f≠b∧m.at_ f=some c):=fun f c h=>by
  by_cases e:f=b
  ·simp [aF.put,e] at h;exact .inl ⟨e,h.symm⟩
  ·simp [aF.put,e] at h;exact .inr ⟨e,h⟩
 have a1:∀ f c x u,f≠b→m.at_ f=some c→ρ f=some (x,u)→x≠g:=by
  rintro f c x u H s a rfl;exact H (t.inj b f k c _ o u F s S a B).symm
 refine ⟨⟨fun f c x u s a => ?_,fun Z U c T x Y o2 q1 q2 q3 X q5 => ?_,fun x r=>by rw [r4];exact t.lt x r,t.mms.keep V (fun _ _ h=>h) (fun x r=>⟨vD g vs p w x (fun e=>by subst e;exact (t.mms.not_cells r G).elim),fun h=>h⟩)⟩,⟨r1,r2,r3,by rw [r4];exact aza _,fun x r H=>vD g vs p w x (fun e=>H (.inl ⟨b,k,o,F,B,by rw [e];exact S⟩)),N,fun _ h=>h,fun _ h => .inl h,fun _ _ h=>h,fun b D L=>absurd D L,fun x r => ?_,aza _⟩⟩
 ·rcases l f c s with ⟨rfl,rfl⟩ | ⟨H,q⟩
  ·rw [S] at a;simp only [ay0,azk] at a;obtain ⟨rfl,rfl⟩:=a;refine ⟨A.2.2,⟨d,E,by rw [A.1];exact D, ?_⟩,fun _=>⟨M,fun j hj n ty hs => ?_⟩,(fun h=>by rw [A.2.1] at h;cases h),fun _ a2 a5 a3 he v hv => ?_,fun _ hu j=>by rw [World.frozen?_setCells];exact J.nostr B (A.1 ▸ hu) j⟩
   ·have:=hc arr E G z d L h3;split at this
    ·rename_i hf;rw [if_pos hf];exact eN V (fun _ _ h=>h) _ _ this
    ·rename_i hf;rw [if_neg hf];exact eN V (fun _ _ h=>h) _ _ this
   ·rw [World.frozen?_setCells] at hj;refine (J.wr B).2 j hj n ty ?_;rw [mJ D,L] at hs;rw [mJ G];exact hs
   ·rw [D] at he;simp only [ay0,Obj.cells.injEq] at he;obtain ⟨rfl,_,_⟩:=he;obtain ⟨i,hi,rfl⟩:=azl.1 hv;have R:=h3 i;rw [azn (by simpa using hi)] at R;split at R
    ·exact Q _ (List.mem_of_getElem? R.symm)
    ·exact J.all1 B arr k.el E G _ (by simpa using Array.mem_of_getElem? R.symm)
  ·have r:=a1 f c x u H q a;exact tY V (fun _ _ h=>h) (t.blk f c x u q a) (vD g vs p w x r) (fun W=>((t.blk f c x u q a).wr W).1)
 ·rcases l Z c q1 with ⟨rfl,rfl⟩ | ⟨a4,K⟩
  ·rcases l U T q2 with ⟨rfl,rfl⟩ | ⟨a0,C⟩
   ·rfl
   ·exact t.inj _ U k T x Y o2 F C q3 X B
  ·rcases l U T q2 with ⟨rfl,rfl⟩ | ⟨a0,C⟩
   ·exact t.inj Z _ c k x Y o2 K F q3 X q5
   ·exact t.inj Z U c T x Y o2 K C q3 X q5
 ·rcases r with ⟨f,c,u,s,a,O⟩ | r
  ·rcases l f c s with ⟨rfl,rfl⟩ | ⟨H,q⟩
   ·exact .inl (.inl ⟨_,k,u,F,B,O⟩)
   ·exact .inl (.inl ⟨f,c,u,q,a,O⟩)
  ·exact .inl (.inr r)
end
end Go.Tw