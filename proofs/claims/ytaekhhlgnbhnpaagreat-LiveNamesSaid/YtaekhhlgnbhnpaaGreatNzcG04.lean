import Derived.Test.YtaekhhlgnbhnpaaGreatNzcG03
import Derived.Laws.IdiomCopy
set_option linter.unusedVariables false
set_option linter.unusedSimpArgs false
open Array renaming getElem?_eq_none→azc,getElem?_eq_getElem→azk
open Go.World renaming frozen?→azf,shape?→azg
open List renaming mem_iff_getElem→azi,getElem?_eq_getElem→azj
open Nat renaming le_refl→ay7
open Option renaming map_eq_some_iff→ayY
open Option.some renaming injEq→ayX
open Prod.mk renaming injEq→azh
namespace Go.Tw
open Go
structure o7 (w w':World) (arr:Array Value) (ty:TypeId):Prop where
 os:w'.os=w.os
 tape:w'.tape=w.tape
 output:w'.output=w.output
 size:w'.heap.size=w.heap.size+1
 same:∀ g,g < w.heap.size→w'.heap[g]? = w.heap[g]?
 blk:∃ fr,w'.heap[w.heap.size]? = some (.cells arr ty fr)
 free:∀ j,j < arr.size→w'.frozen? ⟨w.heap.size,j,none⟩=false
theorem o7.alloc (w:World) (arr:Array Value) (ty:TypeId):o7 w (w.alloc (.cells arr ty)) arr ty where
 os:=rfl
 tape:=rfl
 output:=rfl
 size:=by simp
 same g hg:=heap_alloc_old w _ g hg
 blk:=⟨(0,0),heap_alloc_new w _⟩
 free j _:=by
  unfold azf;rw [heap_alloc_new w (.cells arr ty)];simp
theorem aaC {w1:World} (arr:Array Value) (ty:TypeId):∀ j,(w1.alloc (.cells arr ty)).frozen? ⟨w1.heap.size,j,none⟩=false:=by
 intro j;unfold azf;rw [heap_alloc_new w1 (.cells arr ty)];simp
section
variable {P:Program} {w w':World} {I:Nat→Prop} {ρ:cB} {m:aF}
theorem l8 {g:Nat} {arr:Array Value} {ty:TypeId} {fr:Nat×Nat} (h:w.heap[g]? = some (.cells arr ty fr)):w.shape? g=some (ty,arr.size):=by
 simp [azg,h]
theorem tR {g:Nat} (h:w'.heap[g]? = w.heap[g]?):w'.shape? g=w.shape? g:=by simp [azg,h]
theorem zF {g:Nat} {x:TypeId×Nat} (h:w.shape? g=some x):g < w.heap.size:=by
 rcases Nat.lt_or_ge g w.heap.size with a | a
 ·exact a
 ·simp [azg,azc a] at h
theorem vU {g:Nat} {o:Obj} (h:w.heap[g]? = some o):g < w.heap.size:=(Array.getElem?_eq_some_iff.1 h).1
def mZ (ρ:cB) (b:Nat) (x:Nat×Nat):cB:=fun j=>if j=b then some x else ρ j
theorem ai1 {b:Nat} {x:Nat×Nat} (h:ρ b=none):∀ j y,ρ j=some y→mZ ρ b x j=some y:=by
 intro j y a;unfold mZ;split
 ·rename_i e;subst e;rw [h] at a;cases a
 ·exact a
theorem tS (ρ:cB) (b:Nat) (x:Nat×Nat):mZ ρ b x b=some x:=by simp [mZ]
theorem sC {c:Nat→Prop} {ρ':cB} (k:iI w w' I c) (i:∀ b x,ρ b=some x→ρ' b=some x) {x:eR} {g o:Nat} (h:BR P w I ρ x g o) (a:w'.heap[g]? = w.heap[g]?) (l:x.wr=true→¬ c g):BR P w' c ρ' x g o where
 one:=h.one
 cells:=by
  obtain ⟨arr,fr,m,e⟩:=h.cells;refine ⟨arr,fr,a.trans m, ?_⟩;split at e
  ·rename_i d;rw [if_pos d];exact eL k (fun _ _ h=>h) _ _ e
  ·rename_i d;rw [if_neg d];exact eL k i _ _ e
 wr hw:=by
  refine ⟨l hw,fun j f n ty hs => ?_⟩;rw [tR a] at hs;refine (h.wr hw).2 j ?_ n ty hs;simpa [azf,a] using f
 im hw:=k.imm g (h.im hw)
 all1 hw arr ty fr he:=h.all1 hw arr ty fr (a ▸ he)
 nostr hw hu j:=by
  have:=h.nostr hw hu j;simpa [azf,a] using this
theorem zG {arr:Array Value} {k:eR} (p:o7 w w' arr k.el) (r:SR P w I ρ m) (y:ρ m.next=none) (hw:k.wr=true) (t:eF k.cells) (T:bC P w I (if k.kind = .flat then cZ else ρ) k.cells (fun j=>arr[j]?)) (C:∀ v∈arr.toList,v.oneCell'=true) (G:rX P k.el=false→∀ j,w'.frozen? ⟨w.heap.size,j,none⟩=false) :
 SR P w' I (mZ ρ m.next (w.heap.size,0)) (m.push k)∧cL w I ρ m w' I (mZ ρ m.next (w.heap.size,0)) (m.push k):=by
 have D:iI w w' I I:=⟨fun _ h=>h,fun g l=>p.same g (r.lt g l),fun g x W=>by rw [tR (p.same g (zF W))];exact W⟩
 have d:=ai1 (ρ:=ρ) (b:=m.next) (x:=(w.heap.size,0)) y;have u:∀ b k g o,m.at_ b=some k→ρ b=some (g,o)→g < w.heap.size:=fun b k g o t z=>by
  obtain ⟨arr,fr,h3,_⟩:=(r.blk b k g o t z).cells;exact vU h3
 have c:∀ b k' g o,(m.push k).at_ b=some k'→mZ ρ m.next (w.heap.size,0) b=some (g,o)→(b=m.next∧k'=k∧g=w.heap.size∧o=0)∨(b≠m.next∧m.at_ b=some k'∧ρ b=some (g,o)):=by
  intro b k' g o t z;by_cases s:b=m.next
  ·subst s;simp [aF.push] at t;simp [mZ] at z;exact .inl ⟨rfl,t.symm,z.1.symm,z.2.symm⟩
  ·simp [aF.push,s] at t;simp [mZ,s] at z;exact .inr ⟨s,t,z⟩
 refine ⟨⟨fun b k' g o s l => ?_,fun b Q X O g o R ha s S F B => ?_,fun g l=>by rw [p.size];exact Nat.lt_succ_of_lt (r.lt g l),r.mms.keep D d (fun g l=>⟨p.same g (r.mms.lt l),fun h=>h⟩)⟩, ?_⟩
 ·rcases c b k' g o s l with ⟨rfl,rfl,rfl,rfl⟩ | ⟨L,i,f⟩
  ·obtain ⟨fr,A⟩:=p.blk;refine ⟨t,⟨arr,fr,A, ?_⟩,fun _=>⟨fun hI=>by have:=r.lt _ hI;omega,fun j V n ty hs => ?_⟩,(fun h=>by rw [hw] at h;cases h),(fun _ U a0 Z Y v hv=>by rw [A] at Y;cases Y;exact C v hv),fun _=>G⟩
   ·split at T
    ·rename_i H;rw [if_pos H];simpa using eL D (fun _ _ h=>h) _ _ T
    ·rename_i H;rw [if_neg H];simpa using eL D d _ _ T
   ·rw [l8 A] at hs;simp only [ayX,azh] at hs;rcases Nat.lt_or_ge j n with E | E
    ·rw [p.free j (by omega)] at V;cases V
    ·exact E
  ·exact sC D d (r.blk b k' g o i f) (p.same g (u b k' g o i f)) (fun B=>((r.blk b k' g o i f).wr B).1)
 ·rcases c b X g o ha S with ⟨rfl,rfl,rfl,rfl⟩ | ⟨L,i,f⟩
  ·rcases c Q O _ R s F with ⟨rfl,_⟩ | ⟨_,a,q⟩
   ·rfl
   ·have:=u _ _ _ _ a q;omega
  ·rcases c Q O g R s F with ⟨rfl,rfl,rfl,rfl⟩ | ⟨_,a,q⟩
   ·have:=u _ _ _ _ i f;omega
   ·exact r.inj b Q X O g o R i a f q B
 ·refine ⟨p.os,p.tape,p.output,by rw [p.size];omega,fun g l _=>p.same g l,D.shape,fun _ h=>h,fun _ h => .inl h,d,fun b M a => ?_,fun g l => ?_,by simp [aF.push]⟩
  ·unfold mZ at a;split at a
   ·rename_i e;subst e;simp [aF.push]
   ·exact absurd M a
  ·rcases l with ⟨b,k',o,N,J,K⟩ | l
   ·rcases c b k' g o N K with ⟨rfl,rfl,rfl,rfl⟩ | ⟨_,a,q⟩
    ·exact .inr (ay7 _)
    ·exact .inl (.inl ⟨b,k',o,a,J,q⟩)
   ·exact .inl (.inr l)
theorem adD {arr:Array Value} {ty:TypeId} (c:o7 w w' arr ty) (d:SR P w I ρ m) :
 SR P w' (fun g=>I g∨g=w.heap.size) ρ m∧cL w I ρ m w' (fun g=>I g∨g=w.heap.size) ρ m:=by
 have j:iI w w' I (fun g=>I g∨g=w.heap.size):=⟨fun _ h => .inl h,fun g a=>c.same g (d.lt g a),fun g x q=>by rw [tR (c.same g (zF q))];exact q⟩
 have e:∀ b k g o,m.at_ b=some k→ρ b=some (g,o)→g < w.heap.size:=fun b k g o p l=>by
  obtain ⟨arr,fr,r,_⟩:=(d.blk b k g o p l).cells;exact vU r
 refine ⟨⟨fun b k' g o f a => ?_,d.inj,fun g a => ?_,d.mms.keep j (fun _ _ h=>h) (fun g a=>⟨c.same g (d.mms.lt a),fun h=>h.elim id fun h=>absurd (d.mms.lt a) (by omega)⟩)⟩,⟨c.os,c.tape,c.output,by rw [c.size];omega,fun g a _=>c.same g a,j.shape,fun _ h => .inl h,fun g h => ?_,fun _ _ h=>h,fun b p l=>absurd p l,fun _ h => .inl h,ay7 _⟩⟩
 ·refine sC j (fun _ _ h=>h) (d.blk b k' g o f a) (c.same g (e b k' g o f a)) (fun n i => ?_);rcases i with i | i
  ·exact ((d.blk b k' g o f a).wr n).1 i
  ·have:=e b k' g o f a;omega
 ·rw [c.size];rcases a with a | a
  ·exact Nat.lt_succ_of_lt (d.lt g a)
  ·omega
 ·rcases h with h | h
  ·exact .inl h
  ·exact .inr (.inr (by omega))
theorem ai2 (f:SR P w I ρ m) (b:Nat):SR P w I ρ (m.put b none)∧cL w I ρ m w I ρ (m.put b none):=by
 have a:∀ c k,(m.put b none).at_ c=some k→m.at_ c=some k:=fun c k h=>by
  simp [aF.put] at h;exact h.2
 refine ⟨⟨fun c k g o e d=>f.blk c k g o (a c k e) d,fun n r q j g o p e d=>f.inj n r q j g o p (a _ _ e) (a _ _ d),f.lt,f.mms⟩,⟨rfl,rfl,rfl,ay7 _,fun _ _ _=>rfl,fun _ _ h=>h,fun _ h=>h,fun _ h => .inl h,fun _ _ h=>h,fun b e d=>absurd e d,fun g i => ?_,ay7 _⟩⟩;rcases i with ⟨c,k,o,e,d,l⟩ | i
 ·exact .inl (.inl ⟨c,k,o,a _ _ e,d,l⟩)
 ·exact .inl (.inr i)
theorem ai3 (l:SR P w I ρ m) {b:Nat} {k:eR} (A:m.at_ b=some k) {g o:Nat} (z:ρ b=some (g,o)) :
 SR P w (fun x=>I x∨x=g) ρ (m.put b (some ⟨k.cells,k.el,k.kind,false⟩))∧cL w I ρ m w (fun x=>I x∨x=g) ρ (m.put b (some ⟨k.cells,k.el,k.kind,false⟩)):=by
 have y:iI w w I (fun x=>I x∨x=g):=⟨fun _ h => .inl h,fun _ _=>rfl,fun _ _ h=>h⟩
 have c:∀ d k',(m.put b (some ⟨k.cells,k.el,k.kind,false⟩)).at_ d=some k'→(d=b∧k'=⟨k.cells,k.el,k.kind,false⟩)∨(d≠b∧m.at_ d=some k'):=fun d k' h=>by
  by_cases e:d=b
  ·simp [aF.put,e] at h;exact .inl ⟨e,h.symm⟩
  ·simp [aF.put,e] at h;exact .inr ⟨e,h⟩
 have q:=l.blk b k g o A z;have s:g < w.heap.size:=by
  obtain ⟨arr,fr,j,_⟩:=q.cells;exact vU j
 have H:I g∨Wr ρ m g:=by
  cases K:k.wr with
  | false=>exact .inl (q.im K)
  | true=>exact .inr (.inl ⟨b,k,o,A,K,z⟩)
 refine ⟨⟨fun d k' t u p i => ?_,fun C L G M t N J p i j n B => ?_,fun x f => ?_,l.mms.keep y (fun _ _ h=>h) (fun x f=>⟨rfl,fun h=>h.elim id fun h=>by subst h;obtain ⟨arr,fr,j,_⟩:=q.cells;exact (l.mms.not_cells f j).elim⟩)⟩,⟨rfl,rfl,rfl,ay7 _,fun _ _ _=>rfl,fun _ _ h=>h,fun _ h => .inl h,fun x f => ?_,fun _ _ h=>h,fun b p i=>absurd p i,fun x f => ?_,ay7 _⟩⟩
 ·rcases c d k' p with ⟨rfl,rfl⟩ | ⟨r,a⟩
  ·rw [z] at i;simp only [ayX,azh] at i;obtain ⟨rfl,rfl⟩:=i;refine ⟨q.one, ?_,(fun h=>by cases h),(fun _ => .inr rfl),(fun h=>by cases h),(fun h=>by cases h)⟩;obtain ⟨arr,fr,j,n⟩:=q.cells;refine ⟨arr,fr,j, ?_⟩;simp only at n ⊢;split at n
   ·rename_i D;rw [if_pos D];exact eL y (fun _ _ h=>h) _ _ n
   ·rename_i D;rw [if_neg D];exact eL y (fun _ _ h=>h) _ _ n
  ·refine sC y (fun _ _ h=>h) (l.blk d k' t u a i) rfl (fun v F => ?_);rcases F with F | rfl
   ·exact ((l.blk d k' t u a i).wr v).1 F
   ·exact r (l.inj d b k' k _ u o a A i z v)
 ·rcases c C G p with ⟨rfl,rfl⟩ | ⟨r,a⟩
  ·cases B
  ·rcases c L M i with ⟨rfl,rfl⟩ | ⟨_,E⟩
   ·exact l.inj C _ G k t N J a A j n B
   ·exact l.inj C L G M t N J a E j n B
 ·rcases f with f | rfl
  ·exact l.lt x f
  ·exact s
 ·rcases f with f | rfl
  ·exact .inl f
  ·exact H.imp id .inl
 ·rcases f with ⟨d,k',u,p,i,j⟩ | f
  ·rcases c d k' p with ⟨rfl,rfl⟩ | ⟨_,a⟩
   ·cases i
   ·exact .inl (.inl ⟨d,k',u,a,i,j⟩)
  ·exact .inl (.inr f)
def ai4 (P:Program) (w:World) (I:Nat→Prop) (ρ:cB) (m m':aF) (R:(Nat→Prop)→Prop):Prop:=∃ a,SR P w a ρ m'∧cL w I ρ m w a ρ m'∧m'.next=m.next∧R a
mutual
theorem zH:∀ (av:AV) (v:Value),i7 av=false→VR P w I ρ av v→VR P w I cZ av v
 | .val x,v,h,hv=>by simpa only [VR] using hv
 | .tree _ _ _ _,v,h,hv=>by simpa only [VR] using hv
 | .tptr _ _,v,h,hv=>by simpa only [VR] using hv
 | .emp _ _,v,h,hv=>by simpa only [VR] using hv
 | .agg cs,v,h,hv=>by
  simp only [i7] at h
  simp only [VR] at hv ⊢
  obtain ⟨vs,h1,h2,h3,h4⟩:=hv
  exact ⟨vs,h1,h2,h3,zJ cs _ h h4⟩
 | .tup cs,v,h,hv=>by
  simp only [i7] at h
  simp only [VR] at hv ⊢
  obtain ⟨vs,h1,h2,h4⟩:=hv
  exact ⟨vs,h1,h2,zJ cs _ h h4⟩
 | .clo f cs,v,h,hv=>by
  simp only [i7] at h
  simp only [VR] at hv ⊢
  obtain ⟨vs,h1,h2,h4⟩:=hv
  exact ⟨vs,h1,h2,zJ cs _ h h4⟩
 | .sl _ _ _ _ _,v,h,hv=>by simp [i7] at h
 | .ptr _ _,v,h,hv=>by simp [i7] at h
theorem zJ:∀ (cs:List AV) (get:Nat→Option Value),j5 cs=false→bC P w I ρ cs get→bC P w I cZ cs get
 | [],get,h,hv=>by simp only [bC]
 | c::cs,get,h,hv=>by
  simp only [j5,Bool.or_eq_false_iff] at h
  simp only [bC] at hv ⊢
  obtain ⟨⟨v,h1,h2⟩,h3⟩:=hv
  exact ⟨⟨v,h1,zH c v h.1 h2⟩,zJ cs _ h.2 h3⟩
end
mutual
theorem aqf:∀ (av:AV) (m m':aF) (I:Nat→Prop) (av':AV) (v:Value),fz m av=some (av',m')→SR P w I ρ m→VR P w I ρ av v →
 ai4 P w I ρ m m' fun I'=>VR P w I' cZ av' v∧(d5 av=true→d5 av'=true)
 | .val x,m,m',I,av',v,h,hS,hv=>by
  simp only [fz,ayX,azh] at h
  obtain ⟨rfl,rfl⟩:=h
  exact ⟨I,hS,cL.refl _ _ _ _,rfl,by simpa only [VR] using hv,fun h=>h⟩
 | .tree n c cs f,m,m',I,av',v,h,hS,hv=>by
  simp only [fz,ayX,azh] at h
  obtain ⟨rfl,rfl⟩:=h
  exact ⟨I,hS,cL.refl _ _ _ _,rfl,by simpa only [VR] using hv,fun h=>h⟩
 | .tptr o cs,m,m',I,av',v,h,hS,hv=>by
  simp only [fz,ayX,azh] at h
  obtain ⟨rfl,rfl⟩:=h
  exact ⟨I,hS,cL.refl _ _ _ _,rfl,by simpa only [VR] using hv,fun h=>h⟩
 | .emp c f,m,m',I,av',v,h,hS,hv=>by
  simp only [fz,ayX,azh] at h
  obtain ⟨rfl,rfl⟩:=h
  exact ⟨I,hS,cL.refl _ _ _ _,rfl,by simpa only [VR] using hv,fun h=>h⟩
 | .agg cs,m,m',I,av',v,h,hS,hv=>by
  simp only [fz] at h
  obtain ⟨r,hr,h⟩:=ayR h
  simp only [azh] at h
  obtain ⟨rfl,rfl⟩:=h
  simp only [VR] at hv
  obtain ⟨vs,rfl,hs,h1,hc⟩:=hv
  obtain ⟨I',a,b,c,d1,d2,d3⟩:=xO cs m r.2 I r.1 _ hr hS hc
  refine ⟨I',a,b,c, ?_,fun h=>by simp [d5] at h⟩
  simp only [VR]
  exact ⟨vs,rfl,by rw [hs,d2],d3 h1,d1⟩
 | .sl b off len c full,m,m',I,av',v,h,hS,hv=>by
  simp only [fz] at h
  split at h
  ·rename_i cells el wr hb
   simp only [ayX,azh] at h
   obtain ⟨rfl,rfl⟩:=h
   simp only [VR] at hv
   obtain ⟨g,o,cap,ty,n,s,hg,rfl,hlc,hf,_⟩:=hv
   obtain ⟨h1,h2⟩:=ai3 hS hb hg
   have hB:=hS.blk b _ g o hb hg
   refine ⟨_,h1,h2,rfl, ?_,fun _=>rfl⟩
   simp only [VR]
   refine ⟨g,o+off,cap,rfl,.inr rfl,hlc,hf,lC hB.one _, ?_⟩
   have h3:=lQ (BR.flatAt hB rfl) off
   refine iH (eL (⟨fun _ h => .inl h,fun _ _=>rfl,fun _ _ h=>h⟩:iI w w I _) (fun _ _ h=>h) _ _ h3) fun j _=>by rw [Nat.add_assoc]
  ·rename_i cells el wr hb
   split at h
   ·cases h
   rename_i hnr
   simp only [ayX,azh] at h
   obtain ⟨rfl,rfl⟩:=h
   simp only [VR] at hv
   obtain ⟨g,o,cap,ty,n,s,hg,rfl,hlc,hf,_⟩:=hv
   obtain ⟨h1,h2⟩:=ai3 hS hb hg
   have hB:=hS.blk b _ g o hb hg
   refine ⟨_,h1,h2,rfl, ?_,fun _=>rfl⟩
   simp only [VR]
   refine ⟨g,o+off,cap,rfl,.inr rfl,hlc,hf,lC hB.one _, ?_⟩
   have h3:=lQ (zJ cells _ (by simpa using hnr) hB.cellsAt) off
   refine iH (eL (⟨fun _ h => .inl h,fun _ _=>rfl,fun _ _ h=>h⟩:iI w w I _) (fun _ _ h=>h) _ _ h3) fun j _=>by rw [Nat.add_assoc]
  ·cases h
 | .ptr b off,m,m',I,av',v,h,hS,hv=>by simp [fz] at h
 | .tup cs,m,m',I,av',v,h,hS,hv=>by simp [fz] at h
 | .clo f [],m,m',I,av',v,h,hS,hv=>by
  simp only [fz,ayX,azh] at h
  obtain ⟨rfl,rfl⟩:=h
  refine ⟨I,hS,cL.refl _ _ _ _,rfl, ?_,fun h=>h⟩
  simp only [VR,bC] at hv ⊢
  exact hv
 | .clo f (c::cs),m,m',I,av',v,h,hS,hv=>by simp [fz] at h
theorem xO:∀ (cs:List AV) (m m':aF) (I:Nat→Prop) (cs':List AV) (get:Nat→Option Value),fzs m cs=some (cs',m')→SR P w I ρ m→bC P w I ρ cs get →
 ai4 P w I ρ m m' fun I'=>bC P w I' cZ cs' get∧cs'.length=cs.length∧(eF cs→eF cs')
 | [],m,m',I,cs',get,h,hS,hv=>by
  simp only [fzs,ayX,azh] at h
  obtain ⟨rfl,rfl⟩:=h
  exact ⟨I,hS,cL.refl _ _ _ _,rfl,by simp only [bC],rfl,fun h=>h⟩
 | c::cs,m,m',I,cs',get,h,hS,hv=>by
  simp only [fzs] at h
  obtain ⟨r,hr,h⟩:=ayQ h
  obtain ⟨s,hs,h⟩:=ayR h
  simp only [azh] at h
  obtain ⟨rfl,rfl⟩:=h
  simp only [bC] at hv
  obtain ⟨⟨v,hv1,hv2⟩,hv3⟩:=hv
  obtain ⟨I1,a1,b1,c1,d1,d2⟩:=aqf c m r.2 I r.1 v hr hS hv2
  obtain ⟨I2,a2,b2,c2,e1,e2,e3⟩:=xO cs r.2 s.2 I1 s.1 _ hs a1 (aiU b1 hS hv3)
  refine ⟨I2,a2,b1.trans b2,c2.trans c1, ?_,by simp [e2],fun h => ?_⟩
  ·simp only [bC]
   exact ⟨⟨v,hv1,p9 (b2.keeps a1) (fun _ _ h=>h) _ _ d1⟩,e1⟩
  ·intro x hx
   rcases List.mem_cons.1 hx with rfl | hx
   ·exact d2 (h c (by simp))
   ·exact e3 (fun y hy=>h y (by simp [hy])) x hx
end
theorem agb (g:Nat):∀ (vs:List Value) (o:Nat) (w:World) (arr:Array Value) (ty:TypeId) (fr:Nat×Nat),w.heap[g]? = some (.cells arr ty fr) →
 ∃ a,(w.setCells g o vs).heap[g]? = some (.cells a ty fr)∧a.size=arr.size∧∀ i,a[i]? = if o≤i∧i < o+vs.length∧i < arr.size then vs[i - o]? else arr[i]?
 | [],o,w,arr,ty,fr,h=>⟨arr,h,rfl,fun i=>by rw [if_neg (by simp;omega)]⟩
 | v::vs,o,w,arr,ty,fr,h=>by
  have l:(w.setCell ⟨g,o,none⟩ v).heap[g]? = some (.cells (arr.setIfInBounds o v) ty fr):=by simp [World.setCell,Array.getElem?_modify,h]
  obtain ⟨a,j,c,e⟩:=agb g vs (o+1) _ _ ty fr l;refine ⟨a,j,by rw [c];simp,fun i => ?_⟩;rw [e i];simp only [Array.size_setIfInBounds,List.length_cons];by_cases hi:o=i
  ·subst hi;by_cases f:o < arr.size
   ·rw [if_neg (by omega),if_pos (by omega),Array.getElem?_setIfInBounds_self_of_lt f];simp
   ·rw [if_neg (by omega),if_neg (by omega),azc (by simp;omega),azc (by omega)]
  ·by_cases b:o+1≤i∧i < o+1+vs.length∧i < arr.size
   ·rw [if_pos b,if_pos (by omega)];obtain ⟨d,k⟩:∃ d,i - o=d+1:=⟨i - o - 1,by omega⟩
    rw [k,List.getElem?_cons_succ];congr 1;omega
   ·rw [if_neg b,if_neg (by omega),Array.getElem?_setIfInBounds_ne hi]
theorem tT (g:Nat):∀ (vs:List Value) (o:Nat) (w:World) (k:Nat),k≠g→(w.setCells g o vs).heap[k]? = w.heap[k]?
 | [],_,_,_,_=>rfl
 | v::vs,o,w,k,h=>by rw [World.setCells,tT g vs (o+1) _ k h,heap_setCell_other _ _ _ _ h]
theorem agc (g:Nat):∀ (vs:List Value) (o:Nat) (w:World),(w.setCells g o vs).os=w.os∧(w.setCells g o vs).tape=w.tape∧(w.setCells g o vs).output=w.output∧(w.setCells g o vs).heap.size=w.heap.size
 | [],_,_=>⟨rfl,rfl,rfl,rfl⟩
 | v::vs,o,w=>by
  obtain ⟨d,c,a,b⟩:=agc g vs (o+1) (w.setCell ⟨g,o,none⟩ v);exact ⟨d,c,a,by rw [World.setCells,b];simp⟩
theorem uU {cs:List AV} (f:eF cs) {vs:List Value} (g:vs.length=cs.length) (e:bC P w I ρ cs (fun j=>vs[j]?)):∀ v∈vs,v.oneCell'=true:=by
 intro v c;obtain ⟨j,b,rfl⟩:=azi.1 c;obtain ⟨u,a,d⟩:=gQ e (azj (show j < cs.length by omega));simp [azj b] at a;subst a;exact aiW (f _ (List.getElem_mem _)) d
theorem acf {arr:Array Value} {ty:TypeId} {fr:Nat×Nat} {g o:Nat} (c:w.heap[g]? = some (.cells arr ty fr)) (b:∀ j,w.frozen? ⟨g,j,none⟩=true→arr.size≤j) {vs:List Value} (f:o+vs.length≤arr.size) (e:∀ v∈vs,v.oneCell'=true) :
 (storeCells ⟨g,o,none⟩ vs).run P w = .ok () (w.setCells g o vs):=by
 have:=run_storeCells_cells (P:=P) g o vs 0 w (fun j a=>by rw [cell_of_row w g _ arr ty fr c,Nat.add_zero,azk (by omega)];rfl) (fun j a=>by
  cases d:w.frozen? ⟨g,o+0+j,none⟩ with
  | false=>rfl
  | true=>have:=b _ d;omega) e
 simpa using this
theorem zK (t:SR P w I ρ m) {b:Nat} {k k':eR} (G:m.at_ b=some k) (B:k.wr=true) {g o:Nat} (U:ρ b=some (g,o)) {vs:List Value} {p:Nat}
 (z:k'.el=k.el∧k'.wr=true∧eF k'.cells) (J:∀ v∈vs,v.oneCell'=true)
 (hc:∀ arr fr,w.heap[g]? = some (.cells arr k.el fr)→bC P w I (if k.kind = .flat then cZ else ρ) k.cells (fun j=>arr[o+j]?)→∀ c:Array Value,c.size=arr.size →
  (∀ i,c[i]? = if p≤i∧i < p+vs.length∧i < arr.size then vs[i - p]? else arr[i]?)→bC P w I (if k'.kind = .flat then cZ else ρ) k'.cells (fun j=>c[o+j]?)) :
 SR P (w.setCells g p vs) I ρ (m.put b (some k'))∧cL w I ρ m (w.setCells g p vs) I ρ (m.put b (some k')):=by
 have H:=t.blk b k g o G U;obtain ⟨arr,fr,E,A⟩:=H.cells;obtain ⟨c,F,O,h3⟩:=agb g vs p w arr k.el fr E;obtain ⟨r1,r2,r3,r4⟩:=agc g vs p w;have N:¬ I g:=(H.wr B).1;have K:∀ x y,w.shape? x=some y→(w.setCells g p vs).shape? x=some y:=by
  intro x y r;by_cases e:x=g
  ·subst e;rw [l8 F,O,←l8 E];exact r
  ·rw [tR (tT g vs p w x e)];exact r
 have S:iI w (w.setCells g p vs) I I:=⟨fun _ h=>h,fun x r=>tT g vs p w x (fun e=>N (e ▸ r)),K⟩
 have q:∀ d f,(m.put b (some k')).at_ d=some f→(d=b∧f=k')∨(d≠b∧m.at_ d=some f):=fun d f h=>by
  by_cases e:d=b
  ·simp [aF.put,e] at h;exact .inl ⟨e,h.symm⟩
  ·simp [aF.put,e] at h;exact .inr ⟨e,h⟩
 have Z:∀ d f x u,d≠b→m.at_ d=some f→ρ d=some (x,u)→x≠g:=by
  rintro d f x u D s a rfl;exact D (t.inj b d k f _ o u G s U a B).symm
 refine ⟨⟨fun d f x u s a => ?_,fun W Q f R x o1 V q1 q2 q3 q4 q5 => ?_,fun x r=>by rw [r4];exact t.lt x r,t.mms.keep S (fun _ _ h=>h) (fun x r=>⟨tT g vs p w x (fun e=>by subst e;exact (t.mms.not_cells r E).elim),fun h=>h⟩)⟩,⟨r1,r2,r3,by rw [r4];exact ay7 _,fun x r D=>tT g vs p w x (fun e=>D (.inl ⟨b,k,o,G,B,by rw [e];exact U⟩)),K,fun _ h=>h,fun _ h => .inl h,fun _ _ h=>h,fun b F O=>absurd F O,fun x r => ?_,ay7 _⟩⟩
 ·rcases q d f s with ⟨rfl,rfl⟩ | ⟨D,l⟩
  ·rw [U] at a;simp only [ayX,azh] at a;obtain ⟨rfl,rfl⟩:=a;refine ⟨z.2.2,⟨c,fr,by rw [z.1];exact F, ?_⟩,fun _=>⟨N,fun j hj n ty hs => ?_⟩,(fun h=>by rw [z.2.1] at h;cases h),fun _ a1 a2 a4 he v hv => ?_,fun _ hu j=>by rw [World.frozen?_setCells];exact H.nostr B (z.1 ▸ hu) j⟩
   ·have:=hc arr fr E A c O h3;split at this
    ·rename_i X;rw [if_pos X];exact eL S (fun _ _ h=>h) _ _ this
    ·rename_i X;rw [if_neg X];exact eL S (fun _ _ h=>h) _ _ this
   ·rw [World.frozen?_setCells] at hj;refine (H.wr B).2 j hj n ty ?_;rw [l8 F,O] at hs;rw [l8 E];exact hs
   ·rw [F] at he;simp only [ayX,Obj.cells.injEq] at he;obtain ⟨rfl,_,_⟩:=he;obtain ⟨i,hi,rfl⟩:=azi.1 hv;have T:=h3 i;rw [azk (by simpa using hi)] at T;split at T
    ·exact J _ (List.mem_of_getElem? T.symm)
    ·exact H.all1 B arr k.el fr E _ (by simpa using Array.mem_of_getElem? T.symm)
  ·have r:=Z d f x u D l a;exact sC S (fun _ _ h=>h) (t.blk d f x u l a) (tT g vs p w x r) (fun a0=>((t.blk d f x u l a).wr a0).1)
 ·rcases q W f q1 with ⟨rfl,rfl⟩ | ⟨a3,M⟩
  ·rcases q Q R q2 with ⟨rfl,rfl⟩ | ⟨Y,C⟩
   ·rfl
   ·exact t.inj _ Q k R x o1 V G C q3 q4 B
  ·rcases q Q R q2 with ⟨rfl,rfl⟩ | ⟨Y,C⟩
   ·exact t.inj W _ f k x o1 V M G q3 q4 q5
   ·exact t.inj W Q f R x o1 V M C q3 q4 q5
 ·rcases r with ⟨d,f,u,s,a,L⟩ | r
  ·rcases q d f s with ⟨rfl,rfl⟩ | ⟨D,l⟩
   ·exact .inl (.inl ⟨_,k,u,G,B,L⟩)
   ·exact .inl (.inl ⟨d,f,u,l,a,L⟩)
  ·exact .inl (.inr r)
end
end Go.Tw