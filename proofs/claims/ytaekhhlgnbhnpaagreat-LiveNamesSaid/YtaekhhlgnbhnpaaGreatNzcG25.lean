import Derived.Test.YtaekhhlgnbhnpaaGreatNzcG21
import Derived.Test.YtaekhhlgnbhnpaaGreatNzcG13
import Derived.Test.YtaekhhlgnbhnpaaGreatNzcG14
import Derived.Test.YtaekhhlgnbhnpaaGreatRows
import Derived.ProofKit
import Derived.OpenShut
import Derived.Lib.SmallJoins
import Derived.Deep.Fields
import Derived.ChangeMaps5
set_option linter.unusedVariables false
set_option linter.unusedSimpArgs false
set_option maxRecDepth 100000
open Go.Proofs.Tryz
open Go.DataW renaming trod_int→aCe,weightsEach→aCg
open Go.Proofs.Tryz renaming prog→ayS
open List renaming flatMap_cons→aBC,length_map→aCf,getElem?_eq_some_iff→ay5
namespace Go.Proofs.YtaekhhlgnbhnpaaGreat
open Go Go.Tw Go.Proofs
open Go.ChangeShapes Go.WideShapes Go.ChangeAt Go.RowKit Go.Deep
section
variable {H:Type} {enc:TypeId×Value→H} {W:World} {r:Reach} {b0:Nat} {v:Value} {d:DataW H} {p:List MemPlace}
theorem apG {α:Type} {f:α→AV}:∀ (l:List (α×List AV)),(∀ a∈l,a.2=[f a.1])→l.flatMap (·.2)=(l.map (·.1)).map f
 | [],_=>rfl
 | a::l,h=>by rw [aBC,h a (by simp),apG l fun b c=>h b (by simp [c])];rfl
theorem axz {cs:List Value} {d:Nat} {x:DataW H×List MemPlace} (h:DataW.trod enc ayS W 0 (fun _=>true) true d 52 cs=some x) :
 ∃ (u:Value) (e:AV) (l:List UInt8) (y:List AV),cs=[u]∧VR ayS W (qA W) cZ e u∧aZ e l.length (aL l++y)∧l.length≤maxLen:=by
 obtain ⟨u,e,l,y,r,p,g,m,j,_⟩:=alT (α:=UInt8) (fun b f=>f=[bA b]) 1 (by decide) Tryz.underlying52 (by kernel_rfl) (fun n cs x k=>by
  obtain ⟨n,rfl,_,q⟩:=aCe Tryz.underlying5 k;refine ⟨UInt8.ofNat n.toNat,[.val (.int .u8 n)],rfl,fun c i=>by simp at i;subst i;rfl, ?_,⟨_,rfl,rfl⟩,trivial⟩;have:0≤n∧n≤255:=by
   simp [Lit.wf,IntKind.min,IntKind.max,IntKind.signed,IntKind.bits] at q;omega
  simp only [bA,UInt8.toNat_ofNat'];congr 3;omega) h
 refine ⟨u,e,l.map (·.1),y,r,p, ?_,by simpa using j⟩;rw [aCf];rw [apG l fun a o=>(m a o).1] at g;exact g
theorem axA {cs:List Value} {d:Nat} {x:DataW H×List MemPlace} (h:DataW.trod enc ayS W 0 (fun _=>true) true d 45 cs=some x) :
 ∃ (u:Value) (f:AV) (L:List (List UInt8)) (cells:List AV),cs=[u]∧VR ayS W (qA W) cZ f u∧fQ f L cells∧(L.length=0∨∃ E S,x.1 = .slice E S∧E.length=L.length):=by
 obtain ⟨u,f,l,y,C,F,w,q,G,z⟩:=alT (α:=List UInt8) (fun b k=>∃ a x,k=[a]∧aZ a b.length (aL b++x)) 1 (by decide) Tryz.underlying45 (by kernel_rfl) (fun n cs x A=>by
  obtain ⟨u,a,l,y,t,v,p,_⟩:=axz A;subst t;exact ⟨l,[a],rfl,fun c s=>by simp at s;subst s;exact bQ p,⟨a,y,rfl,p⟩,⟨_,rfl,v⟩,trivial⟩) h
 refine ⟨u,f,l.map (·.1),l.flatMap (·.2)++y,C,F,⟨by rw [aCf];exact w,fun i b g => ?_⟩,by rw [aCf];exact z⟩;rw [List.getElem?_map,Option.map_eq_some_iff] at g;obtain ⟨a,m,rfl⟩:=g;have D:=(ay5.1 m).1;obtain ⟨⟨r,B,e,r1⟩,_⟩:=q a (List.mem_of_getElem? m);have o:l.flatMap (·.2)++y=(l.take i).flatMap (·.2)++([r]++((l.drop (i+1)).flatMap (·.2)++y)):=by
  have:l=l.take i++a::l.drop (i+1):=by
   have:=ay5.1 m;rw [←this.2,←List.drop_eq_getElem_cons,List.take_append_drop]
  conv=>lhs;rw [this]
  rw [List.flatMap_append,aBC,e];simp
 have j:((l.take i).flatMap (·.2)).length=i:=by
  rw [ag4 fun b g=>(q b (List.mem_of_mem_take g)).2,List.length_take];omega
 refine ⟨r,B, ?_,r1⟩;rw [o,List.getElem?_append_right (by omega),j];simp
theorem axB (K:Value.okWide ayS W r b0 47 v) (h:DataW.Trod enc ayS W 0 (fun _=>true) true 47 v d p) :
 ∃ (k J c w:Int) (f:AV) (L:List (List UInt8)) (cells:List AV),VR ayS W (qA W) cZ (dD k J c w f) v∧fQ f L cells∧(L.length=0∨∃ a E S,d = .agg [a,.slice E S]∧E.length=L.length):=by
 obtain ⟨cs,rfl,b⟩:=okWide_struct Tryz.underlying47 K;obtain ⟨y,H⟩:=h;have s:ayS.cellsOf 47=5:=by kernel_rfl
 have j:ayS.cellsOf 23=4:=by kernel_rfl
 have i:ayS.cellsOf 45=1:=by kernel_rfl
 have o:ayS.cellsOf 3=1:=by kernel_rfl
 rw [s] at b;obtain ⟨cs⟩:=cs;have q:cs.length=5:=by simpa using b
 match cs,q with
 | [c0,c1,c2,c3,c4],_ =>
  obtain ⟨U,X,n,t,_,l,m⟩:=trod_struct2 Tryz.underlying47 H;have M:(([c0,c1,c2,c3,c4]:List Value).drop 0).take 4=[c0,c1,c2,c3]:=rfl;have P:(([c0,c1,c2,c3,c4]:List Value).drop 4).take 1=[c4]:=rfl;simp only [Value.cells] at l m;rw [j,M] at l;rw [i,P] at m;obtain ⟨z0,z1,Z,z3,Y,_,_,x,G,F,C⟩:=Go.Joins.trod_struct4 Tryz.underlying23 l;rw [o] at x G F C;obtain ⟨Q,B,_,_⟩:=aCe Tryz.underlying3 x;obtain ⟨I,e,_,_⟩:=aCe Tryz.underlying3 G;obtain ⟨R,g,_,_⟩:=aCe Tryz.underlying3 F;obtain ⟨N,z,_,_⟩:=aCe Tryz.underlying3 C;simp at B e g z;obtain ⟨u,f,L,cells,T,O,A,V⟩:=axA m;obtain rfl:c4=u:=by simpa using T
  subst B e g z;refine ⟨Q,I,R,N,f,L,cells, ?_,A,V.imp id fun ⟨E,S,e,g⟩=>⟨U.1,E,S,by rw [(Prod.mk.inj t).1,e],g⟩⟩;simp only [dD,aC,VR,bC];refine ⟨_,rfl,rfl,fun c D => ?_,⟨_,rfl,rfl⟩,⟨_,rfl,rfl⟩,⟨_,rfl,rfl⟩,⟨_,rfl,rfl⟩,⟨_,rfl,O⟩,trivial⟩;simp at D;rcases D with rfl | rfl | rfl | rfl | rfl
  ·rfl
  ·rfl
  ·rfl
  ·rfl
  ·exact bQ A.rd
theorem axC {ts:List TypeId} {b:List (DataW H)} (h:(aCg ayS ts b).all (·≤reachBytes)=true) {j:Nat} {a:DataW H} {E S:List (DataW H)} (c:ts[j]? = some 47) (e:b[j]? = some (.agg [a,.slice E S])):E.length*24≤140737488355328:=by
 have d:ayS.bytesOf 52=24:=by kernel_rfl
 have:=List.all_eq_true.1 h _ (DataW.weights_mem_each c e ((E.length+S.length)*ayS.bytesOf 52) (by simp [DataW.weights,Tryz.underlying47,aCg,Tryz.underlying45]));rw [d] at this;have g:reachBytes≤140737488355328:=by decide
 have f:=of_decide_eq_true this;omega
end
end Go.Proofs.YtaekhhlgnbhnpaaGreat