import Derived.Test.YtaekhhlgnbhnpaaGreatQmcG25
import Derived.Test.YtaekhhlgnbhnpaaGreatQmcG20
import Derived.Deep.Strs
import Derived.Test.YtaekhhlgnbhnpaaGreatQmcG22
set_option linter.unusedVariables false
set_option linter.unusedSimpArgs false
set_option maxRecDepth 100000
open Go.Proofs.Tryz
open Go.DataW renaming trod_int→ayV
open Go.Proofs.Tryz renaming prog→ayU
open List renaming flatMap_cons→aBF
namespace Go.Proofs.YtaekhhlgnbhnpaaGreat
open Go Go.Tw Go.Proofs
open Go.ChangeShapes Go.WideShapes Go.ChangeAt Go.RowKit Go.Deep
section
variable {H:Type} {enc:TypeId×Value→H} {W:World} {r:Reach} {b0:Nat} {v:Value} {d:DataW H} {p:List MemPlace}
theorem ayi {cs:List Value} {d:Nat} {x:DataW H×List MemPlace} (h:DataW.trod enc ayU W 0 (fun _=>true) true d 31 cs=some x) :
 ∃ (u:Value) (f:AV) (l:List cC) (y:List AV),cs=[u]∧VR ayU W (qO W) dA f u∧aT f l.length (cU l++y)∧l.length≤9223372036854775807:=by
 obtain ⟨u,f,l,y,w,D,t,F,A,_⟩:=ahg (α:=cC) (fun b j=>j=[aB b.1,aB b.2]) 2 (by decide) Tryz.underlying31 (by kernel_rfl) (fun n cs x z=>by
  obtain ⟨I,J,m,_,C,s,v⟩:=trod_struct2 Tryz.underlying67 z;have i:ayU.cellsOf 3=1:=by kernel_rfl
  have g:cs.length=2:=C.trans (by kernel_rfl)
  match cs,g with
  | [c0,c1],_ =>
   rw [i] at s v;obtain ⟨q,k,_,_⟩:=ayV Tryz.underlying3 s;obtain ⟨p,o,_,_⟩:=ayV Tryz.underlying3 v;simp at k o;subst k o;refine ⟨(q,p),[aB q,aB p],rfl,fun c r => ?_,rfl,⟨_,rfl,rfl⟩,⟨_,rfl,rfl⟩,trivial⟩;simp at r;rcases r with rfl | rfl <;> rfl) h
 refine ⟨u,f,l.map (·.1),y,w,D, ?_,by have:l.length≤maxLen:=A;unfold maxLen at this;simpa using this⟩;rw [List.length_map];have e:l.flatMap (·.2)=cU (l.map (·.1)):=by
  unfold cU;rw [List.flatMap_map];have:∀ (l:List (cC×List AV)),(∀ a∈l,a.2=[aB a.1.1,aB a.1.2])→l.flatMap (·.2)=l.flatMap fun a=>[aB a.1.1,aB a.1.2]:=by
   intro l
   induction l with
   | nil=>intro _;rfl
   | cons a l G=>intro h;rw [aBF,aBF,h a (by simp),G fun b B=>h b (by simp [B])]
  exact this l fun a E=>(F a E).1
 rw [e] at t;exact t
theorem ayj (x:Value.okWide ayU W r b0 33 v) (h:DataW.Trod enc ayU W 0 (fun _=>true) true 33 v d p) :
 ∃ (len dep:Int) (b:AV) (l:List cC) (y:List AV),VR ayU W (qO W) dA (.agg [aB len,aB dep,b]) v∧aT b l.length (cU l++y)∧l.length≤9223372036854775807:=by
 obtain ⟨cs,rfl,a⟩:=okWide_struct Tryz.underlying33 x;obtain ⟨t,A⟩:=h;have j:ayU.cellsOf 33=3:=by kernel_rfl
 have f:ayU.cellsOf 31=1:=by kernel_rfl
 have i:ayU.cellsOf 3=1:=by kernel_rfl
 rw [j] at a;obtain ⟨cs⟩:=cs;have g:cs.length=3:=by simpa using a
 match cs,g with
 | [c0,c1,c2],_ =>
  obtain ⟨F,H,G,n,_,_,k,m,e⟩:=trod_struct3 Tryz.underlying33 A;simp only [Value.cells] at k m e;rw [i] at k m;rw [f] at e;obtain ⟨D,o,_,_⟩:=ayV Tryz.underlying3 k;obtain ⟨C,s,_,_⟩:=ayV Tryz.underlying3 m;simp at o s;obtain ⟨u,b,l,y,z,E,q,B⟩:=ayi e;obtain rfl:c2=u:=by simpa using z
  subst o s;refine ⟨D,C,b,l,y, ?_,q,B⟩;simp only [aB,VR,bB];refine ⟨_,rfl,rfl,fun c w => ?_,⟨_,rfl,rfl⟩,⟨_,rfl,rfl⟩,⟨_,rfl,E⟩,trivial⟩;simp at w;rcases w with rfl | rfl | rfl
  ·rfl
  ·rfl
  ·exact bR q
end
end Go.Proofs.YtaekhhlgnbhnpaaGreat
set_option maxRecDepth 10000
namespace Go.Proofs.YtaekhhlgnbhnpaaGreat
open Go Go.Tw Go.Proofs Go.Gf
structure ayQ (m:aF) (v:AV) (N:Nat) (pre:List cC):Prop where
 ex:∃ j rest,v = .sl j 0 pre.length N false∧m.at_ j=some ⟨cU pre++rest,67,.flat,true⟩∧j < m.next∧(cU pre++rest).length=N*2
abbrev aaA:=Int×Int×Int
def xR (l:List aaA):List AV:=l.flatMap fun x=>[aB x.1,.val (.int .u8 x.2.1),aB x.2.2]
theorem ayk (l:List aaA):(xR l).length=l.length*3:=by
 induction l with
 | nil=>rfl
 | cons a l b=>simp only [aBF,zak,xR,List.length_append] at b ⊢;omega
theorem ayl (a b:List aaA):xR (a++b)=xR a++xR b:=by simp [xR]
def aqr (l:List aaA):AV := .tree l.length l.length (xR l) (decide (l.length=1))
def wP (l:List cC):List aaA:=l.map fun x=>(x.1,1,x.2)
theorem aym (l:List cC):(wP l).length=l.length:=by simp [wP]
end Go.Proofs.YtaekhhlgnbhnpaaGreat