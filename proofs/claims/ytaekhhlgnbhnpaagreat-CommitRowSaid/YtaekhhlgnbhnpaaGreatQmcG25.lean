import Derived.Test.YtaekhhlgnbhnpaaGreatQmcG16
import Derived.Test.YtaekhhlgnbhnpaaGreatQmcG21
import Derived.Test.YtaekhhlgnbhnpaaGreatQmcG13
import Derived.Test.YtaekhhlgnbhnpaaGreatQmcG14
import Derived.Test.YtaekhhlgnbhnpaaGreatRows
import Derived.ProofKit
import Derived.OpenShut
import Derived.Lib.SmallJoins
import Derived.Deep.Fields
import Derived.ChangeMaps5
set_option linter.unusedVariables false
set_option linter.unusedSimpArgs false
set_option maxRecDepth 100000
open Go.Proofs.Tryz
open Go.Proofs.Tryz renaming prog→ayU
open List renaming flatMap_cons→aBF,length_map→aCi,getElem?_eq_some_iff→ay8,getElem?_append_right→azh
namespace Go.Proofs.YtaekhhlgnbhnpaaGreat
open Go Go.Tw Go.Proofs
open Go.ChangeShapes Go.WideShapes Go.ChangeAt Go.RowKit Go.Deep
section
variable {H:Type} {enc:TypeId×Value→H} {W:World} {r:Reach} {b0:Nat} {v:Value} {d:DataW H} {p:List MemPlace}
theorem aqp {α:Type} {f:α→AV}:∀ (l:List (α×List AV)),(∀ a∈l,a.2=[f a.1])→l.flatMap (·.2)=(l.map (·.1)).map f
 | [],_=>rfl
 | a::l,h=>by rw [aBF,h a (by simp),aqp l fun b c=>h b (by simp [c])];rfl
theorem aqq {cs:List Value} {d:Nat} {x:DataW H×List MemPlace} (h:DataW.trod enc ayU W 0 (fun _=>true) true d 52 cs=some x) :
 ∃ (u:Value) (e:AV) (l:List UInt8) (y:List AV),cs=[u]∧VR ayU W (qO W) dA e u∧aT e l.length (aJ l++y)∧l.length≤maxLen:=by
 obtain ⟨u,e,l,y,m,q,i,k,p,_⟩:=ahg (α:=UInt8) (fun b f=>f=[bA b]) 1 (by decide) Tryz.underlying52 (by kernel_rfl) (fun n cs x r=>by
  obtain ⟨n,rfl,_,o⟩:=DataW.trod_int Tryz.underlying5 r;refine ⟨UInt8.ofNat n.toNat,[.val (.int .u8 n)],rfl,fun c g=>by simp at g;subst g;rfl, ?_,⟨_,rfl,rfl⟩,trivial⟩;have:0≤n∧n≤255:=by
   simp [Lit.wf,IntKind.min,IntKind.max,IntKind.signed,IntKind.bits] at o;omega
  simp only [bA,UInt8.toNat_ofNat'];congr 3;omega) h
 refine ⟨u,e,l.map (·.1),y,m,q, ?_,by simpa using p⟩;rw [aCi];rw [aqp l fun a j=>(k a j).1] at i;exact i
theorem ayh (hv:Value.okWide ayU W r b0 24 v) (h:DataW.Trod enc ayU W 0 (fun _=>true) true 24 v d p) :
 ∃ (av:AV) (ps:List aO) (cells:List AV),VR ayU W (qO W) dA av v∧dG av ps cells∧(ps.length=0∨∃ E S,d = .slice E S∧E.length=ps.length):=by
 obtain ⟨av,l,y,h2,h3,h4,h5,h6⟩:=asG (α:=aO) (fun p avs=>∃ a b xa xb,avs=[a,b]∧aT a p.1.length (aJ p.1++xa)∧aT b p.2.length (aJ p.2++xb)) 2 (by decide) Tryz.underlying24 (by kernel_rfl) (fun n cs x hx=>by
  obtain ⟨xs,m,_,_,hlen,hxl,f⟩:=DataW.trod_array Tryz.underlying131 hx
  have hl:cs.length=2:=hlen.trans (by kernel_rfl)
  have c1:ayU.cellsOf 52=1:=by kernel_rfl
  match cs,hl,xs,hxl with
  | [c0,c1'],_,[x0,x1],_ =>
   have f0:=f 0 (by decide)
   have f1:=f 1 (by decide)
   rw [c1] at f0 f1
   obtain ⟨u0,a0,l0,y0,g1,g2,g3,_⟩:=aqq f0
   obtain ⟨u1,a1,l1,y1,k1,k2,k3,_⟩:=aqq f1
   obtain rfl:c0=u0:=by simpa using g1
   obtain rfl:c1'=u1:=by simpa using k1
   refine ⟨(l0,l1),[a0,a1],rfl,fun c hc => ?_,⟨a0,a1,y0,y1,rfl,g3,k3⟩,⟨_,rfl,g2⟩,⟨_,rfl,k2⟩,trivial⟩
   simp at hc
   rcases hc with rfl | rfl
   ·exact bR g3
   ·exact bR k3) hv h
 refine ⟨av,l.map (·.1),l.flatMap (·.2)++y,h2,⟨?_,fun i q hq => ?_⟩,by rw [aCi];exact h6⟩
 ·rw [aCi];exact h3
 ·rw [List.getElem?_map,Option.map_eq_some_iff] at hq
  obtain ⟨a,ha,rfl⟩:=hq
  have hil:=(ay8.1 ha).1
  obtain ⟨⟨a0,b0,xa,xb,e,r1,r2⟩,_⟩:=h4 a (List.mem_of_getElem? ha)
  have hsp:l.flatMap (·.2)++y=(l.take i).flatMap (·.2)++([a0,b0]++((l.drop (i+1)).flatMap (·.2)++y)):=by
   have:l=l.take i++a::l.drop (i+1):=by
    have:=ay8.1 ha
    rw [←this.2,←List.drop_eq_getElem_cons,List.take_append_drop]
   conv=>lhs;rw [this]
   rw [List.flatMap_append,aBF,e]
   simp
  have htl:((l.take i).flatMap (·.2)).length=i*2:=by
   rw [ahf fun b hb=>(h4 b (List.mem_of_mem_take hb)).2,List.length_take]
   congr 1
   omega
  refine ⟨a0,b0,xa,xb, ?_, ?_,r1,r2⟩
  ·rw [hsp,azh (by omega),htl]
   simp
  ·rw [hsp,azh (by omega),htl]
   simp
end
end Go.Proofs.YtaekhhlgnbhnpaaGreat