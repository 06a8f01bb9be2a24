import Derived.Test.YtaekhhlgnbhnpaaGreatQmcG11
import Derived.Deep.Slices
import Derived.Below
import Derived.SizedLaws
set_option linter.unusedVariables false
set_option linter.unusedSimpArgs false
open List renaming flatMap_append→aA3
open Nat renaming le_refl→aza
namespace Go.Tw
open Go Go.RowKit Go.ChangeShapes Go.WideShapes Go.Deep
section
variable {H:Type} {enc:TypeId×Value→H} {P:Program} {W:World} {α:Type}
end
section
variable {H:Type} {enc:TypeId×Value→H} {P:Program} {W:World} {α:Type}
theorem ahf {k:Nat}:∀ {L:List (α×List AV)},(∀ a∈L,a.2.length=k)→(L.flatMap (·.2)).length=L.length*k
 | [],_=>by simp
 | a::L,h=>by
  rw [List.flatMap_cons,List.length_append,h a (by simp),ahf fun b c=>h b (by simp [c]),List.length_cons,Nat.succ_mul];omega
theorem ahg {t e:TypeId} {cs:List Value} {M:Nat} {x:DataW H×List MemPlace} (i:α→List AV→Prop) (k:Nat) (G:0 < k) (ht:P.underlying t=some (.slice e)) (hk:P.cellsOf e=k)
 (O:∀ n cs x,DataW.trod enc P W 0 (fun _=>true) true n e cs=some x→∃ a f,f.length=k∧dY f∧i a f∧bB P W (qO W) dA f (fun j=>cs[j]?))
 (h:DataW.trod enc P W 0 (fun _=>true) true M t cs=some x) :
 ∃ (u:Value) (av:AV) (l:List (α×List AV)) (y:List AV),cs=[u]∧VR P W (qO W) dA av u∧aT av l.length (l.flatMap (·.2)++y)∧(∀ a∈l,i a.1 a.2∧a.2.length=k)∧l.length≤maxLen∧(l.length=0∨∃ E S,x.1 = .slice E S∧E.length=l.length):=by
 rcases open_slice ht h with ⟨rfl,_⟩ | ⟨a,len,cap,m,n,D,Pl,rfl,v,hl,hm,I,hx,hi⟩
 ·exact ⟨_,aW,[],[],rfl,rfl,⟨.inl ⟨rfl,rfl⟩⟩,fun _ h=>(by cases h),Nat.zero_le _,.inl rfl⟩
 ·simp only [if_true] at I;subst I;by_cases a2:m=0
  ·subst a2;obtain rfl:len=0:=by omega
   refine ⟨_,.emp 0 false,[],[],rfl, ?_,⟨.inr (.inl ⟨0,false,rfl,rfl⟩)⟩,fun _ h=>(by cases h),Nat.zero_le _,.inl rfl⟩;unfold VR;exact ⟨a,0,rfl,aza _,fun h=>(by cases h)⟩
  ·obtain ⟨a6,Q,_⟩:=hi 0 (by omega);rw [Nat.zero_mul] at Q;obtain ⟨_,F,J⟩:=World.cells?_some Q;have d:=J 0 (by rw [hk];exact G);have R:Addr.add a 0=a:=rfl;rw [R,R,List.getElem?_eq_getElem (by rw [F,hk];exact G)] at d;obtain ⟨g,o,s⟩:=a;have Z:s=none∧g < W.heap.size:=by
    unfold World.cell? at d;simp only at d;cases V:W.heap[g]? with
    | none=>rw [V] at d;cases d
    | some z =>
     rw [V] at d;refine ⟨?_,(Array.getElem?_eq_some_iff.1 V).1⟩;cases z <;> simp at d;exact d.1
   obtain ⟨rfl,hg⟩:=Z;have C:∀ j,Addr.add ⟨g,o,none⟩ j=⟨g,o+j,none⟩:=fun j=>by
    unfold Addr.add;split
    ·rename_i h;subst h;rfl
    ·rfl
   have key:∀ q,q≤m→∃ L:List (α×List AV),L.length=q∧(∀ a∈L,i a.1 a.2∧a.2.length=k)∧dY (L.flatMap (·.2))∧∀ (j:Nat) (c:AV),(L.flatMap (·.2))[j]? = some c→∃ u,W.cell? ⟨g,o+j,none⟩=some u∧VR P W (qO W) dA c u:=by
    intro q
    induction q with
    | zero=>intro _;exact ⟨[],rfl,fun _ h=>(by cases h),fun _ h=>(by cases h),fun j c h=>by simp at h⟩
    | succ q ih =>
     intro V;obtain ⟨L,Y,U,A,h3⟩:=ih (by omega);obtain ⟨a9,K,a0⟩:=hi q (by omega);obtain ⟨a,f,a1,N,a5,a4⟩:=O _ _ _ a0;rw [hk,C] at K;obtain ⟨_,a7,a3⟩:=World.cells?_some K;refine ⟨L++[(a,f)],by simp [Y],fun b v => ?_,fun c B => ?_,fun j c r => ?_⟩
     ·rcases List.mem_append.1 v with v | v
      ·exact U b v
      ·simp at v;subst v;exact ⟨a5,a1⟩
     ·rw [aA3,List.flatMap_singleton,List.mem_append] at B;rcases B with B | B
      ·exact A c B
      ·exact N c B
     ·rw [aA3,List.flatMap_singleton] at r;have T:=ahf fun a X=>(U a X).2
      rw [Y] at T;by_cases a8:j < q*k
      ·rw [List.getElem?_append_left (by omega)] at r;exact h3 j c r
      ·rw [List.getElem?_append_right (by omega),T] at r;have hr:j - q*k < k:=by
        have:=(List.getElem?_eq_some_iff.1 r).1;simp only at this;omega
       obtain ⟨u,hu,hv⟩:=gW a4 r;have:=a3 (j - q*k) hr;have e1:Addr.add ⟨g,o+q*k,none⟩ (j - q*k)=⟨g,o+j,none⟩:=by
        unfold Addr.add;split
        ·rename_i h;congr 1;omega
        ·show (⟨g,o+q*k+(j - q*k),none⟩:Addr)=_;congr 1;omega
       rw [e1,hu] at this;exact ⟨u,this,hv⟩
   obtain ⟨L,Y,U,A,h3⟩:=key m (aza _);have p:L.flatMap (·.2)=(L.take len).flatMap (·.2)++(L.drop len).flatMap (·.2):=by rw [←aA3,List.take_append_drop]
   have w:(L.take len).length=len:=by rw [List.length_take];omega
   refine ⟨_,.tree len m (L.flatMap (·.2)) false,L.take len,(L.drop len).flatMap (·.2),rfl, ?_, ?_,fun a X=>U a (List.mem_of_mem_take X),by rw [w];omega,.inr ⟨_,_,by rw [hx],by rw [w];simp⟩⟩
   ·unfold VR;exact ⟨g,o,m,rfl,hg,⟨hl,aza _⟩,fun h=>(by cases h),A,lG.2 fun j c r=>h3 j c r⟩
   ·rw [←p,w];exact ⟨.inr (.inr ⟨m,false,rfl,hl⟩)⟩
theorem asG {r:Reach} {B:Nat} {t e:TypeId} {v:Value} {d:DataW H} {p:List MemPlace} (b:α→List AV→Prop) (k:Nat) (m:0 < k) (z:P.underlying t=some (.slice e)) (F:P.cellsOf e=k)
 (g:∀ n cs x,DataW.trod enc P W 0 (fun _=>true) true n e cs=some x→∃ a c,c.length=k∧dY c∧b a c∧bB P W (qO W) dA c (fun j=>cs[j]?))
 (D:Value.okWide P W r B t v) (h:DataW.Trod enc P W 0 (fun _=>true) true t v d p) :
 ∃ (i:AV) (l:List (α×List AV)) (y:List AV),VR P W (qO W) dA i v∧aT i l.length (l.flatMap (·.2)++y)∧(∀ a∈l,b a.1 a.2∧a.2.length=k)∧l.length≤maxLen∧(l.length=0∨∃ E S,d = .slice E S∧E.length=l.length):=by
 obtain ⟨w,f⟩:=h;obtain ⟨s,len,cap,rfl⟩:=okWide_slice z D;have o:(Value.slice s len cap).cells.toList=[.slice s len cap]:=rfl;rw [o] at f;obtain ⟨u,i,l,y,q,A,C⟩:=ahg b k m z F g f;simp at q;subst q;exact ⟨i,l,y,A,C⟩
end
end Go.Tw