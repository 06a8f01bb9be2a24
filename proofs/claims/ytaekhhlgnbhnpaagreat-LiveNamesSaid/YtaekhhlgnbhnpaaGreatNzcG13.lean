import Derived.Test.YtaekhhlgnbhnpaaGreatNzcG11
import Derived.Deep.Slices
import Derived.Below
import Derived.SizedLaws
set_option linter.unusedVariables false
set_option linter.unusedSimpArgs false
open List renaming flatMap_append→aA0
open Nat renaming le_refl→ay7
namespace Go.Tw
open Go Go.RowKit Go.ChangeShapes Go.WideShapes Go.Deep
section
variable {H:Type} {enc:TypeId×Value→H} {P:Program} {W:World} {α:Type}
theorem ar4 (s:ByteArray):s.data.toList.length=s.size:=Array.length_toList
end
section
variable {H:Type} {enc:TypeId×Value→H} {P:Program} {W:World} {α:Type}
theorem ag4 {k:Nat}:∀ {L:List (α×List AV)},(∀ a∈L,a.2.length=k)→(L.flatMap (·.2)).length=L.length*k
 | [],_=>by simp
 | a::L,h=>by
  rw [List.flatMap_cons,List.length_append,h a (by simp),ag4 fun b c=>h b (by simp [c]),List.length_cons,Nat.succ_mul];omega
theorem alT {t e:TypeId} {cs:List Value} {C:Nat} {x:DataW H×List MemPlace} (i:α→List AV→Prop) (k:Nat) (O:0 < k) (ht:P.underlying t=some (.slice e)) (hk:P.cellsOf e=k)
 (F:∀ n cs x,DataW.trod enc P W 0 (fun _=>true) true n e cs=some x→∃ a f,f.length=k∧eF f∧i a f∧bC P W (qA W) cZ f (fun j=>cs[j]?))
 (h:DataW.trod enc P W 0 (fun _=>true) true C t cs=some x) :
 ∃ (u:Value) (av:AV) (l:List (α×List AV)) (y:List AV),cs=[u]∧VR P W (qA W) cZ av u∧aZ av l.length (l.flatMap (·.2)++y)∧(∀ a∈l,i a.1 a.2∧a.2.length=k)∧l.length≤maxLen∧(l.length=0∨∃ E S,x.1 = .slice E S∧E.length=l.length):=by
 rcases open_slice ht h with ⟨rfl,_⟩ | ⟨a,len,cap,m,n,D,Pl,rfl,A,hl,hm,I,hx,hi⟩
 ·exact ⟨_,aN,[],[],rfl,rfl,⟨.inl ⟨rfl,rfl⟩⟩,fun _ h=>(by cases h),Nat.zero_le _,.inl rfl⟩
 ·simp only [if_true] at I;subst I;by_cases a2:m=0
  ·subst a2;obtain rfl:len=0:=by omega
   refine ⟨_,.emp 0 false,[],[],rfl, ?_,⟨.inr (.inl ⟨0,false,rfl,rfl⟩)⟩,fun _ h=>(by cases h),Nat.zero_le _,.inl rfl⟩;unfold VR;exact ⟨a,0,rfl,ay7 _,fun h=>(by cases h)⟩
  ·obtain ⟨a6,M,_⟩:=hi 0 (by omega);rw [Nat.zero_mul] at M;obtain ⟨_,Q,G⟩:=World.cells?_some M;have d:=G 0 (by rw [hk];exact O);have N:Addr.add a 0=a:=rfl;rw [N,N,List.getElem?_eq_getElem (by rw [Q,hk];exact O)] at d;obtain ⟨g,o,s⟩:=a;have a4:s=none∧g < W.heap.size:=by
    unfold World.cell? at d;simp only at d;cases U:W.heap[g]? with
    | none=>rw [U] at d;cases d
    | some z =>
     rw [U] at d;refine ⟨?_,(Array.getElem?_eq_some_iff.1 U).1⟩;cases z <;> simp at d;exact d.1
   obtain ⟨rfl,hg⟩:=a4;have T:∀ j,Addr.add ⟨g,o,none⟩ j=⟨g,o+j,none⟩:=fun j=>by
    unfold Addr.add;split
    ·rename_i h;subst h;rfl
    ·rfl
   have key:∀ q,q≤m→∃ L:List (α×List AV),L.length=q∧(∀ a∈L,i a.1 a.2∧a.2.length=k)∧eF (L.flatMap (·.2))∧∀ (j:Nat) (c:AV),(L.flatMap (·.2))[j]? = some c→∃ u,W.cell? ⟨g,o+j,none⟩=some u∧VR P W (qA W) cZ c u:=by
    intro q
    induction q with
    | zero=>intro _;exact ⟨[],rfl,fun _ h=>(by cases h),fun _ h=>(by cases h),fun j c h=>by simp at h⟩
    | succ q ih =>
     intro U;obtain ⟨L,h1,V,w,Y⟩:=ih (by omega);obtain ⟨a5,J,a3⟩:=hi q (by omega);obtain ⟨a,f,X,K,a0,Z⟩:=F _ _ _ a3;rw [hk,T] at J;obtain ⟨_,a9,a1⟩:=World.cells?_some J;refine ⟨L++[(a,f)],by simp [h1],fun b A => ?_,fun c B => ?_,fun j c r => ?_⟩
     ·rcases List.mem_append.1 A with A | A
      ·exact V b A
      ·simp at A;subst A;exact ⟨a0,X⟩
     ·rw [aA0,List.flatMap_singleton,List.mem_append] at B;rcases B with B | B
      ·exact w c B
      ·exact K c B
     ·rw [aA0,List.flatMap_singleton] at r;have R:=ag4 fun a ha=>(V a ha).2
      rw [h1] at R;by_cases a7:j < q*k
      ·rw [List.getElem?_append_left (by omega)] at r;exact Y j c r
      ·rw [List.getElem?_append_right (by omega),R] at r;have hr:j - q*k < k:=by
        have:=(List.getElem?_eq_some_iff.1 r).1;simp only at this;omega
       obtain ⟨u,hu,hv⟩:=gQ Z r;have:=a1 (j - q*k) hr;have e1:Addr.add ⟨g,o+q*k,none⟩ (j - q*k)=⟨g,o+j,none⟩:=by
        unfold Addr.add;split
        ·rename_i h;congr 1;omega
        ·show (⟨g,o+q*k+(j - q*k),none⟩:Addr)=_;congr 1;omega
       rw [e1,hu] at this;exact ⟨u,this,hv⟩
   obtain ⟨L,h1,V,w,Y⟩:=key m (ay7 _);have p:L.flatMap (·.2)=(L.take len).flatMap (·.2)++(L.drop len).flatMap (·.2):=by rw [←aA0,List.take_append_drop]
   have v:(L.take len).length=len:=by rw [List.length_take];omega
   refine ⟨_,.tree len m (L.flatMap (·.2)) false,L.take len,(L.drop len).flatMap (·.2),rfl, ?_, ?_,fun a ha=>V a (List.mem_of_mem_take ha),by rw [v];omega,.inr ⟨_,_,by rw [hx],by rw [v];simp⟩⟩
   ·unfold VR;exact ⟨g,o,m,rfl,hg,⟨hl,ay7 _⟩,fun h=>(by cases h),w,j6.2 fun j c r=>Y j c r⟩
   ·rw [←p,v];exact ⟨.inr (.inr ⟨m,false,rfl,hl⟩)⟩
end
end Go.Tw