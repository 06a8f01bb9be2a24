import Derived.Test.YtaekhhlgnbhnpaaGreatOzcG15
set_option linter.unusedVariables false
set_option linter.unusedSimpArgs false
set_option maxRecDepth 10000
namespace Go.Proofs.YtaekhhlgnbhnpaaGreat
open Go Go.Tw Go.Proofs
def f8 (k r c w:Int) (ps:List bX):List (Int×Int):=ps.mapIdx fun i p=>(lG k r c w p.1 i,lG k r c w p.2 i)
def xX (hs:List (Int×Int)) (v:Int):Prop:=∃ (i:Nat) (x:Int×Int),hs[i]? = some x∧(x.1=v∨x.2=v)
def qD (hs:List (Int×Int)) (i:Nat) (v:Int):Bool:=match hs[i]? with
 | some x=>decide (x.1=v) || decide (x.2=v)
 | none=>false
def iH (hs:List (Int×Int)) (v:Int) (n:Nat):List Int:=(List.range n).filterMap fun i=>if qD hs i v=true then some (i:Int) else none
theorem alT (hs:List (Int×Int)) (v:Int) (n:Nat):iH hs v (n+1)=iH hs v n++(if qD hs n v=true then [(n:Int)] else []):=by
 unfold iH
 rw [List.range_succ,List.filterMap_append]
 cases h:qD hs n v <;> simp [h]
theorem alU (hs:List (Int×Int)) (v:Int) (n:Nat):(iH hs v n).length≤n:=by
 have:=List.length_filterMap_le (fun i:Nat=>if qD hs i v=true then some (i:Int) else none) (List.range n)
 rw [List.length_range] at this
 exact this
def uQ (hs:List (Int×Int)) (top:Int) (i kk:Nat) (b:Int):Prop:=(b=0∨(0 < b∧b < top∧xX hs b)) ∧
 ∀ j x,hs[j]? = some x→(j < i∨(j=i∧1≤kk)→x.1 < top→x.1≤b)∧(j < i∨(j=i∧2≤kk)→x.2 < top→x.2≤b)
theorem arR (hs:List (Int×Int)) (top:Int):uQ hs top 0 0 0:=⟨.inl rfl,fun j x _=>⟨fun h=>by omega,fun h=>by omega⟩⟩
theorem arS {hs:List (Int×Int)} {top b:Int} {i:Nat} (h:uQ hs top i 2 b):uQ hs top (i+1) 0 b :=
 ⟨h.1,fun j x hx=>⟨fun h1=>(h.2 j x hx).1 (by omega),fun h1=>(h.2 j x hx).2 (by omega)⟩⟩
theorem arT {hs:List (Int×Int)} {top b z:Int} {i kk:Nat} {x:Int×Int} (h:uQ hs top i kk b) (hk:kk < 2) (hx:hs[i]? = some x) (hz:z=if kk=0 then x.1 else x.2):uQ hs top i (kk+1) (if z < top∧b < z then z else b):=by
 obtain ⟨h1,h2⟩:=h
 have hin:xX hs z:=by
  refine ⟨i,x,hx, ?_⟩
  split at hz
  ·exact .inl hz.symm
  ·exact .inr hz.symm
 have hb0:0≤b:=by rcases h1 with h1 | h1 <;> omega
 split
 ·rename_i hc
  refine ⟨.inr ⟨by omega,hc.1,hin⟩,fun j y hy => ?_⟩
  have:=h2 j y hy
  constructor
  ·intro h3 h4
   by_cases h5:j < i∨j=i∧1≤kk
   ·have:=this.1 h5 h4;omega
   ·have h6:j=i∧kk=0:=by omega
    obtain ⟨rfl,rfl⟩:=h6
    rw [hx] at hy;cases hy
    simp only [if_true] at hz
    omega
  ·intro h3 h4
   by_cases h5:j < i∨j=i∧2≤kk
   ·have:=this.2 h5 h4;omega
   ·have h6:j=i∧kk=1:=by omega
    obtain ⟨rfl,rfl⟩:=h6
    rw [hx] at hy;cases hy
    simp only [Nat.one_ne_zero,if_false] at hz
    omega
 ·rename_i hc
  refine ⟨h1,fun j y hy => ?_⟩
  have:=h2 j y hy
  constructor
  ·intro h3 h4
   by_cases h5:j < i∨j=i∧1≤kk
   ·exact this.1 h5 h4
   ·have h6:j=i∧kk=0:=by omega
    obtain ⟨rfl,rfl⟩:=h6
    rw [hx] at hy;cases hy
    simp only [if_true] at hz
    omega
  ·intro h3 h4
   by_cases h5:j < i∨j=i∧2≤kk
   ·exact this.2 h5 h4
   ·have h6:j=i∧kk=1:=by omega
    obtain ⟨rfl,rfl⟩:=h6
    rw [hx] at hy;cases hy
    simp only [Nat.one_ne_zero,if_false] at hz
    omega
theorem alV {hs:List (Int×Int)} {top b:Int} (h:uQ hs top hs.length 0 b) {v:Int} (hv:xX hs v) (h2:v < top):v≤b:=by
 obtain ⟨i,x,hx,hh⟩:=hv
 have hl:=(List.getElem?_eq_some_iff.1 hx).1
 have:=h.2 i x hx
 rcases hh with rfl | rfl
 ·exact this.1 (by omega) h2
 ·exact this.2 (by omega) h2
structure xY (hs:List (Int×Int)) (top:Int) (T:List Int):Prop where
 pw:T.Pairwise (· > ·)
 mem:∀ v,v∈T↔0 < v∧top≤v∧xX hs v
theorem arU {hs:List (Int×Int)} {top:Int} (h:∀ v,xX hs v→v < top):xY hs top []:=⟨.nil,fun v=>⟨fun h=>(by cases h),fun ⟨h1,h2,h3⟩=>by have:=h v h3;omega⟩⟩
theorem arV {hs:List (Int×Int)} {top b:Int} {T:List Int} (h:xY hs top T) (hb:uQ hs top hs.length 0 b) (hb0:¬ b=0):xY hs b (T++[b])∧b < top∧0 < b:=by
 rcases hb.1 with h0 | ⟨h0,h1,h2⟩
 ·omega
 refine ⟨⟨?_,fun v => ?_⟩,h1,h0⟩
 ·rw [List.pairwise_append]
  refine ⟨h.pw,List.pairwise_singleton _ _,fun a ha c hc => ?_⟩
  have:=(h.mem a).1 ha
  rw [List.mem_singleton] at hc
  omega
 ·rw [List.mem_append,List.mem_singleton,h.mem]
  constructor
  ·rintro (h3 | rfl)
   ·exact ⟨h3.1,by omega,h3.2.2⟩
   ·exact ⟨h0,by omega,h2⟩
  ·rintro ⟨h3,h4,h5⟩
   by_cases h6:top≤v
   ·exact .inl ⟨h3,h6,h5⟩
   ·have:=alV hb h5 (by omega)
    exact .inr (by omega)
theorem arW {hs:List (Int×Int)} {top:Int} {T:List Int} (h:xY hs top T) (hb:uQ hs top hs.length 0 0):xY hs 1 T:=⟨h.pw,fun v=>by
 rw [h.mem]
 constructor
 ·rintro ⟨h1,h2,h3⟩;exact ⟨h1,by omega,h3⟩
 ·rintro ⟨h1,h2,h3⟩
  refine ⟨h1, ?_,h3⟩
  by_cases h4:top≤v
  ·exact h4
  ·have:=alV hb h3 (by omega);omega⟩
theorem agC {hs:List (Int×Int)} {top:Int}:∀ {T T':List Int},T.Pairwise (· > ·)→T'.Pairwise (· > ·)→(∀ v,v∈T↔v∈T')→T=T'
 | [],[],_,_,_=>rfl
 | [],b::T',_,_,h=>by have:=(h b).2 (by simp);cases this
 | a::T,[],_,_,h=>by have:=(h a).1 (by simp);cases this
 | a::T,b::T',h1,h2,h=>by
  rw [List.pairwise_cons] at h1 h2
  have hab:a=b:=by
   have ha:=(h a).1 (by simp)
   have hb:=(h b).2 (by simp)
   rw [List.mem_cons] at ha hb
   rcases ha with ha | ha
   ·exact ha
   ·rcases hb with hb | hb
    ·exact hb.symm
    ·have:=h1.1 b hb
     have:=h2.1 a ha
     omega
  subst hab
  rw [agC (hs:=hs) (top:=top) h1.2 h2.2 fun v => ?_]
  have:=h v
  rw [List.mem_cons,List.mem_cons] at this
  constructor
  ·intro hv
   rcases this.1 (.inr hv) with h3 | h3
   ·have:=h1.1 v hv;omega
   ·exact h3
  ·intro hv
   rcases this.2 (.inr hv) with h3 | h3
   ·have:=h2.1 v hv;omega
   ·exact h3
def rZ (v:Int):List Int→List Int
 | []=>[v]
 | a::l=>if a < v then v::a::l else if v < a then a::rZ v l else a::l
theorem agD (v:Int):∀ (l:List Int) (x:Int),x∈rZ v l↔x=v∨x∈l
 | [],x=>by simp [rZ]
 | a::l,x=>by
  unfold rZ
  split
  ·simp
  ·split
   ·simp only [List.mem_cons,agD v l x]
    constructor
    ·rintro (h | h | h) <;> simp [h]
    ·rintro (h | h | h) <;> simp [h]
   ·rename_i h1 h2
    have:v=a:=by omega
    subst this
    simp
theorem alW (v:Int):∀ (l:List Int),l.Pairwise (· > ·)→(rZ v l).Pairwise (· > ·)
 | [],_=>List.pairwise_singleton _ _
 | a::l,h=>by
  unfold rZ
  split
  ·rename_i h1
   rw [List.pairwise_cons]
   refine ⟨fun x hx => ?_,h⟩
   rw [List.mem_cons] at hx
   rcases hx with rfl | hx
   ·exact h1
   ·have:=(List.pairwise_cons.1 h).1 x hx;omega
  ·split
   ·rename_i h1 h2
    rw [List.pairwise_cons] at h ⊢
    refine ⟨fun x hx => ?_,alW v l h.2⟩
    rw [agD] at hx
    rcases hx with rfl | hx
    ·exact h2
    ·exact h.1 x hx
   ·exact h
def gH (hs:List (Int×Int)):List Int:=hs.foldr (fun x l=>(if 0 < x.1 then rZ x.1 else id) ((if 0 < x.2 then rZ x.2 else id) l)) []
theorem zS:∀ (hs:List (Int×Int)),xY hs 1 (gH hs)
 | []=>⟨.nil,fun v=>⟨fun h=>(by cases h),fun ⟨_,_,i,x,h,_⟩=>by simp at h⟩⟩
 | x::hs=>by
  have ih:=zS hs
  have e:gH (x::hs)=(if 0 < x.1 then rZ x.1 else id) ((if 0 < x.2 then rZ x.2 else id) (gH hs)):=rfl
  have hin:∀ v,xX (x::hs) v↔(x.1=v∨x.2=v)∨xX hs v:=by
   intro v
   constructor
   ·rintro ⟨i,y,h,h2⟩
    cases i with
    | zero=>simp at h;subst h;exact .inl h2
    | succ i=>exact .inr ⟨i,y,by simpa using h,h2⟩
   ·rintro (h | ⟨i,y,h,h2⟩)
    ·exact ⟨0,x,rfl,h⟩
    ·exact ⟨i+1,y,by simpa using h,h2⟩
  have one:∀ (z:Int) (l:List Int),l.Pairwise (· > ·)→(((if 0 < z then rZ z else id) l).Pairwise (· > ·))∧∀ v,v∈(if 0 < z then rZ z else id) l↔(0 < z∧v=z)∨v∈l:=by
   intro z l hl
   split
   ·rename_i hz;exact ⟨alW z l hl,fun v=>by rw [agD];simp [hz]⟩
   ·rename_i hz;exact ⟨hl,fun v=>by simp [hz]⟩
  rw [e]
  obtain ⟨p1,m1⟩:=one x.2 _ ih.pw
  obtain ⟨p2,m2⟩:=one x.1 _ p1
  refine ⟨p2,fun v => ?_⟩
  rw [m2,m1,ih.mem,hin]
  constructor
  ·rintro (⟨h1,rfl⟩ | ⟨h1,rfl⟩ | h1)
   ·exact ⟨h1,by omega,.inl (.inl rfl)⟩
   ·exact ⟨h1,by omega,.inl (.inr rfl)⟩
   ·exact ⟨h1.1,h1.2.1,.inr h1.2.2⟩
  ·rintro ⟨h1,h2,(h3 | h3) | h3⟩
   ·exact .inl ⟨by omega,h3.symm⟩
   ·exact .inr (.inl ⟨by omega,h3.symm⟩)
   ·exact .inr (.inr ⟨h1,h2,h3⟩)
theorem alX {hs:List (Int×Int)} {T:List Int} (h:xY hs 1 T):T=gH hs:=agC (hs:=hs) (top:=1) h.pw (zS hs).pw fun v=>by rw [h.mem,(zS hs).mem]
def abi (hs:List (Int×Int)) (v:Int):AV:=bJ (iH hs v hs.length).length (cC (iH hs v hs.length))
def iY (hs:List (Int×Int)) (T:List Int):List AV:=T.flatMap fun v=>[aD v,abi hs v]
theorem arX (hs:List (Int×Int)) (T T':List Int):iY hs (T++T')=iY hs T++iY hs T':=by simp [iY]
theorem agE (hs:List (Int×Int)):∀ (T:List Int) (i:Nat) (v:Int),T[i]? = some v→(iY hs T)[i*2]? = some (aD v)∧(iY hs T)[i*2+1]? = some (abi hs v)
 | [],i,v,h=>by simp at h
 | a::T,0,v,h=>by
  simp at h;subst h
  exact ⟨rfl,rfl⟩
 | a::T,i+1,v,h=>by
  have ih:=agE hs T i v (by simpa using h)
  have e:iY hs (a::T)=aD a::abi hs a::iY hs T:=rfl
  rw [e,show (i+1)*2=i*2+1+1 by omega]
  simpa using ih
theorem arY {k r c w:Int} {l:List Int} (h:iV k r c w l=0):∀ n∈l,1≤n∧n≤1073741824:=by
 unfold iV at h
 split at h
 ·split at h
  ·split at h
   ·omega
   ·rename_i ha
    intro n hn
    have h2:g8 n=true:=by
     cases hq:g8 n with
     | true=>rfl
     | false=>exact absurd (List.any_eq_true.2 ⟨n,hn,by simp [hq]⟩) ha
    simpa [g8] using h2
  ·omega
 ·omega
theorem alY (k r c w:Int) (bs:List UInt8) (ix:Int):lG k r c w bs ix=0∨(1≤lG k r c w bs ix∧lG k r c w bs ix≤1073741824):=by
 unfold lG
 split
 ·rename_i h
  right
  unfold acH gQ eR tO eC at h
  simp only [Bool.and_eq_true,decide_eq_true_eq] at h
  obtain ⟨⟨⟨_,_,_,h1,h2,h3,h4,h5,h6⟩,_⟩,_⟩:=h
  exact arY h1 _ (List.mem_of_getElem? h5)
 ·exact .inl rfl
theorem ael {k r c w:Int} {ps:List bX} {i:Nat} {p:bX} (h:ps[i]? = some p):(f8 k r c w ps)[i]? = some (lG k r c w p.1 i,lG k r c w p.2 i):=by
 unfold f8
 rw [List.getElem?_mapIdx,h]
 rfl
theorem aem (k r c w:Int) (ps:List bX):(f8 k r c w ps).length=ps.length:=by simp [f8]
theorem agF {k r c w:Int} {ps:List bX}:∀ v,xX (f8 k r c w ps) v→v < 1073741825:=by
 rintro v ⟨i,x,hx,hh⟩
 have hl:=(List.getElem?_eq_some_iff.1 hx).1
 rw [aem] at hl
 have:=ael (k:=k) (r:=r) (c:=c) (w:=w) (List.getElem?_eq_getElem hl)
 rw [this] at hx
 cases hx
 have h1:=alY k r c w (ps[i].1) i
 have h2:=alY k r c w (ps[i].2) i
 simp only at hh
 rcases hh with rfl | rfl <;> omega
theorem arZ {k r c w:Int} {ps:List bX} {i:Nat} {p:bX} (h:ps[i]? = some p) (v:Int):qD (f8 k r c w ps) i v=(decide (lG k r c w p.1 i=v) || decide (lG k r c w p.2 i=v)):=by
 unfold qD
 rw [ael h]
theorem ar0 (k r c w ver:Int) (v:AV) (ps:List bX) (cells:List AV) (i:Nat) (hv:fR v ps cells) (hm:bU k r c w=true) (hi:i < ps.length) (hn:ps.length≤1000000):aX Tryz.prog 256 [aA k r c w,v,aD (i:Nat),aD ver] ⟨bB (qD (f8 k r c w ps) i ver),[]⟩:=by
 have hp:=hv.rd.plain
 obtain ⟨p,hpi⟩:∃ p,ps[i]? = some p:=⟨_,List.getElem?_eq_getElem hi⟩
 obtain ⟨a,b,xa,xb,ha,hb,hra,hrb⟩:=hv.at_ i p hpi
 have pa:=hra.plain
 have pb:=hrb.plain
 have h1:=agB k r c w i a p.1 xa hra hm
 have h2:=agB k r c w i b p.2 xb hrb hm
 rw [arZ hpi]
 replace hpi:=aB.mk hpi
 by_cases he:lG k r c w p.1 i=ver
 ·rw [decide_eq_true he]
  refine bE follows Tryz.func256 (by unfold Tryz.f256;rfl) (by unfold Tryz.f256;simp) aE (by unfold Tryz.f256;simp) (by kernel_rfl) ?_;unfold Tryz.f256
  simp only [↓pre,simprocAttr,aA,sx,act,aE,aC,aI,hv.rd.addr',hi,ha,hb]
  (refine cE (h1) (by simp only [aA,aV, *]) (by intro k;rfl) ?_);simp only [↓pre,simprocAttr,aA,sx,act,aE,aC,aI,hv.rd.addr',hi,ha,hb,he,bB]
  rfl
 ·rw [decide_eq_false he]
  refine bE follows Tryz.func256 (by unfold Tryz.f256;rfl) (by unfold Tryz.f256;simp) aE (by unfold Tryz.f256;simp) (by kernel_rfl) ?_;unfold Tryz.f256
  simp only [↓pre,simprocAttr,aA,sx,act,aE,aC,aI,hv.rd.addr',hi,ha,hb]
  (refine cE (h1) (by simp only [aA,aV, *]) (by intro k;rfl) ?_);simp only [↓pre,simprocAttr,aA,sx,act,aE,aC,aI,hv.rd.addr',hi,ha,hb,he,bB];(refine cE (h2) (by simp only [aA,aV, *]) (by intro k;rfl) ?_);simp only [↓pre,simprocAttr,aA,sx,act,aE,aC,aI,hv.rd.addr',hi,ha,hb,he,bB]
  rfl
theorem ar1 {P:Program} (hs:List (Int×Int)) (T:List Int):∀ x∈iY hs T,yZ P x:=by
 intro x hx
 unfold iY at hx
 rw [List.mem_flatMap] at hx
 obtain ⟨v,_,hx⟩:=hx
 rw [List.mem_cons,List.mem_singleton] at hx
 rcases hx with rfl | rfl
 ·exact adJ _
 ·exact aqE _ _
def mB:Nat→Bool:=fun d=>d != 11
theorem ar2 (k r c w:Int) (v:AV) (ps:List bX) (cells:List AV) (hv:fR v ps cells) (hm:bU k r c w=true) (hn:ps.length≤1000000):aX Tryz.prog 198 [aA k r c w,v] (i6 226 (gH (f8 k r c w ps)).length (iY (f8 k r c w ps) (gH (f8 k r c w ps)))):=by
 have hp:=hv.rd.plain
 have hlt0:=agF (k:=k) (r:=r) (c:=c) (w:=w) (ps:=ps)
 have hlen:=aem k r c w ps
 generalize hhs:f8 k r c w ps=hs at *
 generalize hres:i6 226 (gH hs).length (iY hs (gH hs))=res
 replace hlt0:=aB.mk hlt0
 replace hhs:=aB.mk hhs
 replace hlen:=aB.mk hlen
 replace hn:=aB.mk hn
 refine bE follows Tryz.func198 (by unfold Tryz.f198;rfl) (by unfold Tryz.f198;simp) mB (by unfold Tryz.f198;simp) (by kernel_rfl) ?_;unfold Tryz.f198
 simp only [↓pre,simprocAttr,aA,sx,mP,mB,bne,aC,aI,aL,aK,aJ,aG,aH,Option.map_none,Option.map_some,bH,sr]
 rw [b9]
 refine cA (fun q e m=>∃ top T lv,q=top.toNat∧e 1=v∧e 2 = .tptr 0 [aD k,aD r,aD c,aD w]∧e 5=lv∧e 6=aD top∧aB (0 < top∧xY hs top T∧T.length+top≤1073741825∧cO .var m 226 2 lv T.length (iY hs T))) 1073741825 ⟨1073741825,[],aO,rfl,rfl,rfl,rfl,rfl,⟨by omega,arU hlt0.out,by simp,fB⟩⟩ ?_
 rintro q e m ⟨top,T,lv,hq,e1,e2,e5,e6,hI⟩
 replace hq:=aB.mk hq
 simp only [↓pre,simprocAttr,aA,sx,mP,mB,bne,aC,aI,aL,aK,aJ,aG,aH,Option.map_none,Option.map_some,bH,e1,e2,e5,e6,sr]
 rw [b9]
 refine cA (fun q e m'=>∃ i b,q+i=ps.length∧e 1=v∧e 2 = .tptr 0 [aD k,aD r,aD c,aD w]∧e 5=lv∧e 6=aD top∧e 7=aD b∧e 8=aD (i:Nat)∧m'=m∧aB (uQ hs top i 0 b)) ps.length ⟨0,0,by omega,e1,e2,e5,e6,rfl,rfl,rfl,⟨arR hs top⟩⟩ ?_
 rintro q1 e m' ⟨i,b,hqi,e1,e2,e5,e6,e7,e8,rfl,hb⟩
 replace hqi:=aB.mk hqi
 by_cases hlt:i < ps.length
 ·have hlt':((i:Nat):Int) < ((ps.length:Nat):Int):=by omega
  obtain ⟨p,hpi⟩:∃ p,ps[i]? = some p:=⟨_,List.getElem?_eq_getElem hlt⟩
  obtain ⟨ua,ub,xa,xb,ha,hub,hra,hrb⟩:=hv.at_ i p hpi
  have hsi:=ael (k:=k) (r:=r) (c:=c) (w:=w) hpi
  rw [hhs.out] at hsi
  have w1:=cI (n:=i) (by have:=hn.out;omega)
  replace hpi:=aB.mk hpi
  replace hsi:=aB.mk hsi
  simp only [↓pre,simprocAttr,aA,sx,mP,mB,bne,aC,aI,aL,aK,aJ,aG,aH,Option.map_none,Option.map_some,bH,e1,e2,e5,e6,e7,e8,hv.rd.len',hlt',sr]
  rw [b9]
  refine cA (fun q e m2=>∃ kk b,q+kk=2∧e 1=v∧e 2 = .tptr 0 [aD k,aD r,aD c,aD w]∧e 5=lv∧e 6=aD top∧e 7=aD b∧e 8=aD (i:Nat)∧e 9=aD (kk:Nat)∧m2=m'∧aB (uQ hs top i kk b)) 2 ⟨0,b,by omega,e1,e2,e5,e6,e7,e8,rfl,rfl,hb⟩ ?_
  rintro q2 e m2 ⟨kk,b,hqk,e1,e2,e5,e6,e7,e8,e9,rfl,hb⟩
  replace hqk:=aB.mk hqk
  by_cases hkk:kk < 2
  ·have hkk':((kk:Nat):Int) < 2:=by omega
   have w2:=cI (n:=kk) (by omega)
   obtain ⟨u,bu,xu,z,hu,hru,hz,hz2⟩:∃ u bu xu z,cells[i*2+kk]? = some u∧bC u bu.length (aT bu++xu)∧lG k r c w bu i=z∧z=(if kk=0 then (lG k r c w p.1 i,lG k r c w p.2 i).1 else (lG k r c w p.1 i,lG k r c w p.2 i).2):=by
    match kk,hkk with
    | 0,_=>exact ⟨ua,p.1,xa,_,ha,hra,rfl,rfl⟩
    | 1,_=>exact ⟨ub,p.2,xb,_,hub,hrb,rfl,rfl⟩
   have hst:=arT hb.out hkk hsi.out hz2
   have pu:=hru.plain
   have hh:=agB k r c w i u bu xu hru hm
   rw [hz] at hh
   replace hz2:=aB.mk hz2
   by_cases c1:z < top
   ·by_cases c2:b < z
    ·rw [if_pos ⟨c1,c2⟩] at hst
     replace hst:=aB.mk hst
     simp only [↓pre,simprocAttr,aA,sx,mP,mB,bne,aC,aI,aL,aK,aJ,aG,aH,Option.map_none,Option.map_some,bH,e1,e2,e5,e6,e7,e8,e9,hkk',hkk,hv.rd.addr',hlt,hu,sr]
     (refine cE (hh) (by simp only [aA,aV, *]) (by intro k;rfl) ?_);simp only [↓pre,simprocAttr,aA,sx,mP,mB,bne,aC,aI,aL,aK,aJ,aG,aH,Option.map_none,Option.map_some,bH,e1,e2,e5,e6,e7,e8,e9,c1,c2,w2,sr]
     exact ⟨q2 - 1,by have:=hqk.out;omega,kk+1,z,by have:=hqk.out;omega,rfl,rfl,⟨hst.out⟩⟩
    ·rw [if_neg (fun h=>c2 h.2)] at hst
     replace hst:=aB.mk hst
     simp only [↓pre,simprocAttr,aA,sx,mP,mB,bne,aC,aI,aL,aK,aJ,aG,aH,Option.map_none,Option.map_some,bH,e1,e2,e5,e6,e7,e8,e9,hkk',hkk,hv.rd.addr',hlt,hu,sr]
     (refine cE (hh) (by simp only [aA,aV, *]) (by intro k;rfl) ?_);simp only [↓pre,simprocAttr,aA,sx,mP,mB,bne,aC,aI,aL,aK,aJ,aG,aH,Option.map_none,Option.map_some,bH,e1,e2,e5,e6,e7,e8,e9,c1,c2,w2,sr]
     exact ⟨q2 - 1,by have:=hqk.out;omega,kk+1,b,by have:=hqk.out;omega,rfl,rfl,⟨hst.out⟩⟩
   ·rw [if_neg (fun h=>c1 h.1)] at hst
    replace hst:=aB.mk hst
    simp only [↓pre,simprocAttr,aA,sx,mP,mB,bne,aC,aI,aL,aK,aJ,aG,aH,Option.map_none,Option.map_some,bH,e1,e2,e5,e6,e7,e8,e9,hkk',hkk,hv.rd.addr',hlt,hu,sr]
    (refine cE (hh) (by simp only [aA,aV, *]) (by intro k;rfl) ?_);simp only [↓pre,simprocAttr,aA,sx,mP,mB,bne,aC,aI,aL,aK,aJ,aG,aH,Option.map_none,Option.map_some,bH,e1,e2,e5,e6,e7,e8,e9,c1,w2,sr]
    exact ⟨q2 - 1,by have:=hqk.out;omega,kk+1,b,by have:=hqk.out;omega,rfl,rfl,⟨hst.out⟩⟩
  ·have hkk':¬ ((kk:Nat):Int) < 2:=by omega
   have:kk=2:=by have:=hqk.out;omega
   subst this
   simp only [↓pre,simprocAttr,aA,sx,mP,mB,bne,aC,aI,aL,aK,aJ,aG,aH,Option.map_none,Option.map_some,bH,e1,e2,e5,e6,e7,e8,e9,hkk',w1,sr]
   exact ⟨q1 - 1,by have:=hqi.out;omega,i+1,b,by have:=hqi.out;omega,rfl,rfl,⟨arS hb.out⟩⟩
 ·have hlt':¬ ((i:Nat):Int) < ((ps.length:Nat):Int):=by omega
  have hil:i=hs.length:=by have:=hqi.out;have:=hlen.out;omega
  subst hil
  by_cases hb0:b=0
  ·subst hb0
   have hT:=alX (arW hI.out.2.1 hb.out)
   obtain ⟨ids,hcan⟩:=aqF (P:=Tryz.prog) (by kernel_rfl) hI.out.2.2.2 (fun x hx=>ar1 hs T x hx)
   simp only [↓pre,simprocAttr,aA,sx,mP,mB,bne,aC,aI,aL,aK,aJ,aG,aH,Option.map_none,Option.map_some,bH,e1,e2,e5,e6,e7,e8,hv.rd.len',hlt',hcan,sr]
   rw [←hres,hT]
  ·obtain ⟨hf,hbt,hbp⟩:=arV hI.out.2.1 hb.out hb0
   replace hf:=aB.mk hf
   replace hbt:=aB.mk hbt
   replace hbp:=aB.mk hbp
   simp only [↓pre,simprocAttr,aA,sx,mP,mB,bne,aC,aI,aL,aK,aJ,aG,aH,Option.map_none,Option.map_some,bH,e1,e2,e5,e6,e7,e8,hv.rd.len',hlt',hb0,sr]
   rw [b9]
   obtain ⟨hT0,_,hTl,hlv⟩:=hI.out
   have hlvb:cF lv≠some m'.next:=by
    rcases hlv.form with ⟨rfl,_⟩ | ⟨b',rfl,_,h,_⟩
    ·intro h;cases h
    ·intro h';injection h' with h';omega
   have hb11:∃ b11,b11=m'.next:=⟨_,rfl⟩
   obtain ⟨b11,hb11⟩:=hb11
   refine cA (fun q e m2=>∃ i cv,q+i=ps.length∧e 1=v∧e 2 = .tptr 0 [aD k,aD r,aD c,aD w]∧e 5=lv∧e 7=aD b∧e 11 = .ptr b11 0∧e 12=aD (i:Nat)∧m2.at_ b11=some ⟨[aD b,cv],226,.var,true⟩∧aB (b11 < m2.next∧cY m2 3 1 cv (iH hs b i).length (cC (iH hs b i))∧cO .var m2 226 2 lv T.length (iY hs T)∧cF lv≠some b11)) ps.length ⟨0,aO,by omega,e1,e2,e5,e7,by rw [hb11];rfl,rfl, ?_,⟨?_,fB, ?_,by rw [hb11];exact hlvb⟩⟩ ?_
   ·rw [hb11,aG,if_pos rfl];rfl
   ·rw [hb11,aZ,aW];omega
   ·exact hlv.pp _ _
   ·rintro q3 e m2 ⟨i,cv,hq3,e1,e2,e5,e7,e11,e12,hbx,hJ⟩
    replace hq3:=aB.mk hq3
    by_cases hlt:i < ps.length
    ·have hlt':((i:Nat):Int) < ((ps.length:Nat):Int):=by omega
     have w1:=cI (n:=i) (by have:=hn.out;omega)
     have hh:=ar0 k r c w b v ps cells i hv hm hlt hn.out
     rw [hhs.out] at hh
     have hcs:=alT hs b i
     have hcl:=alU hs b i
     replace hcs:=aB.mk hcs
     replace hcl:=aB.mk hcl
     simp only [↓pre,simprocAttr,aA,sx,mP,mB,bne,aC,aI,aL,aK,aJ,aG,aH,Option.map_none,Option.map_some,bH,e1,e2,e5,e7,e11,e12,hv.rd.len',hlt',sr]
     cases hho:qD hs i b with
     | false =>
      rw [hho] at hh hcs
      refine aM (hh) (by simp only [aA,aV, *]) ?_;simp only [↓pre,simprocAttr,aA,sx,mP,mB,bne,aC,aI,aL,aK,aJ,aG,aH,Option.map_none,Option.map_some,bH,e1,e2,e5,e7,e11,e12,w1,hbx,sr]
      refine ⟨q3 - 1,by have:=hq3.out;omega,i+1,cv,by have:=hq3.out;omega,rfl,rfl,⟨?_⟩⟩
      rw [hcs.out]
      simpa using hJ.out
     | true =>
      rw [hho] at hh hcs
      obtain ⟨hnx,hcv,hlv2,hlb⟩:=hJ.out
      refine aM (hh) (by simp only [aA,aV, *]) ?_;simp only [↓pre,simprocAttr,aA,sx,mP,mB,bne,aC,aI,aL,aK,aJ,aG,aH,Option.map_none,Option.map_some,bH,e1,e2,e5,e7,e11,e12,w1,hbx,sr]
      refine vN (kd := .flat) (sz:=1) (y:=8) (zl:=[.int .i64 0]) (by kernel_rfl) hcv (by kernel_rfl) (by kernel_rfl) (by kernel_rfl) rfl l8 (by rfl) (by have:=hcl.out;have:=hn.out;omega) (by have:=hcl.out;have:=hn.out;omega) ?_
      intro cv' m3 ho' hnx' hkeep hbl
      have hbx':=hkeep b11 _ hbx hnx (hcv.ne_kind hbx (fun h=>by cases h))
      have hlv3:=hlv2.other hcv (fun h=>by cases h) hnx' hkeep
      obtain ⟨b',rfl,hb',hlt'⟩:=ho'.sl (by omega)
      simp only [↓pre,simprocAttr,aA,sx,mP,mB,bne,aC,aI,aL,aK,aJ,aG,aH,Option.map_none,Option.map_some,bH,e1,e2,e5,e7,e11,e12,hbx',w1,sr]
      refine ⟨q3 - 1,by have:=hq3.out;omega,i+1,_,by have:=hq3.out;omega,rfl,rfl,⟨by omega, ?_,hlv3.put_ne hlb,hlb⟩⟩
      rw [hcs.out,if_pos rfl,List.length_append,acG]
      exact ho'.put_kind hbx' (fun h=>by cases h)
    ·have hlt':¬ ((i:Nat):Int) < ((ps.length:Nat):Int):=by omega
     have hil:i=hs.length:=by have:=hq3.out;have:=hlen.out;omega
     subst hil
     obtain ⟨hnx,hcv,hlv2,hlb⟩:=hJ.out
     obtain ⟨m4,hbz,hm4n,hm4⟩:=aqG (P:=Tryz.prog) (t:=223) (el:=226) (x := .int .i64 b) (z:=[.int .i64 0,.slice none 0 0]) hcv rfl (by kernel_rfl) (by kernel_rfl) (by kernel_rfl) rfl
     simp only [↓pre,simprocAttr,aA,sx,mP,mB,bne,aC,aI,aL,aK,aJ,aG,aH,Option.map_none,Option.map_some,bH,e1,e2,e5,e7,e11,e12,hv.rd.len',hlt',hbx,hbz,sr]
     have hlv4:=hlv2.other hcv (fun h=>by cases h) (Nat.le_of_eq hm4n.symm) (fun j k' h1 h2 h3=>by rw [hm4 j h3];exact h1)
     refine vN (kd := .var) (sz:=2) (y:=32) (zl:=[.int .i64 0,.slice none 0 0]) (by kernel_rfl) hlv4 (by kernel_rfl) (by kernel_rfl) (by kernel_rfl) rfl acg (by rfl) (by have:=hbp.out;have:=hbt.out;omega) (by have:=hbp.out;have:=hbt.out;omega) ?_
     intro lv' m5 ho5 hnx5 hkeep5 hbl5
     simp only [↓pre,simprocAttr,aA,sx,mP,mB,bne,aC,aI,aL,aK,aJ,aG,aH,Option.map_none,Option.map_some,bH,e1,e2,e5,e7,e11,e12,sr]
     refine ⟨b.toNat,by have:=hq.out;have:=hbt.out;have:=hbp.out;omega,b,T++[b],lv',rfl,rfl,rfl,⟨hbp.out,hf.out,by rw [List.length_append];have:=hbt.out;simp only [List.length_cons,List.length_nil];omega, ?_⟩⟩
     rw [List.length_append,arX]
     exact ho5
def lS (hs:List (Int×Int)):List Int:=hs.flatMap fun x=>[x.1,x.2]
theorem ar3 (hs:List (Int×Int)):(lS hs).length=hs.length*2:=by
 induction hs with
 | nil=>rfl
 | cons a hs ih=>simp only [lS,List.flatMap_cons,List.length_append,List.length_cons,List.length_nil] at ih ⊢;omega
theorem agG:∀ (hs:List (Int×Int)) (i:Nat) (x:Int×Int),hs[i]? = some x→(lS hs)[i*2]? = some x.1∧(lS hs)[i*2+1]? = some x.2
 | [],i,x,h=>by simp at h
 | a::hs,0,x,h=>by simp at h;subst h;exact ⟨rfl,rfl⟩
 | a::hs,i+1,x,h=>by
  have ih:=agG hs i x (by simpa using h)
  have e:lS (a::hs)=a.1::a.2::lS hs:=rfl
  rw [e,show (i+1)*2=i*2+1+1 by omega]
  simpa using ih
def qE (l:List Int) (p:Nat):List AV:=cC (l.take p)++List.replicate (l.length - p) (.val (.int .i64 0))
theorem ar4 (l:List Int) (p:Nat) (h:p≤l.length):(qE l p).length=l.length:=by simp [qE,cC];omega
theorem ar5 (l:List Int) (p:Nat) (h:l[p]? = some 0):qE l (p+1)=qE l p:=by
 have hl:=(List.getElem?_eq_some_iff.1 h).1
 unfold qE
 rw [List.take_add_one,h]
 simp only [Option.toList_some,cC,List.map_append,List.map_cons,List.map_nil,List.append_assoc]
 rw [show l.length - p=(l.length - (p+1))+1 by omega,List.replicate_succ]
 rfl
theorem ar6 (l:List Int) (p:Nat) (z:Int) (h:l[p]? = some z):cN (qE l p) p [.val (.int .i64 z)]=qE l (p+1):=by
 have hl:=(List.getElem?_eq_some_iff.1 h).1
 have h1:(cC (l.take p)).length=p:=by simp [cC];omega
 unfold cN qE
 rw [List.take_left' h1,List.take_add_one,h]
 rw [List.drop_append,List.drop_of_length_le (by rw [h1];omega),h1]
 simp only [Option.toList_some,cC,List.map_append,List.map_cons,List.map_nil,List.nil_append,List.length_cons,List.length_nil,List.drop_replicate]
 rw [show l.length - p - (p+(0+1) - p)=l.length - (p+1) by omega]
 rfl
theorem ar7 (l:List Int):qE l l.length=cC l:=by simp [qE]
theorem ar8 (n:Nat):i4 Tryz.prog 136 n=some (List.replicate (n*2) (.val (.int .i64 0))):=by
 have h1:cH Tryz.prog 136=some 2:=by kernel_rfl
 have h2:eX Tryz.prog 136=some [.int .i64 0,.int .i64 0]:=by kernel_rfl
 by_cases h:n*2=0
 ·have:n=0:=by omega
  subst this;simp [i4,h1]
 ·simp only [i4,h1,Option.bind_some,h2,if_neg h]
  rw [if_pos (show [Value.int .i64 0,Value.int .i64 0].length=2 from rfl)]
  congr 1
  apply List.ext_getElem
  ·simp
  ·intro i h1 h2
   simp only [List.getElem_map,List.getElem_range,List.getElem_replicate]
   have:i % 2=0∨i % 2=1:=by omega
   rcases this with e | e <;> rw [e] <;> rfl
theorem ar9 (m:aF) (n:Nat) (hn:n≤1000000):pJ Tryz.prog m 132 n n=some ⟨.sl m.next 0 n n true,m.push ⟨List.replicate (n*2) (.val (.int .i64 0)),136,.flat,true⟩,none⟩:=by
 have h1:cD Tryz.prog 132=some 136:=by kernel_rfl
 have h2:cH Tryz.prog 136=some 2:=by kernel_rfl
 have h3:hY Tryz.prog 136=some 16:=by kernel_rfl
 have h4:bW Tryz.prog 136 = .flat:=by kernel_rfl
 simp only [pJ,h1,h2,h3,h4,ar8,Option.bind_some]
 rw [if_pos (by omega)]
 simp [bO]
def uR (k r c w:Int) (ps:List bX):gJ:=if eK k r c w ps=0 then ⟨.tup [.sl 0 0 ps.length ps.length true,aD 0],[(136,cC (lS (f8 k r c w ps)))]⟩ else ⟨.tup [aO,aD (eK k r c w ps)],[]⟩
def acI (k r c w:Int) (ps:List bX):AV:=if eK k r c w ps=0 then .tup [.tree ps.length ps.length (cC (lS (f8 k r c w ps))) true,aD 0] else .tup [aO,aD (eK k r c w ps)]
theorem asa (k r c w:Int) (v:AV) (ps:List bX) (cells:List AV) (hv:fR v ps cells):aX Tryz.prog 94 [aA k r c w,v] (uR k r c w ps):=by
 have hp:=hv.rd.plain
 have hd:=uO k r c w
 cases hm:bU k r c w with
 | false =>
  have hc:eK k r c w ps=2:=by unfold eK;rw [hm];rfl
  unfold uR
  rw [hc,if_neg (by decide)]
  simp only [hm,Bool.false_eq_true,if_false] at hd
  refine bE follows Tryz.func94 (by unfold Tryz.f94;rfl) (by unfold Tryz.f94;simp) aE (by unfold Tryz.f94;simp) (by kernel_rfl) ?_;unfold Tryz.f94
  simp only [↓pre,simprocAttr,aA,sx,jI,aE,aC]
  refine aM (hd) (by rfl) ?_;simp only [↓pre,simprocAttr,aA,sx,jI,aE,aC,aO]
 | true =>
  have hmn:=g7 hm
  simp only [hm,if_true] at hd
  by_cases hl:(ps.length:Int)=k+r
  ·obtain ⟨N,hN⟩:∃ N:Nat,k+r=(N:Int):=⟨(k+r).toNat,by omega⟩
   have hpn:ps.length=N:=by omega
   have hN16:N≤16:=by omega
   have hlF:(lS (f8 k r c w ps)).length=N*2:=by rw [ar3,aem,hpn]
   have hmk:=ar9 aF.empty N (by omega)
   have f0:List.replicate (N*2) (AV.val (.int .i64 0))=qE (lS (f8 k r c w ps)) 0:=by simp [qE,hlF,cC]
   rw [f0] at hmk
   generalize hhs:f8 k r c w ps=hs at *
   generalize hres:uR k r c w ps=res
   replace hhs:=aB.mk hhs
   replace hmn:=aB.mk hmn
   replace hN16:=aB.mk hN16
   replace hpn:=aB.mk hpn
   replace hres:=aB.mk hres
   refine bE follows Tryz.func94 (by unfold Tryz.f94;rfl) (by unfold Tryz.f94;simp) aE (by unfold Tryz.f94;simp) (by kernel_rfl) ?_;unfold Tryz.f94
   simp only [↓pre,simprocAttr,aA,sx,jI,aE,aC]
   refine aM (hd) (by rfl) ?_;simp only [↓pre,simprocAttr,aA,sx,jI,aE,aC,hv.rd.len',hl,hN,hmk]
   rw [b9]
   refine cA (fun q e m=>∃ i,q+i=N∧e 2 = .tptr 0 [aD k,aD r,aD c,aD w]∧e 8 = .sl 0 0 N N true∧e 30=v∧e 31=aD (N:Nat)∧e 32=aD (i:Nat)∧m.at_ 0=some ⟨qE (lS hs) (i*2),136,.flat,true⟩∧aB (0 < m.next∧∀ j p,j < i→ps[j]? = some p→jR k r c p.1.length p.2.length=true)) N ⟨0,by omega,rfl,rfl,rfl,rfl,rfl,rfl,⟨Nat.lt_succ_self 0,fun j p h=>by omega⟩⟩ ?_
   rintro q e m ⟨i,hqi,e2,e8,e30,e31,e32,hm0,hJ⟩
   have hb0:¬ 0=m.next:=by have:=hJ.out.1;omega
   replace hqi:=aB.mk hqi
   by_cases hlt:i < N
   ·have hlt':((i:Nat):Int) < ((N:Nat):Int):=by omega
    have hltp:i < ps.length:=by have:=hpn.out;omega
    have hltL:i < ps.length:=hltp
    obtain ⟨p,hpi⟩:∃ p,ps[i]? = some p:=⟨_,List.getElem?_eq_getElem hltp⟩
    obtain ⟨ua,ub,xa,xb,ha,hub,hra,hrb⟩:=hv.at_ i p hpi
    obtain ⟨ht,htl⟩:=nZ ha hub
    have hsi:=ael (k:=k) (r:=r) (c:=c) (w:=w) hpi
    rw [hhs.out] at hsi
    obtain ⟨hF1,hF2⟩:=agG _ _ _ hsi
    have w1:=cI (n:=i) (by have:=hN16.out;omega)
    have f1:=cM hra
    have f2:=cM hrb
    have o1:=b6 hra
    have o2:=b6 hrb
    replace hpi:=aB.mk hpi
    replace hsi:=aB.mk hsi
    replace hltL:=aB.mk hltL
    simp only [↓pre,simprocAttr,aA,sx,jI,aE,aC,aI,aK,aJ,eq_self,aG,aH,Nat.mul_one,hb0,e2,e8,e30,e31,e32,hlt',hv.rd.addr',hltp,ht,htl,f1,f2,o1,o2]
    rw [b9]
    refine cA (fun q e m=>∃ kk,q+kk=2∧e 2 = .tptr 0 [aD k,aD r,aD c,aD w]∧e 8 = .sl 0 0 N N true∧e 9=aD (i:Nat)∧e 30=v∧e 31=aD (N:Nat)∧e 32=aD (i:Nat)∧e 37 = .agg [ua,ub]∧e 38=aD (kk:Nat)∧m.at_ 0=some ⟨qE (lS hs) (i*2+kk),136,.flat,true⟩∧aB (0 < m.next∧(1≤kk→eS k r c p.1.length=true)∧(2≤kk→eS k r c p.2.length=true))) 2 ⟨0,by omega,e2,e8,rfl,e30,e31,e32,rfl,rfl, ?_,⟨?_,by omega,by omega⟩⟩ ?_
    ·rw [aG,if_neg hb0,aH,if_neg hb0]
     exact hm0
    ·rw [aZ,aW];omega
    rintro q2 e m2 ⟨kk,hqk,e2,e8,e9,e30,e31,e32,e37,e38,hm0,hJ2⟩
    replace hqk:=aB.mk hqk
    have hb0:¬ 0=m2.next:=by have:=hJ2.out.1;omega
    by_cases hkk:kk < 2
    ·have hkk':((kk:Nat):Int) < 2:=by omega
     have w2:=cI (n:=kk) (by omega)
     obtain ⟨u,bu,xu,z,hu,hru,hz,hFz,hlb⟩:∃ u bu xu z,[ua,ub][kk]? = some u∧bC u bu.length (aT bu++xu)∧lG k r c w bu i=z∧(lS hs)[i*2+kk]? = some z∧bu=(if kk=0 then p.1 else p.2):=by
      match kk,hkk with
      | 0,_=>exact ⟨ua,p.1,xa,_,rfl,hra,rfl,hF1,rfl⟩
      | 1,_=>exact ⟨ub,p.2,xb,_,rfl,hrb,rfl,hF2,rfl⟩
     have ou:=b6 hru
     have pu:=hru.plain
     have hpar:=alR k r c w u bu xu hru
     have hFp:=ar6 _ _ _ hFz
     have hF0:=ar5 (lS hs) (i*2+kk)
     have hfl:=ar4 (lS hs) (i*2+kk) (by have:=(List.getElem?_eq_some_iff.1 hFz).1;omega)
     replace hlb:=aB.mk hlb
     replace hz:=aB.mk hz
     replace hFz:=aB.mk hFz
     replace hF0:=aB.mk hF0
     have lbF:eS k r c bu.length=true→(1≤kk+1→eS k r c p.1.length=true)∧(2≤kk+1→eS k r c p.2.length=true):=by
      intro h
      have h1:=hlb.out
      constructor
      ·intro _
       by_cases h0:kk=0
       ·rw [if_pos h0] at h1;rw [←h1];exact h
       ·exact hJ2.out.2.1 (by omega)
      ·intro h2
       rw [if_neg (by omega)] at h1;rw [←h1];exact h
     replace lbF:=aB.mk lbF
     cases hsl:eR k r c w bu with
     | false =>
      have hz0:z=0:=by
       rw [←hz.out]
       unfold lG acH gQ
       rw [hsl];rfl
      subst hz0
      cases hlB:eS k r c bu.length with
      | false =>
       have hpv:oX k r c w bu = .tup [mQ,bB false,aD 100]:=by
        unfold eS at hlB
        simp only [Bool.or_eq_false_iff,decide_eq_false_iff_not] at hlB
        unfold oX
        rw [hsl,hm,if_neg (by rintro ⟨_,h⟩;cases h),if_neg (by decide),if_neg hlB.1,if_neg hlB.2]
       have hrf:dS k r c ps=false:=by
        have:jR k r c p.1.length p.2.length=false:=by
         unfold jR
         have h1:=hlb.out
         split at h1
         ·rw [←h1,hlB];rfl
         ·rw [←h1,hlB,Bool.and_false]
        unfold dS
        rw [Bool.and_eq_false_iff]
        right
        rw [List.all_eq_false]
        exact ⟨p,List.mem_of_getElem? hpi.out,by rw [this];decide⟩
       have hck:eK k r c w ps=120:=by unfold eK;rw [hm,hrf];rfl
       have hrs:res=⟨.tup [aO,aD 120],[]⟩:=by
        rw [←hres.out]
        unfold uR
        rw [hck,if_neg (by decide)]
       rw [hpv] at hpar
       unfold mQ iW at hpar
       simp only [↓pre,simprocAttr,aA,sx,jI,aE,aC,aI,aK,aJ,eq_self,aG,aH,Nat.mul_one,hb0,e2,e8,e9,e30,e31,e32,e37,e38,hkk',hkk,hu]
       refine aM (hpar) (by simp only [aA,aV, *]) ?_;simp only [↓pre,simprocAttr,aA,sx,jI,aE,aC,aI,aK,aJ,eq_self,aG,aH,Nat.mul_one,hb0,e2,e8,e9,e30,e31,e32,e37,e38,bB,aO]
       rw [hrs];rfl
      | true =>
       have hpv:oX k r c w bu = .tup [mQ,bB false,aD 0]:=by
        unfold eS at hlB
        simp only [Bool.or_eq_true,decide_eq_true_eq] at hlB
        unfold oX
        rw [hsl,hm,if_neg (by rintro ⟨_,h⟩;cases h),if_neg (by decide)]
        rcases hlB with h | h
        ·rw [if_pos h]
        ·split
         ·rfl
         ·rfl
       obtain ⟨hl1,hl2⟩:=lbF.out hlB
       replace hl1:=aB.mk hl1
       replace hl2:=aB.mk hl2
       rw [hpv] at hpar
       unfold mQ iW at hpar
       simp only [↓pre,simprocAttr,aA,sx,jI,aE,aC,aI,aK,aJ,eq_self,aG,aH,Nat.mul_one,hb0,e2,e8,e9,e30,e31,e32,e37,e38,hkk',hkk,hu]
       refine aM (hpar) (by simp only [aA,aV, *]) ?_;simp only [↓pre,simprocAttr,aA,sx,jI,aE,aC,aI,aK,aJ,eq_self,aG,aH,Nat.mul_one,hb0,e2,e8,e9,e30,e31,e32,e37,e38,bB,aO,w2]
       exact ⟨q2 - 1,by have:=hqk.out;omega,kk+1,by have:=hqk.out;omega,rfl,by rw [←Nat.add_assoc,hF0.out hFz.out];exact hm0,⟨by omega,hl1.out,hl2.out⟩⟩
     | true =>
      have hlB:eS k r c bu.length=true:=by
       unfold eR at hsl
       simp only [Bool.and_eq_true] at hsl
       unfold eS
       rw [hsl.1,Bool.or_true]
      obtain ⟨hl1,hl2⟩:=lbF.out hlB
      replace hl1:=aB.mk hl1
      replace hl2:=aB.mk hl2
      have hpv:oX k r c w bu = .tup [(cV k r bu).v,bB true,aD 0]:=by
       unfold oX
       rw [if_pos ⟨hm,hsl⟩]
      rw [hpv] at hpar
      have hz2:z=if (decide ((cV k r bu).ix=(i:Int)) && (decide ((cV k r bu).kd=2) && (cV k r bu).vec.all (fun n=>decide (n=(cV k r bu).ce))))=true then (cV k r bu).ce else 0:=by
       rw [←hz.out]
       unfold lG acH gQ
       rw [hsl,Bool.true_and]
      have hvl:(cV k r bu).vec.length≤16:=by have h1:=abh bu (k+r).toNat;have:=hmn.out;simp only [cV];omega
      generalize cV k r bu=s at *
      have hvv:bC (.tree s.vec.length s.vec.length (cC s.vec) false) s.vec.length (cC s.vec++[]):=⟨.inr (.inr ⟨_,false,by rw [List.append_nil],Nat.le_refl _⟩)⟩
      have hcf:=alO _ s.vec [] 175 [.tptr 0 [.val (.int .u8 s.kd),aD s.ix,aD s.ce,aD s.st,.tree s.vec.length s.vec.length (cC s.vec) false,.tree s.data.length s.data.length (aT s.data) false]] (fun n => !decide (n=s.ce)) hvv (by omega) rfl (fun n _=>arE n s.kd s.ix s.ce s.st _ _)
      unfold qU.v iW at hpar
      by_cases hkd:s.kd=2
      ·by_cases hix:s.ix=(i:Int)
       ·cases hall:s.vec.all (fun n=>decide (n=s.ce)) with
        | true =>
         have hany:s.vec.any (fun n => !decide (n=s.ce))=false:=by
          rw [List.any_eq_false]
          intro n hn
          have:=List.all_eq_true.1 hall n hn
          rw [this];decide
         have hzc:z=s.ce:=by rw [hz2,decide_eq_true hix,decide_eq_true hkd,hall];rfl
         rw [hany] at hcf
         replace hz2:=aB.mk hz2
         replace hall:=aB.mk hall
         replace hany:=aB.mk hany
         rw [hzc] at hFp
         replace hzc:=aB.mk hzc
         simp only [↓pre,simprocAttr,aA,sx,jI,aE,aC,aI,aK,aJ,eq_self,aG,aH,Nat.mul_one,hb0,e2,e8,e9,e30,e31,e32,e37,e38,hkk',hkk,hu]
         rw [hkd,hix] at hpar hcf
         have hpl:i*2+kk+1≤(lS hs).length:=(List.getElem?_eq_some_iff.1 hFz.out).1
         refine aM (hpar) (by simp only [aA,aV, *]) ?_;simp only [↓pre,simprocAttr,aA,sx,jI,aE,aC,aI,aK,aJ,eq_self,aG,aH,Nat.mul_one,hb0,e2,e8,e9,e30,e31,e32,e37,e38,bB,aO,w2,Array.size_empty,List.size_toArray];refine aM (hcf) (by rfl) ?_;simp only [↓pre,simprocAttr,aA,sx,jI,aE,aC,aI,aK,aJ,eq_self,aG,aH,Nat.mul_one,hb0,e2,e8,e9,e30,e31,e32,e37,e38,bB,aO,w2,Array.size_empty,List.size_toArray]
         simp only [↓pre,simprocAttr,aA,sx,jI,aE,aC,aI,aK,aJ,eq_self,aG,aH,Nat.mul_one,hb0,e2,e8,e9,e30,e31,e32,e37,e38,bB,aO,w2,hlt,hkk,hm0,hfl,hpl]
         refine dJ (by kernel_rfl) ?_
         simp only [↓pre,simprocAttr,aA,sx,jI,aE,aC,aI,aK,aJ,eq_self,aG,aH,Nat.mul_one,hb0,e2,e8,e9,e30,e31,e32,e37,e38,bB,aO,w2,hlt,hkk,hm0,hfl,hpl]
         refine ⟨q2 - 1,by have:=hqk.out;omega,kk+1,by have:=hqk.out;omega,rfl, ?_,⟨by omega,hl1.out,hl2.out⟩⟩
         rw [←Nat.add_assoc,←hFp]
         rfl
        | false =>
         have hany:s.vec.any (fun n => !decide (n=s.ce))=true:=by
          rw [List.all_eq_false] at hall
          obtain ⟨n,hn,h⟩:=hall
          rw [List.any_eq_true]
          exact ⟨n,hn,by simpa using h⟩
         have hzc:z=0:=by rw [hz2,hall];simp
         rw [hany] at hcf
         subst hzc
         replace hz2:=aB.mk hz2
         replace hall:=aB.mk hall
         replace hany:=aB.mk hany
         simp only [↓pre,simprocAttr,aA,sx,jI,aE,aC,aI,aK,aJ,eq_self,aG,aH,Nat.mul_one,hb0,e2,e8,e9,e30,e31,e32,e37,e38,hkk',hkk,hu]
         rw [hkd,hix] at hpar hcf
         refine aM (hpar) (by simp only [aA,aV, *]) ?_;simp only [↓pre,simprocAttr,aA,sx,jI,aE,aC,aI,aK,aJ,eq_self,aG,aH,Nat.mul_one,hb0,e2,e8,e9,e30,e31,e32,e37,e38,bB,aO,w2,Array.size_empty,List.size_toArray];refine aM (hcf) (by rfl) ?_;simp only [↓pre,simprocAttr,aA,sx,jI,aE,aC,aI,aK,aJ,eq_self,aG,aH,Nat.mul_one,hb0,e2,e8,e9,e30,e31,e32,e37,e38,bB,aO,w2,Array.size_empty,List.size_toArray]
         exact ⟨q2 - 1,by have:=hqk.out;omega,kk+1,by have:=hqk.out;omega,rfl,by rw [←Nat.add_assoc,hF0.out hFz.out];exact hm0,⟨by omega,hl1.out,hl2.out⟩⟩
       ·have hzc:z=0:=by rw [hz2,decide_eq_false hix];rfl
        subst hzc
        replace hz2:=aB.mk hz2
        simp only [↓pre,simprocAttr,aA,sx,jI,aE,aC,aI,aK,aJ,eq_self,aG,aH,Nat.mul_one,hb0,e2,e8,e9,e30,e31,e32,e37,e38,hkk',hkk,hu]
        rw [hkd] at hpar
        refine aM (hpar) (by simp only [aA,aV, *]) ?_;simp only [↓pre,simprocAttr,aA,sx,jI,aE,aC,aI,aK,aJ,eq_self,aG,aH,Nat.mul_one,hb0,e2,e8,e9,e30,e31,e32,e37,e38,bB,aO,w2,hix]
        exact ⟨q2 - 1,by have:=hqk.out;omega,kk+1,by have:=hqk.out;omega,rfl,by rw [←Nat.add_assoc,hF0.out hFz.out];exact hm0,⟨by omega,hl1.out,hl2.out⟩⟩
      ·have hzc:z=0:=by rw [hz2,decide_eq_false hkd];simp
       subst hzc
       replace hz2:=aB.mk hz2
       simp only [↓pre,simprocAttr,aA,sx,jI,aE,aC,aI,aK,aJ,eq_self,aG,aH,Nat.mul_one,hb0,e2,e8,e9,e30,e31,e32,e37,e38,hkk',hkk,hu]
       refine aM (hpar) (by simp only [aA,aV, *]) ?_;simp only [↓pre,simprocAttr,aA,sx,jI,aE,aC,aI,aK,aJ,eq_self,aG,aH,Nat.mul_one,hb0,e2,e8,e9,e30,e31,e32,e37,e38,bB,aO,w2,hkd]
       exact ⟨q2 - 1,by have:=hqk.out;omega,kk+1,by have:=hqk.out;omega,rfl,by rw [←Nat.add_assoc,hF0.out hFz.out];exact hm0,⟨by omega,hl1.out,hl2.out⟩⟩
    ·have hkk':¬ ((kk:Nat):Int) < 2:=by omega
     have:kk=2:=by have:=hqk.out;omega
     subst this
     simp only [↓pre,simprocAttr,aA,sx,jI,aE,aC,aI,aK,aJ,eq_self,aG,aH,Nat.mul_one,hb0,e2,e8,e9,e30,e31,e32,e37,e38,hkk',cW,w1]
     refine ⟨q - 1,by have:=hqi.out;omega,i+1,by have:=hqi.out;omega,rfl,by rw [show (i+1)*2=i*2+2 by omega];exact hm0,⟨hJ2.out.1,fun j p' hj hp' => ?_⟩⟩
     by_cases hji:j=i
     ·subst hji
      rw [hpi.out] at hp'
      cases hp'
      unfold jR
      rw [hJ2.out.2.1 (by omega),hJ2.out.2.2 (by omega)]
      rfl
     ·exact hJ.out.2 j p' (by omega) hp'
   ·have hlt':¬ ((i:Nat):Int) < ((N:Nat):Int):=by omega
    have hiN:i=N:=by have:=hqi.out;omega
    subst hiN
    have hrt:dS k r c ps=true:=by
     unfold dS
     rw [decide_eq_true hl,Bool.true_and,List.all_eq_true]
     intro p hp
     obtain ⟨j,hj⟩:=List.getElem?_of_mem hp
     have:=(List.getElem?_eq_some_iff.1 hj).1
     have:=hpn.out
     exact hJ.out.2 j p (by omega) hj
    have hck:eK k r c w ps=0:=by unfold eK;rw [hm,hrt];rfl
    rw [←hlF,ar7] at hm0
    simp only [↓pre,simprocAttr,aA,sx,jI,aE,aC,e2,e8,e30,e31,e32,hlt',cW]
    have k9:bW Tryz.prog 136 = .flat:=by kernel_rfl
    simp only [hm0,k9,Option.bind_some,if_true,List.any_nil,Bool.false_eq_true,ne_eq,not_true_eq_false,or_self,if_false,Option.map_some]
    rw [←hres.out]
    unfold uR
    rw [if_pos hck,hpn.out,hhs.out]
    rfl
  ·have hr:dS k r c ps=false:=by unfold dS;rw [decide_eq_false hl];rfl
   have hc:eK k r c w ps=120:=by unfold eK;rw [hm,hr];rfl
   unfold uR
   rw [hc,if_neg (by decide)]
   refine bE follows Tryz.func94 (by unfold Tryz.f94;rfl) (by unfold Tryz.f94;simp) aE (by unfold Tryz.f94;simp) (by kernel_rfl) ?_;unfold Tryz.f94
   simp only [↓pre,simprocAttr,aA,sx,jI,aE,aC]
   refine aM (hd) (by rfl) ?_;simp only [↓pre,simprocAttr,aA,sx,jI,aE,aC,aO,hv.rd.len',hl]
theorem alZ (k r c w:Int) (v:AV) (ps:List bX) (cells:List AV) (hv:fR v ps cells):aX Tryz.prog 94 [aA k r c w,v] ⟨acI k r c w ps,[]⟩:=by
 have h:=asa k r c w v ps cells hv
 have k9:bW Tryz.prog 136 = .flat:=by kernel_rfl
 have h2:=yY 1 h (by unfold uR;split <;> simp [iU,j5,aO,aD,k9])
 have e:fM Tryz.prog (uR k r c w ps).rows 1 (uR k r c w ps).v=acI k r c w ps:=by
  unfold uR acI
  split <;> simp [fM,iF,aO,aD,k9]
 rw [e] at h2
 exact h2
def zT (el:TypeId) (n:Nat) (cells:List AV) (e:Int):gJ:=⟨.tup [(i6 el n cells).v,aD e],(i6 el n cells).rows⟩
theorem asb {f:FuncId} {args:List AV} {el:TypeId} {n:Nat} {cells:List AV} {e:Int} (hk:bW Tryz.prog el = .flat) (h:aX Tryz.prog f args (zT el n cells e)):aX Tryz.prog f args ⟨.tup [bJ n cells,aD e],[]⟩:=by
 have h2:=yY 1 h (by unfold zT i6;split <;> simp [iU,j5,aO,aD,hk])
 have e2:fM Tryz.prog (zT el n cells e).rows 1 (zT el n cells e).v = .tup [bJ n cells,aD e]:=by
  unfold zT i6 bJ
  split <;> simp [fM,iF,aO,aD,hk]
 rw [e2] at h2
 exact h2
theorem al0 {k r c w:Int} {ps:List bX} (h:eK k r c w ps=0):bU k r c w=true∧dS k r c ps=true∧(ps.length:Int)=k+r∧ps.length≤16:=by
 unfold eK at h
 cases hm:bU k r c w with
 | false=>rw [hm] at h;simp at h
 | true =>
  rw [hm] at h
  cases hr:dS k r c ps with
  | false=>rw [hr] at h;simp at h
  | true =>
   have hmn:=g7 hm
   have:(ps.length:Int)=k+r:=by
    unfold dS at hr
    simp only [Bool.and_eq_true,decide_eq_true_eq] at hr
    exact hr.1
   exact ⟨rfl,rfl,this,by omega⟩
abbrev jA:=List (Int×List Int)
def j9 (E:jA) (A:List AV):List (Value×AV):=List.zipWith (fun e a=>(Value.int .i64 e.1,a)) E A
def nD (v:Int):jA→Option Nat
 | []=>none
 | e::E=>if v=e.1 then some 0 else (nD v E).map (·+1)
theorem aen (v:Int):∀ (E:jA) (A:List AV),A.length=E.length→tA (.int .i64) (.int .i64 v) (j9 E A)=some (nD v E)
 | [],A,h=>by cases A <;> rfl
 | e::E,[],h=>by simp at h
 | e::E,a::A,h=>by
  have ih:=aen v E A (by simpa using h)
  have e1:j9 (e::E) (a::A)=(Value.int .i64 e.1,a)::j9 E A:=rfl
  rw [e1]
  unfold tA nD
  by_cases hv:v=e.1
  ·simp [Instr.sameNow,hv]
  ·have hb:(v == e.1)=false:=by simpa using hv
   simp [Instr.sameNow,hv,ih,hb]
theorem abj {v:Int}:∀ {E:jA} {j:Nat},nD v E=some j→∃ e,E[j]? = some e∧e.1=v
 | [],j,h=>by simp [nD] at h
 | e::E,j,h=>by
  unfold nD at h
  split at h
  ·rename_i hv;cases h;exact ⟨e,rfl,hv.symm⟩
  ·obtain ⟨i,hi,rfl⟩:=awD h
   obtain ⟨e',h1,h2⟩:=abj hi
   exact ⟨e',by simpa using h1,h2⟩
theorem al1 {v:Int}:∀ {E:jA},nD v E=none→∀ e∈E,e.1≠v
 | [],_,e,h=>by cases h
 | e::E,h,e',he=>by
  unfold nD at h
  split at h
  ·cases h
  ·rename_i hv
   rw [Option.map_eq_none_iff] at h
   rcases List.mem_cons.1 he with rfl | he
   ·exact fun h'=>hv h'.symm
   ·exact al1 h e' he
def qF (v i:Int) (E:jA):jA:=match nD v E with
 | some j=>E.set j (v,((E[j]?).map (·.2)).getD []++[i])
 | none=>E++[(v,[i])]
def kA (hs:List (Int×Int)) (v:Int) (i kk:Nat):List Int:=iH hs v i++(match hs[i]? with
 | some x=>if (1≤kk∧x.1=v)∨(2≤kk∧x.2=v) then [(i:Int)] else []
 | none=>[])
structure EI (hs:List (Int×Int)) (i kk:Nat) (E:jA):Prop where
 nd:(E.map (·.1)).Nodup
 is:∀ e∈E,0 < e.1∧e.2=kA hs e.1 i kk∧e.2≠[]
 all:∀ v,0 < v→kA hs v i kk≠[]→∃ e∈E,e.1=v
theorem asc (hs:List (Int×Int)):EI hs 0 0 []:=⟨List.nodup_nil,fun e h=>(by cases h),fun v h1 h2=>by
 exfalso
 apply h2
 unfold kA
 have:iH hs v 0=[]:=rfl
 rw [this]
 cases h:hs[0]? with
 | none=>rfl
 | some x=>simp⟩
theorem al2 {hs:List (Int×Int)} {v:Int} {i:Nat} (hi:i < hs.length):kA hs v i 2=kA hs v (i+1) 0:=by
 have e1:kA hs v (i+1) 0=iH hs v (i+1):=by
  unfold kA
  cases h:hs[i+1]? with
  | none=>simp
  | some x=>simp
 rw [e1,alT]
 unfold kA qD
 rw [List.getElem?_eq_getElem hi]
 simp
theorem asd {hs:List (Int×Int)} {i:Nat} {E:jA} (hi:i < hs.length) (h:EI hs i 2 E):EI hs (i+1) 0 E :=
 ⟨h.nd,fun e he=>by rw [←al2 hi];exact h.is e he,fun v h1 h2=>h.all v h1 (by rw [al2 hi];exact h2)⟩
theorem al3 {hs:List (Int×Int)} {i kk:Nat} {E:jA} {x:Int×Int} (hx:hs[i]? = some x) (h:EI hs i kk E) (hk:kk < 2) (hs2:∀ v,0 < v→kA hs v i (kk+1)=kA hs v i kk):EI hs i (kk+1) E :=
 ⟨h.nd,fun e he=>by have:=h.is e he;exact ⟨this.1,by rw [hs2 _ this.1];exact this.2.1,this.2.2⟩,fun v h1 h2=>h.all v h1 (by rw [←hs2 v h1];exact h2)⟩
theorem al4 {hs:List (Int×Int)} {i kk:Nat} {E:jA} {z:Int} (h:EI hs i kk E) (hz:0 < z) (h1:kA hs z i (kk+1)=kA hs z i kk++[(i:Int)]) (h2:∀ v,v≠z→kA hs v i (kk+1)=kA hs v i kk):EI hs i (kk+1) (qF z i E):=by
 unfold qF
 cases hj:nD z E with
 | some j =>
  obtain ⟨e,he,hez⟩:=abj hj
  have hjl:=(List.getElem?_eq_some_iff.1 he).1
  have hmem:=List.mem_of_getElem? he
  have hkeys:(E.set j (z,((E[j]?).map (·.2)).getD []++[(i:Int)])).map (·.1)=E.map (·.1):=by
   rw [List.map_set]
   apply List.ext_getElem?
   intro k
   rw [List.getElem?_set]
   split
   ·rename_i hk;subst hk
    have hej:E[j]=e:=(List.getElem?_eq_some_iff.1 he).2
    simp [hjl,hej,hez]
   ·rfl
  refine ⟨by simp only;rw [hkeys];exact h.nd,fun e' he' => ?_,fun v hv hne => ?_⟩
  ·simp only at he'
   obtain ⟨k,hk⟩:=List.getElem?_of_mem he'
   rw [List.getElem?_set] at hk
   split at hk
   ·rename_i hkj
    subst hkj
    skip
    cases hk
    rw [he]
    simp only [Option.map_some,Option.getD_some]
    have:=h.is e hmem
    refine ⟨hz, ?_,by simp⟩
    rw [this.2.1,hez,h1]
   ·rename_i hkj
    have hm:=List.mem_of_getElem? hk
    have:=h.is e' hm
    have hne:e'.1≠z:=by
     intro hh
     obtain ⟨hkl,hke⟩:=List.getElem?_eq_some_iff.1 hk
     obtain ⟨_,hje⟩:=List.getElem?_eq_some_iff.1 he
     have hp:=List.pairwise_iff_getElem.1 h.nd
     rcases Nat.lt_trichotomy j k with hlt | hlt | hlt
     ·have:=hp j k (by simpa using hjl) (by simpa using hkl) hlt
      simp [hke,hje,hez,hh] at this
     ·exact hkj hlt
     ·have:=hp k j (by simpa using hkl) (by simpa using hjl) hlt
      simp [hke,hje,hez,hh] at this
    exact ⟨this.1,by rw [h2 _ hne];exact this.2.1,this.2.2⟩
  ·simp only
   by_cases hvz:v=z
   ·subst hvz
    exact ⟨_,List.mem_of_getElem? (i:=j) (by rw [List.getElem?_set];simp [hjl];rfl),rfl⟩
   ·obtain ⟨e',he',hev⟩:=h.all v hv (by rw [←h2 v hvz];exact hne)
    refine ⟨e', ?_,hev⟩
    obtain ⟨k,hk⟩:=List.getElem?_of_mem he'
    have hkj:j≠k:=by
     rintro rfl
     rw [he] at hk
     cases hk
     exact hvz (hev.symm.trans hez)
    exact List.mem_of_getElem? (i:=k) (by rw [List.getElem?_set,if_neg hkj];exact hk)
 | none =>
  have hno:=al1 hj
  have hemp:kA hs z i kk=[]:=by
   by_cases hc:kA hs z i kk=[]
   ·exact hc
   ·obtain ⟨e,he,hez⟩:=h.all z hz hc
    exact absurd hez (hno e he)
  refine ⟨?_,fun e' he' => ?_,fun v hv hne => ?_⟩
  ·simp only [List.map_append,List.map_cons,List.map_nil]
   rw [List.nodup_append]
   refine ⟨h.nd,by simp,fun a ha b hb => ?_⟩
   simp at hb
   subst hb
   obtain ⟨e,he,rfl⟩:=List.mem_map.1 ha
   exact hno e he
  ·rcases List.mem_append.1 he' with he' | he'
   ·have:=h.is e' he'
    exact ⟨this.1,by rw [h2 _ (hno e' he')];exact this.2.1,this.2.2⟩
   ·simp at he'
    subst he'
    exact ⟨hz,by simp only;rw [h1,hemp];rfl,by simp⟩
  ·by_cases hvz:v=z
   ·subst hvz
    exact ⟨(v,[(i:Int)]),by simp,rfl⟩
   ·obtain ⟨e',he',hev⟩:=h.all v hv (by rw [←h2 v hvz];exact hne)
    exact ⟨e',List.mem_append_left _ he',hev⟩
theorem ase {hs:List (Int×Int)} {i kk:Nat} {E:jA} {x:Int×Int} {z:Int} (hx:hs[i]? = some x) (h:EI hs i kk E) (hk:kk < 2) (hz:z=if kk=0 then x.1 else x.2):EI hs i (kk+1) (if 0 < z∧(kk=0∨z≠x.1) then qF z i E else E):=by
 have hc:∀ v k,kA hs v i k=iH hs v i++(if (1≤k∧x.1=v)∨(2≤k∧x.2=v) then [(i:Int)] else []):=fun v k=>by unfold kA;rw [hx]
 have hkk:kk=0∨kk=1:=by omega
 rcases hkk with rfl | rfl
 ·simp only [if_true] at hz
  subst hz
  by_cases h0:0 < x.1
  ·rw [if_pos ⟨h0,.inl rfl⟩]
   refine al4 h h0 ?_ fun v hv => ?_
   ·rw [hc,hc];simp
   ·rw [hc,hc]
    have:¬ x.1=v:=fun h=>hv h.symm
    simp [this]
  ·rw [if_neg (fun h=>h0 h.1)]
   refine al3 hx h hk fun v hv => ?_
   rw [hc,hc]
   have:¬ x.1=v:=by omega
   simp [this]
 ·simp only [Nat.one_ne_zero,if_false,false_or] at hz ⊢
  subst hz
  by_cases h0:0 < x.2∧x.2≠x.1
  ·rw [if_pos h0]
   refine al4 h h0.1 ?_ fun v hv => ?_
   ·rw [hc,hc]
    have:¬ x.1=x.2:=fun h=>h0.2 h.symm
    simp [this]
   ·rw [hc,hc]
    have:¬ x.2=v:=fun h=>hv h.symm
    simp [this]
  ·rw [if_neg h0]
   refine al3 hx h hk fun v hv => ?_
   rw [hc,hc]
   by_cases h1:x.1=v
   ·simp [h1]
   ·have:¬ x.2=v:=by omega
    simp [h1,this]
structure lH (m:aF) (g:Nat) (E:jA) (A:List AV):Prop where
 mp:m.mm.maps g=some (j9 E A)
 len:A.length=E.length
 own:∀ (j:Nat) (e:Int×List Int) (a:AV),E[j]? = some e→A[j]? = some a→cY m 3 1 a e.2.length (cC e.2)
 apart:∀ (i j:Nat) (a b:AV) (x:Nat),A[i]? = some a→A[j]? = some b→cF a=some x→cF b=some x→i=j
def tP (E:jA) (A:List AV) (v:Int):AV:=match nD v E with
 | some j=>A.getD j aO
 | none=>aO
def tQ (E:jA) (v:Int):List Int:=match nD v E with
 | some j=>((E[j]?).map (·.2)).getD []
 | none=>[]
def wA (E:jA) (A:List AV) (v:Int) (a:AV):List AV:=match nD v E with
 | some j=>A.set j a
 | none=>A++[a]
theorem aeo:wX Tryz.prog 331=some (.int .i64,aO):=by kernel_rfl
theorem acJ {E:jA} {A:List AV} (j:Nat):(j9 E A)[j]? = (E[j]?).bind fun e=>(A[j]?).map fun a=>(Value.int .i64 e.1,a):=by
 unfold j9
 rw [List.getElem?_zipWith]
 cases E[j]? <;> cases A[j]? <;> rfl
theorem lH.look {m:aF} {g:Nat} {E:jA} {A:List AV} (h:lH m g E A) (v:Int):vE Tryz.prog m 331 (.val (.map (some g))) (.val (.int .i64 v))=some (tP E A v):=by
 refine apS ?_
 simp only [aax,aeo,qQ,h.mp,iZ,Option.bind_some,Option.map_some,aen v E A h.len]
 unfold tP
 cases hj:nD v E with
 | none=>rfl
 | some j =>
  obtain ⟨e,he,_⟩:=abj hj
  have hl:=(List.getElem?_eq_some_iff.1 he).1
  have hla:j < A.length:=by rw [h.len];exact hl
  have ha:A[j]? = some A[j]:=List.getElem?_eq_getElem hla
  simp only [acJ,he,ha,Option.bind_some,Option.map_some,List.getD_eq_getElem?_getD,Option.getD_some]
theorem lH.own_look {m:aF} {g:Nat} {E:jA} {A:List AV} (h:lH m g E A) (v:Int):cY m 3 1 (tP E A v) (tQ E v).length (cC (tQ E v)):=by
 unfold tP tQ
 cases hj:nD v E with
 | none=>exact fB
 | some j =>
  obtain ⟨e,he,_⟩:=abj hj
  have hl:=(List.getElem?_eq_some_iff.1 he).1
  have hla:j < A.length:=by rw [h.len];exact hl
  have ha:A[j]? = some A[j]:=List.getElem?_eq_getElem hla
  have:=h.own j e _ he ha
  simpa only [he,Option.map_some,Option.getD_some,List.getD_eq_getElem?_getD,ha] using this
theorem lH.upd {m m' : aF} {g : Nat} {E : jA} {A : List AV} (h : lH m g E A) (v i : Int) {a : AV} (hn : m.next ≤ m'.next) (hkeep : ∀ j k, m.at_ j = some k → j < m.next → cF (tP E A v) ≠ some j → m'.at_ j = some k) (hbl : ∀ j, cF a = some j → j = m.next ∨ cF (tP E A v) = some j) (hmm : m'.mm = m.mm) (ho : cY m' 3 1 a ((tQ E v).length + 1) (cC (tQ E v) ++ [aD i])) :
   tC Tryz.prog m' 331 (.val (.map (some g))) (.val (.int .i64 v)) a = some ⟨eE, m'.setM (m'.mm.set g (j9 (qF v i E) (wA E A v a))), none⟩ ∧ lH (m'.setM (m'.mm.set g (j9 (qF v i E) (wA E A v a)))) g (qF v i E) (wA E A v a) := by
 have hmp : m'.mm.maps g = some (j9 E A) := by rw [hmm]; exact h.mp
 have hset : (m'.setM (m'.mm.set g (j9 (qF v i E) (wA E A v a)))).mm.maps g = some (j9 (qF v i E) (wA E A v a)) := by simp [aF.setM, Maps.set]
 have hoth : ∀ (j : Nat) (e : Int × List Int) (b : AV), E[j]? = some e → A[j]? = some b → (∀ x, cF b = some x → cF (tP E A v) ≠ some x) → cY m' 3 1 b e.2.length (cC e.2) := fun j e b he hb hx => by
   have := h.own j e b he hb
   refine this.keep hn fun x k hbx hk => hkeep x k hk ?_ (hx x hbx)
   rcases this.form with ⟨rfl, _⟩ | ⟨b', rfl, _, hlt, _⟩
   · cases hbx
   · injection hbx with hbx; omega
 have hlt : ∀ (j : Nat) (b : AV) (x : Nat), A[j]? = some b → cF b = some x → x < m.next := fun j b x hb hx => by
   have hl := (List.getElem?_eq_some_iff.1 hb).1
   have hle : j < E.length := by rw [← h.len]; exact hl
   rcases (h.own j E[j] b (List.getElem?_eq_getElem hle) hb).form with ⟨rfl, _⟩ | ⟨b', rfl, _, hlt, _⟩
   · cases hx
   · injection hx with hx; omega
 cases hj : nD v E with
 | none =>
   have hL : tP E A v = aO := by unfold tP; rw [hj]
   have hLl : tQ E v = [] := by unfold tQ; rw [hj]
   have hA' : wA E A v a = A ++ [a] := by unfold wA; rw [hj]
   have hE' : qF v i E = E ++ [(v, [i])] := by unfold qF; rw [hj]
   rw [hL] at hbl hoth hkeep
   rw [hLl] at ho
   have hbn : ∀ x, cF a = some x → x = m.next := fun x hx => by
     rcases hbl x hx with h | h
     · exact h
     · cases h
   rw [hA', hE'] at *
   have hz : j9 (E ++ [(v, [i])]) (A ++ [a]) = j9 E A ++ [(Value.int .i64 v, a)] := by
     unfold j9
     rw [List.zipWith_append (by rw [h.len])]
     rfl
   refine ⟨?_, by simp [aF.setM, Maps.set], by simp [h.len], fun j e b he hb => ?_, fun i' j a' b' x ha' hb' hax hbx => ?_⟩
   · refine aiA ?_
     simp only [wY, aeo, qQ, hmp, iZ, Option.bind_some, Option.map_some, aen v E A h.len, hj, hz]
     rfl
   · by_cases hjl : j < E.length
     · rw [List.getElem?_append_left hjl] at he
       rw [List.getElem?_append_left (by rw [h.len]; exact hjl)] at hb
       exact (hoth j e b he hb (fun x _ h => by cases h)).setM _
     · rw [List.getElem?_append_right (by omega)] at he
       rw [List.getElem?_append_right (by rw [h.len]; omega)] at hb
       have hj0 : j - E.length = 0 := by
         have := (List.getElem?_eq_some_iff.1 he).1
         simp at this
         omega
       have hj1 : j - A.length = 0 := by rw [h.len]; exact hj0
       rw [hj0] at he
       rw [hj1] at hb
       cases he
       cases hb
       exact ho.setM _
   · have hsp : ∀ (k : Nat) (c : AV), (A ++ [a])[k]? = some c → A[k]? = some c ∨ (k = A.length ∧ c = a) := fun k c hc => by
       by_cases hk : k < A.length
       · rw [List.getElem?_append_left hk] at hc; exact .inl hc
       · rw [List.getElem?_append_right (by omega)] at hc
         have := (List.getElem?_eq_some_iff.1 hc).1
         simp at this
         have hk0 : k - A.length = 0 := by omega
         rw [hk0] at hc
         cases hc
         exact .inr ⟨by omega, rfl⟩
     rcases hsp i' a' ha' with h1 | ⟨h1, rfl⟩ <;> rcases hsp j b' hb' with h2 | ⟨h2, rfl⟩
     · exact h.apart i' j a' b' x h1 h2 hax hbx
     · have := hlt i' a' x h1 hax; have := hbn x hbx; omega
     · have := hlt j b' x h2 hbx; have := hbn x hax; omega
     · omega
 | some j0 =>
   obtain ⟨e0, he0, hev⟩ := abj hj
   have hl := (List.getElem?_eq_some_iff.1 he0).1
   have hla : j0 < A.length := by rw [h.len]; exact hl
   have ha0 : A[j0]? = some A[j0] := List.getElem?_eq_getElem hla
   have hL : tP E A v = A[j0] := by unfold tP; simp only [hj, List.getD_eq_getElem?_getD, ha0, Option.getD_some]
   have hLl : tQ E v = e0.2 := by unfold tQ; simp only [hj, he0, Option.map_some, Option.getD_some]
   have hA' : wA E A v a = A.set j0 a := by unfold wA; rw [hj]
   have hE' : qF v i E = E.set j0 (v, e0.2 ++ [i]) := by unfold qF; simp only [hj, he0, Option.map_some, Option.getD_some]
   rw [hL] at hbl hoth hkeep
   rw [hLl] at ho
   rw [hA', hE'] at *
   have hz : j9 (E.set j0 (v, e0.2 ++ [i])) (A.set j0 a) = (j9 E A).set j0 (Value.int .i64 v, a) := by
     apply List.ext_getElem?
     intro k
     rw [acJ, List.getElem?_set, List.getElem?_set, List.getElem?_set, acJ]
     by_cases hk : j0 = k
     · subst hk
       have h3 : j0 < (j9 E A).length := by unfold j9; rw [List.length_zipWith]; omega
       simp [hl, h.len, h3]
     · simp [hk]
   refine ⟨?_, by simp [aF.setM, Maps.set], by simp [h.len], fun j e b he hb => ?_, fun i' j a' b' x ha' hb' hax hbx => ?_⟩
   · refine aiA ?_
     simp only [wY, aeo, qQ, hmp, iZ, Option.bind_some, Option.map_some, aen v E A h.len, hj, hz]
     rfl
   · rw [List.getElem?_set] at he hb
     by_cases hjj : j0 = j
     · subst hjj
       simp [hl] at he
       simp [h.len, hl] at hb
       subst he
       subst hb
       have : cY m' 3 1 a (e0.2 ++ [i]).length (cC (e0.2 ++ [i])) := by
         rw [List.length_append, acG]; exact ho
       exact this.setM _
     · rw [if_neg hjj] at he hb
       refine (hoth j e b he hb (fun x hx h2 => ?_)).setM _
       exact hjj (h.apart j0 j _ b x ha0 hb h2 hx)
   · have hsp : ∀ (k : Nat) (c : AV), (A.set j0 a)[k]? = some c → (k ≠ j0 ∧ A[k]? = some c) ∨ (k = j0 ∧ c = a) := fun k c hc => by
       rw [List.getElem?_set] at hc
       by_cases hk : j0 = k
       · subst hk
         simp [h.len, hl] at hc
         exact .inr ⟨rfl, hc.symm⟩
       · rw [if_neg hk] at hc; exact .inl ⟨fun h => hk h.symm, hc⟩
     rcases hsp i' a' ha' with ⟨h0, h1⟩ | ⟨h1, rfl⟩ <;> rcases hsp j b' hb' with ⟨h3, h2⟩ | ⟨h2, rfl⟩
     · exact h.apart i' j a' b' x h1 h2 hax hbx
     · exfalso
       rcases hbl x hbx with h4 | h4
       · have := hlt i' a' x h1 hax; omega
       · exact h0 (h.apart i' j0 a' _ x h1 ha0 hax h4)
     · exfalso
       rcases hbl x hax with h4 | h4
       · have := hlt j b' x h2 hbx; omega
       · exact h3 (h.apart j j0 b' _ x h2 ha0 hbx h4)
     · omega
def kN (L:List (Int×AV)):List AV:=L.flatMap fun x=>[aD x.1,x.2]
theorem asf (a b:List (Int×AV)):kN (a++b)=kN a++kN b:=by simp [kN]
def wB (x:Int×AV):List (Int×AV)→List (Int×AV)
 | []=>[x]
 | y::l=>if y.1 < x.1 then x::y::l else y::wB x l
def lJ (L:List (Int×AV)):List (Int×AV):=L.foldr wB []
theorem agH (x:Int×AV):∀ l,(wB x l).Perm (x::l)
 | [] => .refl _
 | y::l=>by
  unfold wB
  split
  ·exact .refl _
  ·exact ((agH x l).cons y).trans (.swap x y l)
theorem xZ:∀ L,(lJ L).Perm L
 | [] => .refl _
 | x::L=>(agH x (lJ L)).trans ((xZ L).cons x)
theorem al5 (x:Int×AV):∀ l,l.Pairwise (fun a b=>b.1 < a.1)→(∀ y∈l,y.1≠x.1)→(wB x l).Pairwise (fun a b=>b.1 < a.1)
 | [],_,_=>List.pairwise_singleton _ _
 | y::l,h,hn=>by
  unfold wB
  rw [List.pairwise_cons] at h
  split
  ·rename_i hlt
   rw [List.pairwise_cons]
   refine ⟨fun z hz => ?_,List.pairwise_cons.2 h⟩
   rcases List.mem_cons.1 hz with rfl | hz
   ·exact hlt
   ·have:=h.1 z hz;omega
  ·rename_i hlt
   rw [List.pairwise_cons]
   refine ⟨fun z hz => ?_,al5 x l h.2 fun z hz=>hn z (by simp [hz])⟩
   rw [(agH x l).mem_iff,List.mem_cons] at hz
   rcases hz with rfl | hz
   ·have:=hn y (by simp);omega
   ·exact h.1 z hz
theorem agI:∀ L:List (Int×AV),(L.map (·.1)).Nodup→(lJ L).Pairwise (fun a b=>b.1 < a.1)
 | [],_ => .nil
 | x::L,h=>by
  simp only [List.map_cons,List.nodup_cons] at h
  refine al5 x _ (agI L h.2) fun y hy => ?_
  have hy:y∈lJ L:=hy
  rw [(xZ L).mem_iff] at hy
  intro e
  exact h.1 (List.mem_map.2 ⟨y,hy,e⟩)
abbrev mC:=Int×Nat×List Int
def lU (x:mC):Int×AV:=(x.1,.sl x.2.1 0 x.2.2.length x.2.2.length false)
def kB:Nat→List mC→List AV
 | _,[]=>[]
 | n,x::X=>aD x.1 :: .sl n 0 x.2.2.length x.2.2.length false::kB (n+1) X
def nE (X:List mC):List (TypeId×List AV):=X.map fun x=>(3,cC x.2.2)
theorem al6 (m : aF) (k : Nat) : ∀ (X : List mC) (ids : List (Nat × Nat)) (rows : List (TypeId × List AV)), (∀ x ∈ X, m.at_ x.2.1 = some ⟨cC x.2.2, 3, .flat, true⟩) → (X.map (·.2.1)).Nodup → (∀ x ∈ X, ∀ i ∈ ids, i.1 ≠ x.2.1) →
   f9 Tryz.prog m k ids rows (kN (X.map lU)) = some (kB rows.length X, ids ++ X.map (fun x => (x.2.1, 0)), rows ++ nE X)
 | [], ids, rows, _, _, _ => by
   have : kN (([] : List mC).map lU) = [] := rfl
   rw [this]
   cases k <;> (unfold f9; simp [kB, nE])
 | x :: X, ids, rows, h1, h2, h3 => by
   have k3 : bW Tryz.prog 3 = .flat := by kernel_rfl
   simp only [List.map_cons, List.nodup_cons] at h2
   have e : kN ((x :: X).map lU) = aD x.1 :: .sl x.2.1 0 x.2.2.length x.2.2.length false :: kN (X.map lU) := rfl
   have ha := h1 x (by simp)
   have hids : ids.any (fun i => i.1 == x.2.1) = false := by
     rw [List.any_eq_false]
     intro i hi
     simpa using h3 x (by simp) i hi
   have ih := al6 m k X (ids ++ [(x.2.1, 0)]) (rows ++ [(3, cC x.2.2)]) (fun y hy => h1 y (by simp [hy])) h2.2 (fun y hy i hi => by
     rcases List.mem_append.1 hi with hi | hi
     · exact h3 y (by simp [hy]) i hi
     · simp at hi
       subst hi
       intro e
       exact h2.1 (List.mem_map.2 ⟨y, hy, e.symm⟩))
   have hv : canon Tryz.prog m k ids rows (aD x.1) = some (aD x.1, ids, rows) := adJ _ m k ids rows
   have hs : canon Tryz.prog m k ids rows (.sl x.2.1 0 x.2.2.length x.2.2.length false) = some (.sl rows.length 0 x.2.2.length x.2.2.length false, ids ++ [(x.2.1, 0)], rows ++ [(3, cC x.2.2)]) := by
     cases k <;> (unfold canon; simp only [ha, hids, k3, Option.bind_some, if_true, List.drop_zero, Bool.false_eq_true, ne_eq, not_true_eq_false, or_self, if_false])
   rw [e]
   have hc : ∀ (c : AV) (cs : List AV) (i : List (Nat × Nat)) (r : List (TypeId × List AV)), f9 Tryz.prog m k i r (c :: cs) = (canon Tryz.prog m k i r c).bind fun r => (f9 Tryz.prog m k r.2.1 r.2.2 cs).map fun s => (r.1 :: s.1, s.2) := by
     intro c cs i r
     cases k <;> (rw [f9])
   rw [hc, hv, Option.bind_some]
   simp only
   rw [hc, hs, Option.bind_some]
   simp only
   rw [ih]
   simp [kB, nE, List.append_assoc]
theorem al7 {P:Program} {rows:List (TypeId×List AV)} {d:Nat} {c:AV} {cs:List AV}:iF P rows d (c::cs)=fM P rows d c::iF P rows d cs:=by
 cases d <;> (rw [iF])
theorem al8 {P:Program} {rows:List (TypeId×List AV)} {d:Nat} {c:AV} {cs:List AV}:j5 P rows d (c::cs)=(iU P rows d c && j5 P rows d cs):=by
 cases d <;> (rw [j5])
theorem al9 (P0:List (TypeId×List AV)) (d:Nat):∀ (X:List mC) (n:Nat),(∀ j x,X[j]? = some x→P0[n+j]? = some (3,cC x.2.2))→iF Tryz.prog P0 d (kB n X)=X.flatMap (fun x=>[aD x.1,.tree x.2.2.length x.2.2.length (cC x.2.2) false])∧j5 Tryz.prog P0 d (kB n X)=true
 | [],n,_=>by
  cases d <;> (unfold kB iF j5;exact ⟨rfl,rfl⟩)
 | x::X,n,h=>by
  have k3:bW Tryz.prog 3 = .flat:=by kernel_rfl
  have ih:=al9 P0 d X (n+1) fun j y hy=>by
   have:=h (j+1) y (by simpa using hy)
   rw [←this];congr 1;omega
  have h0:=h 0 x rfl
  rw [Nat.add_zero] at h0
  have hg:P0.getD n (0,[])=(3,cC x.2.2):=by rw [List.getD_eq_getElem?_getD,h0];rfl
  have e1:fM Tryz.prog P0 d (aD x.1)=aD x.1:=by cases d <;> (unfold aD fM;rfl)
  have e2:fM Tryz.prog P0 d (.sl n 0 x.2.2.length x.2.2.length false) = .tree x.2.2.length x.2.2.length (cC x.2.2) false:=by
   cases d <;> (unfold fM;simp only [hg,k3,if_true,List.drop_zero])
  have e3:iU Tryz.prog P0 d (aD x.1)=true:=by cases d <;> (unfold aD iU;rfl)
  have e4:iU Tryz.prog P0 d (.sl n 0 x.2.2.length x.2.2.length false)=true:=by
   cases d <;> (unfold iU;simp [h0,k3])
  constructor
  ·have:iF Tryz.prog P0 d (kB n (x::X))=fM Tryz.prog P0 d (aD x.1)::fM Tryz.prog P0 d (.sl n 0 x.2.2.length x.2.2.length false)::iF Tryz.prog P0 d (kB (n+1) X):=by
    show iF Tryz.prog P0 d (aD x.1 :: .sl n 0 x.2.2.length x.2.2.length false::kB (n+1) X)=_
    rw [al7,al7]
   rw [this,e1,e2,ih.1]
   rfl
  ·have:j5 Tryz.prog P0 d (kB n (x::X))=(iU Tryz.prog P0 d (aD x.1) && (iU Tryz.prog P0 d (.sl n 0 x.2.2.length x.2.2.length false) && j5 Tryz.prog P0 d (kB (n+1) X))):=by
    show j5 Tryz.prog P0 d (aD x.1 :: .sl n 0 x.2.2.length x.2.2.length false::kB (n+1) X)=_
    rw [al8,al8]
   rw [this,e3,e4,ih.2]
   rfl
def abk (x:mC):List mC→List mC
 | []=>[x]
 | y::l=>if y.1 < x.1 then x::y::l else y::abk x l
def zU (L:List mC):List mC:=L.foldr abk []
theorem ama (x:mC):∀ l:List mC,wB (lU x) (l.map lU)=(abk x l).map lU
 | []=>rfl
 | y::l=>by
  have ih:=ama x l
  unfold abk
  show (if (lU y).1 < (lU x).1 then _ else lU y::wB (lU x) (l.map lU))=_
  rw [ih]
  show (if y.1 < x.1 then _ else _)=_
  split <;> rfl
theorem agJ:∀ L:List mC,lJ (L.map lU)=(zU L).map lU
 | []=>rfl
 | x::L=>by
  have ih:=agJ L
  show wB (lU x) (lJ (L.map lU))=_
  rw [ih,ama]
  rfl
theorem amb (x:mC):∀ l,(abk x l).Perm (x::l)
 | [] => .refl _
 | y::l=>by
  unfold abk
  split
  ·exact .refl _
  ·exact ((amb x l).cons y).trans (.swap x y l)
theorem amc:∀ L,(zU L).Perm L
 | [] => .refl _
 | x::L=>(amb x (zU L)).trans ((amc L).cons x)
def slB:AV→Nat
 | .sl b _ _ _ _=>b
 | _=>0
def trip (E:jA) (A:List AV) (j:Nat):mC:=((E.getD j (0,[])).1,slB (A.getD j aO),(E.getD j (0,[])).2)
theorem asg {m : aF} {g : Nat} {E : jA} {A : List AV} {hs : List (Int × Int)} {N : Nat} {S : List Nat} (hM : lH m g E A) (hE : EI hs N 0 E) (hN : hs.length = N) (hnd : S.Nodup) (hlt : ∀ j ∈ S, j < E.length) (hall : ∀ j, j < E.length → j ∈ S) :
   ((S.map fun j => ((E.getD j (0, [])).1, A.getD j aO)).map (·.1)).Nodup ∧ (∀ x ∈ S.map fun j => ((E.getD j (0, [])).1, A.getD j aO), dF x.2 = true) ∧ ∃ X : List mC, lJ (S.map fun j => ((E.getD j (0, [])).1, A.getD j aO)) = X.map lU ∧ (∀ x ∈ X, m.at_ x.2.1 = some ⟨cC x.2.2, 3, .flat, true⟩ ∧ x.2.1 < m.next) ∧ (X.map (·.2.1)).Nodup ∧ X.map (fun x => (x.1, x.2.2)) = (gH hs).map (fun v => (v, iH hs v N)) := by
 have hat : ∀ j, j < E.length → ∃ ev b, E[j]? = some ev ∧ A[j]? = some (.sl b 0 ev.2.length ev.2.length false) ∧ m.at_ b = some ⟨cC ev.2, 3, .flat, true⟩ ∧ b < m.next ∧ 0 < ev.1 ∧ ev.2 = iH hs ev.1 N ∧ ev.2 ≠ [] := by
   intro j hj
   have hja : j < A.length := by rw [hM.len]; exact hj
   have he : E[j]? = some E[j] := List.getElem?_eq_getElem hj
   have hi := hE.is _ (List.mem_of_getElem? he)
   have hck : kA hs E[j].1 N 0 = iH hs E[j].1 N := by
     unfold kA
     rw [List.getElem?_eq_none (by omega)]
     simp
   rw [hck] at hi
   obtain ⟨b, hb, h2, h3⟩ := (hM.own j _ _ he (List.getElem?_eq_getElem hja)).sl (List.length_pos_iff.2 hi.2.2)
   exact ⟨E[j], b, he, by rw [List.getElem?_eq_getElem hja, hb], h2, h3, hi.1, hi.2.1, hi.2.2⟩
 have htr : ∀ j, j < E.length → ((E.getD j (0, [])).1, A.getD j aO) = lU (trip E A j) := by
   intro j hj
   obtain ⟨ev, b, h1, h2, _⟩ := hat j hj
   simp only [trip, lU, List.getD_eq_getElem?_getD, h1, h2, Option.getD_some, slB]
 have hL : (S.map fun j => ((E.getD j (0, [])).1, A.getD j aO)) = (S.map (trip E A)).map lU := by
   rw [List.map_map]
   exact List.map_congr_left fun j hj => htr j (hlt j hj)
 have hkeys : ((S.map fun j => ((E.getD j (0, [])).1, A.getD j aO)).map (·.1)).Nodup := by
   rw [List.map_map]
   refine List.pairwise_map.2 (hnd.imp_of_mem fun {a b} ha hb hab he => ?_)
   have h1 := hlt a ha
   have h2 := hlt b hb
   simp only [Function.comp, List.getD_eq_getElem?_getD, List.getElem?_eq_getElem h1, List.getElem?_eq_getElem h2, Option.getD_some] at he
   have hp := List.pairwise_iff_getElem.1 hE.nd
   rcases Nat.lt_trichotomy a b with hh | hh | hh
   · exact hp a b (by simpa using h1) (by simpa using h2) hh (by simpa using he)
   · exact hab hh
   · exact hp b a (by simpa using h2) (by simpa using h1) hh (by simpa using he.symm)
 have hpw := agI _ hkeys
 have hperm := amc (S.map (trip E A))
 have hX : ∀ x ∈ zU (S.map (trip E A)), ∃ j, j < E.length ∧ x = trip E A j := by
   intro x hx
   rw [hperm.mem_iff, List.mem_map] at hx
   obtain ⟨j, hj, rfl⟩ := hx
   exact ⟨j, hlt j hj, rfl⟩
 have hXs : ∀ x ∈ zU (S.map (trip E A)), m.at_ x.2.1 = some ⟨cC x.2.2, 3, .flat, true⟩ ∧ x.2.1 < m.next ∧ 0 < x.1 ∧ x.2.2 = iH hs x.1 N ∧ x.2.2 ≠ [] := by
   intro x hx
   obtain ⟨j, hj, rfl⟩ := hX x hx
   obtain ⟨ev, b, h1, h2, h3, h4, h5, h6, h7⟩ := hat j hj
   simp only [trip, List.getD_eq_getElem?_getD, h1, h2, Option.getD_some, slB]
   exact ⟨h3, h4, h5, h6, h7⟩
 refine ⟨hkeys, fun x hx => ?_, zU (S.map (trip E A)), by rw [hL, agJ], fun x hx => ⟨(hXs x hx).1, (hXs x hx).2.1⟩, ?_, ?_⟩
 · rw [hL, List.mem_map] at hx
   obtain ⟨y, _, rfl⟩ := hx
   rfl
 · refine (hperm.map (·.2.1)).nodup_iff.2 ?_
   rw [List.map_map]
   refine List.pairwise_map.2 (hnd.imp_of_mem fun {a b} ha hb hab he => ?_)
   obtain ⟨ev, b1, h1, h2, _⟩ := hat a (hlt a ha)
   obtain ⟨ev', b2, h1', h2', _⟩ := hat b (hlt b hb)
   simp only [Function.comp, trip, List.getD_eq_getElem?_getD, h2, h2', Option.getD_some, slB] at he
   exact hab (hM.apart a b _ _ b1 h2 h2' rfl (by rw [he]; rfl))
 · have hvers : (zU (S.map (trip E A))).map (·.1) = gH hs := by
     refine alX ⟨?_, fun v => ?_⟩
     · rw [hL, agJ] at hpw
       rw [List.pairwise_map] at hpw ⊢
       exact hpw
     · constructor
       · intro hv
         obtain ⟨x, hx, rfl⟩ := List.mem_map.1 hv
         obtain ⟨_, _, h5, h6, h7⟩ := hXs x hx
         refine ⟨h5, by omega, ?_⟩
         rw [h6] at h7
         obtain ⟨c, hc⟩ := List.exists_mem_of_ne_nil _ h7
         unfold iH at hc
         obtain ⟨i, _, hi⟩ := List.mem_filterMap.1 hc
         split at hi
         · rename_i hh
           unfold qD at hh
           cases hx2 : hs[i]? with
           | none => rw [hx2] at hh; simp at hh
           | some y =>
             rw [hx2] at hh
             simp only [Bool.or_eq_true, decide_eq_true_eq] at hh
             exact ⟨i, y, hx2, hh⟩
         · cases hi
       · rintro ⟨h1, _, i, y, hy, hh⟩
         have hil := (List.getElem?_eq_some_iff.1 hy).1
         have hne : kA hs v N 0 ≠ [] := by
           have : (i : Int) ∈ iH hs v N := by
             unfold iH
             rw [List.mem_filterMap]
             refine ⟨i, by rw [List.mem_range]; omega, ?_⟩
             have : qD hs i v = true := by
               unfold qD
               rw [hy]
               simpa using hh
             rw [if_pos this]
           intro h0
           unfold kA at h0
           rw [List.append_eq_nil_iff] at h0
           rw [h0.1] at this
           cases this
         obtain ⟨e, he, rfl⟩ := hE.all v h1 hne
         obtain ⟨j, hj⟩ := List.getElem?_of_mem he
         have hjl := (List.getElem?_eq_some_iff.1 hj).1
         refine List.mem_map.2 ⟨trip E A j, ?_, ?_⟩
         · rw [hperm.mem_iff]
           exact List.mem_map.2 ⟨j, hall j hjl, rfl⟩
         · simp only [trip, List.getD_eq_getElem?_getD, hj, Option.getD_some]
   rw [← hvers, List.map_map]
   exact List.map_congr_left fun x hx => by
     simp only [Function.comp]
     rw [← (hXs x hx).2.2.2.1]
theorem amd:∀ (X Y:List mC) (n:Nat),X.map (fun x=>(x.1,x.2.2))=Y.map (fun x=>(x.1,x.2.2))→kB n X=kB n Y∧nE X=nE Y
 | [],[],n,_=>⟨rfl,rfl⟩
 | x::X,y::Y,n,h=>by
  simp only [List.map_cons,List.cons.injEq,Prod.mk.injEq] at h
  obtain ⟨⟨h1,h2⟩,h3⟩:=h
  obtain ⟨i1,i2⟩:=amd X Y (n+1) h3
  constructor
  ·show aD x.1 :: .sl n 0 x.2.2.length x.2.2.length false::kB (n+1) X=aD y.1 :: .sl n 0 y.2.2.length y.2.2.length false::kB (n+1) Y
   rw [h1,h2,i1]
  ·show (3,cC x.2.2)::nE X=(3,cC y.2.2)::nE Y
   rw [h2,i2]
 | [],_::_,n,h=>by simp at h
 | _::_,[],n,h=>by simp at h
def tX (hs:List (Int×Int)):List mC:=(gH hs).map fun v=>(v,0,iH hs v hs.length)
def zV (hs:List (Int×Int)):gJ:=if gH hs=[] then ⟨.tup [aO,aD 0],[]⟩ else ⟨.tup [.sl (gH hs).length 0 (gH hs).length (gH hs).length false,aD 0],nE (tX hs)++[(226,kB 0 (tX hs))]⟩
def ame:Prop:=∀ (m:aF) (b:Nat) (L:List (Int×AV)),m.at_ b=some ⟨kN L,226,.var,true⟩→(L.map (·.1)).Nodup→L.length≤1000000→(∀ x∈L,dF x.2=true)→fA Tryz.prog 322 [.sl b 0 L.length L.length false,.clo 323 []] m (fun v m'=>v=eE∧m'=m.put b (some ⟨kN (lJ L),226,.var,true⟩))
def amf:Prop:=aX Tryz.prog 322 [aO,.clo 323 []] ⟨eE,[]⟩
def kO:Nat→Bool:=fun d=>d != 71
theorem lH.setM {m:aF} {g:Nat} {E:jA} {A:List AV} (h:lH m g E A) {mm:Maps} (hm:mm.maps g=m.mm.maps g):lH (m.setM mm) g E A:=⟨by rw [←h.mp];exact hm,h.len,fun j e a he ha=>(h.own j e a he ha).setM _,h.apart⟩
theorem lH.keep {m m':aF} {g:Nat} {E:jA} {A:List AV} (h:lH m g E A) (hm:m'.mm=m.mm) (hn:m.next≤m'.next) (hk:∀ j k,m.at_ j=some k→j < m.next→k.kind = .flat→m'.at_ j=some k):lH m' g E A:=⟨by rw [hm];exact h.mp,h.len,fun j e a he ha=>by
 have:=h.own j e a he ha
 rcases this.form with ⟨rfl,h1⟩ | ⟨b,rfl,h2,h3,h4⟩
 ·exact ⟨.inl ⟨rfl,h1⟩,this.len⟩
 ·exact ⟨.inr ⟨b,rfl,hk b _ h2 h3 rfl,by omega,h4⟩,this.len⟩,h.apart⟩
theorem lH.pp {m:aF} {g:Nat} {E:jA} {A:List AV} (h:lH m g E A) (x:eP) (y:Option eP):lH ((m.push x).put m.next y) g E A:=h.keep rfl (by rw [aZ,aW];omega) fun j k hj hl _=>by rw [aG,if_neg (by omega),aH,if_neg (by omega)];exact hj
theorem amg (v i:Int) (E:jA):(qF v i E).length≤E.length+1:=by
 unfold qF
 split <;> simp
theorem ash (hso:ame) (hsn:amf) (k r c w:Int) (v:AV) (ps:List bX) (cells:List AV) (hv:fR v ps cells) (hc:eK k r c w ps=0):aX Tryz.prog 290 [aA k r c w,v] (zV (f8 k r c w ps)):=by
 have hp:=hv.rd.plain
 have hh:=alZ k r c w v ps cells hv
 unfold acI at hh
 rw [if_pos hc] at hh
 obtain ⟨_,_,_,hn⟩:=al0 hc
 have hlen:=aem k r c w ps
 generalize hhs:f8 k r c w ps=hs at *
 generalize hN:ps.length=N at *
 generalize hres:zV hs=res
 replace hres:=aB.mk hres
 have hrd:bC (.tree N N (cC (lS hs)) true) N (cC (lS hs)):=⟨.inr (.inr ⟨_,true,rfl,Nat.le_refl _⟩)⟩
 replace hn:=aB.mk hn
 replace hlen:=aB.mk hlen
 refine bE follows Tryz.func290 (by unfold Tryz.f290;rfl) (by unfold Tryz.f290;simp) kO (by unfold Tryz.f290;simp) (by kernel_rfl) ?_;unfold Tryz.f290
 simp only [↓pre,simprocAttr,aA,sx,j8,kO,bne,aC,aI,aL,aK,aJ,aG,aH,sr]
 refine aM (hh) (by simp only [aA,aV, *]) ?_;simp only [↓pre,simprocAttr,aA,sx,j8,kO,bne,aC,aI,aL,aK,aJ,aG,aH,hrd.len',sr]
 intro g hg
 simp only [↓pre,simprocAttr,aA,sx,j8,kO,bne,aC,aI,aL,aK,aJ,aG,aH,hrd.len',sr]
 rw [b9]
 refine cA (fun q e m=>∃ i E A,q+i=N∧e 8 = .val (.map (some g))∧e 26 = .tree N N (cC (lS hs)) true∧e 27=aD (N:Nat)∧e 28=aD (i:Nat)∧aB (lH m g E A∧EI hs i 0 E∧E.length≤2*i)) N ⟨0,[],[],by omega,rfl,rfl,rfl,rfl,⟨⟨by simp [aF.setM,Maps.add];rfl,rfl,fun j e a he=>by simp at he,fun i j a b x ha=>by simp at ha⟩,asc hs,by simp⟩⟩ ?_
 rintro q e m ⟨i,E,A,hqi,e8,e26,e27,e28,hJ⟩
 replace hqi:=aB.mk hqi
 by_cases hlt:i < N
 ·have hlt':((i:Nat):Int) < ((N:Nat):Int):=by omega
  have w1:=cI (n:=i) (by have:=hn.out;omega)
  have hilh:i < hs.length:=by have:=hlen.out;omega
  obtain ⟨x,hx⟩:∃ x,hs[i]? = some x:=⟨_,List.getElem?_eq_getElem hilh⟩
  obtain ⟨hF1,hF2⟩:=agG _ _ _ hx
  obtain ⟨ht,htl⟩:=nZ (qT (x:=[]) hF1) (qT (x:=[]) hF2)
  rw [List.append_nil] at ht htl
  replace hx:=aB.mk hx
  replace hilh:=aB.mk hilh
  simp only [↓pre,simprocAttr,aA,sx,j8,kO,bne,aC,aI,aL,aK,aJ,aG,aH,e8,e26,e27,e28,hlt',hrd.addr',hlt,ht,htl,sr]
  rw [b9]
  refine cA (fun q e m=>∃ kk E A,q+kk=2∧e 8 = .val (.map (some g))∧e 9=aD (i:Nat)∧e 10 = .tptr 0 [aD x.1,aD x.2]∧e 26 = .tree N N (cC (lS hs)) true∧e 27=aD (N:Nat)∧e 28=aD (i:Nat)∧e 33 = .agg [aD x.1,aD x.2]∧e 34=aD (kk:Nat)∧aB (lH m g E A∧EI hs i kk E∧E.length≤2*i+kk)) 2 ⟨0,E,A,by omega,e8,rfl,rfl,e26,e27,e28,rfl,rfl,⟨hJ.out.1.pp _ _,hJ.out.2⟩⟩ ?_
  rintro q2 e m2 ⟨kk,E,A,hqk,e8,e9,e10,e26,e27,e28,e33,e34,hJ2⟩
  replace hqk:=aB.mk hqk
  by_cases hkk:kk < 2
  ·obtain ⟨z,hz⟩:∃ z,z=if kk=0 then x.1 else x.2:=⟨_,rfl⟩
   have hst:=ase hx.out hJ2.out.2.1 hkk hz
   have hap:∀ (c:Prop) [Decidable c],True:=fun _ _=>trivial
   have hM:=hJ2.out.1
   have hlk:=hM.look z
   have hown:=hM.own_look z
   have hLle:(tQ E z).length≤1000000:=by
    unfold tQ
    cases hj:nD z E with
    | none=>simp
    | some j =>
     obtain ⟨e,he,_⟩:=abj hj
     have:=(hJ2.out.2.1.is e (List.mem_of_getElem? he)).2.1
     simp only [he,Option.map_some,Option.getD_some]
     rw [this]
     unfold kA
     have h1:=alU hs e.1 i
     rw [hx.out]
     simp only [List.length_append]
     have:=hn.out
     split <;> simp <;> omega
   replace hLle:=aB.mk hLle
   replace hM:=aB.mk hM
   have hk2:kk=0∨kk=1:=by omega
   rcases hk2 with rfl | rfl
   ·have e34':e 34=aD 0:=e34
    simp only [if_true] at hz
    subst hz
    have w2:IntKind.i64.wrap (0+1)=1:=by rfl
    by_cases c1:0 < x.1
    ·rw [if_pos ⟨c1,.inl rfl⟩] at hst
     simp only [↓pre,simprocAttr,aA,sx,j8,kO,bne,aC,aI,aL,aK,aJ,aG,aH,e8,e9,e10,e26,e27,e28,e33,e34',hlk,w2,c1,sr]
     refine uF (kd := .flat) (sz:=1) (y:=8) (zl:=[.int .i64 0]) (by kernel_rfl) hown (by kernel_rfl) (by kernel_rfl) (by kernel_rfl) rfl l8 (by rfl) (by have:=hLle.out;omega) (by have:=hLle.out;omega) ?_
     intro a' m3 ho' hn' hkeep hbl hmm
     obtain ⟨hup,hM'⟩:=hM.out.upd x.1 i hn' hkeep hbl hmm ho'
     simp only [↓pre,simprocAttr,aA,sx,j8,kO,bne,aC,aI,aL,aK,aJ,aG,aH,e8,e9,e10,e26,e27,e28,e33,e34',hlk,w2,c1,hup,sr]
     exact ⟨q2 - 1,by have:=hqk.out;omega,1,_,_,by have:=hqk.out;omega,rfl,⟨hM',hst,by have:=amg x.1 i E;have:=hJ2.out.2.2;omega⟩⟩
    ·rw [if_neg (fun h=>c1 h.1)] at hst
     simp only [↓pre,simprocAttr,aA,sx,j8,kO,bne,aC,aI,aL,aK,aJ,aG,aH,e8,e9,e10,e26,e27,e28,e33,e34',hlk,w2,c1,sr]
     exact ⟨q2 - 1,by have:=hqk.out;omega,1,_,_,by have:=hqk.out;omega,rfl,⟨hM.out,hst,by have:=hJ2.out.2.2;omega⟩⟩
   ·have e34':e 34=aD 1:=e34
    simp only [Nat.one_ne_zero,if_false,false_or] at hz hst
    subst hz
    have w2:IntKind.i64.wrap (1+1)=2:=by rfl
    by_cases c1:0 < x.2
    ·by_cases c2:x.2=x.1
     ·rw [if_neg (fun h=>h.2 c2)] at hst
      have c3:0 < x.1:=by rw [←c2];exact c1
      simp only [↓pre,simprocAttr,aA,sx,j8,kO,bne,aC,aI,aL,aK,aJ,aG,aH,e8,e9,e10,e26,e27,e28,e33,e34',hlk,w2,c3,c2,sr]
      exact ⟨q2 - 1,by have:=hqk.out;omega,2,_,_,by have:=hqk.out;omega,rfl,⟨hM.out,hst,by have:=hJ2.out.2.2;omega⟩⟩
     ·rw [if_pos ⟨c1,c2⟩] at hst
      simp only [↓pre,simprocAttr,aA,sx,j8,kO,bne,aC,aI,aL,aK,aJ,aG,aH,e8,e9,e10,e26,e27,e28,e33,e34',hlk,w2,c1,c2,sr]
      refine uF (kd := .flat) (sz:=1) (y:=8) (zl:=[.int .i64 0]) (by kernel_rfl) hown (by kernel_rfl) (by kernel_rfl) (by kernel_rfl) rfl l8 (by rfl) (by have:=hLle.out;omega) (by have:=hLle.out;omega) ?_
      intro a' m3 ho' hn' hkeep hbl hmm
      obtain ⟨hup,hM'⟩:=hM.out.upd x.2 i hn' hkeep hbl hmm ho'
      simp only [↓pre,simprocAttr,aA,sx,j8,kO,bne,aC,aI,aL,aK,aJ,aG,aH,e8,e9,e10,e26,e27,e28,e33,e34',hlk,w2,c1,c2,hup,sr]
      exact ⟨q2 - 1,by have:=hqk.out;omega,2,_,_,by have:=hqk.out;omega,rfl,⟨hM',hst,by have:=amg x.2 i E;have:=hJ2.out.2.2;omega⟩⟩
    ·rw [if_neg (fun h=>c1 h.1)] at hst
     simp only [↓pre,simprocAttr,aA,sx,j8,kO,bne,aC,aI,aL,aK,aJ,aG,aH,e8,e9,e10,e26,e27,e28,e33,e34',hlk,w2,c1,sr]
     exact ⟨q2 - 1,by have:=hqk.out;omega,2,_,_,by have:=hqk.out;omega,rfl,⟨hM.out,hst,by have:=hJ2.out.2.2;omega⟩⟩
  ·have hkk':¬ ((kk:Nat):Int) < 2:=by omega
   have:kk=2:=by have:=hqk.out;omega
   subst this
   simp only [↓pre,simprocAttr,aA,sx,j8,kO,bne,aC,aI,aL,aK,aJ,aG,aH,e8,e9,e10,e26,e27,e28,e33,e34,hkk',w1,sr]
   exact ⟨q - 1,by have:=hqi.out;omega,i+1,E,A,by have:=hqi.out;omega,rfl,⟨hJ2.out.1,asd hilh.out hJ2.out.2.1,by have:=hJ2.out.2.2;omega⟩⟩
 ·have hlt':¬ ((i:Nat):Int) < ((N:Nat):Int):=by omega
  have hiN:i=N:=by have:=hqi.out;omega
  subst hiN
  simp only [↓pre,simprocAttr,aA,sx,j8,kO,bne,aC,aI,aL,aK,aJ,aG,aH,e8,e26,e27,e28,hlt',sr]
  have hM:=hJ.out.1
  have hE:=hJ.out.2.1
  have hEl:E.length≤32:=by have:=hJ.out.2.2;have:=hn.out;omega
  replace hEl:=aB.mk hEl
  refine ⟨(g,j9 E A),by rw [aeo];rfl,by simp only [qQ,hM.mp,Option.map_some], ?_⟩
  intro rr hrr
  simp only [↓pre,simprocAttr,aA,sx,j8,kO,bne,aC,aI,aL,aK,aJ,aG,aH,e8,e26,e27,e28,sr]
  rw [b9]
  refine cA (fun q e m=>∃ S lv,q+S.length=E.length∧e 13=lv∧e 61 = .val (.pointer (some ⟨rr,0,none⟩))∧m.mm.iters rr=some (g,S)∧aB (lH m g E A∧S.Nodup∧(∀ j∈S,j < E.length)∧cO .var m 226 2 lv S.length (kN (S.map fun j=>((E.getD j (0,[])).1,A.getD j aO))))) E.length ⟨[],aO,by simp,rfl,rfl,by simp [aF.setM,Maps.walk],⟨hM.setM rfl,List.nodup_nil,fun j h=>(by cases h),fB⟩⟩ ?_
  rintro q e m3 ⟨S,lv,hq,e13,e61,hit,hJ3⟩
  replace hq:=aB.mk hq
  replace hM:=aB.mk hM
  replace hE:=aB.mk hE
  simp only [↓pre,simprocAttr,aA,sx,j8,kO,bne,aC,aI,aL,aK,aJ,aG,aH,e13,e61,sr]
  have hM3:=hJ3.out.1
  have hlv:=hJ3.out.2.2.2
  have hzl:(j9 E A).length=E.length:=by unfold j9;rw [List.length_zipWith,hM3.len];omega
  refine ⟨(rr,(g,S),j9 E A),by simp only [aay,hit,hM3.mp,Option.bind_some,Option.map_some],fun hall => ?_,fun j kv hj hjs => ?_⟩
  ·simp only at hall
   simp only [hzl] at hall
   obtain ⟨hk1,hk2,X,hX1,hX2,hX3,hX4⟩:=asg hM3 hE.out hlen.out hJ3.out.2.1 hJ3.out.2.2.1 hall
   have hlL:(S.map fun j=>((E.getD j (0,[])).1,A.getD j aO)).length=S.length:=by simp
   generalize hLg:(S.map fun j=>((E.getD j (0,[])).1,A.getD j aO))=L at *
   have hXl:X.length=L.length:=by
    have:=(xZ L).length_eq
    rw [hX1,List.length_map] at this
    exact this
   have hvl:X.length=(gH hs).length:=by
    have:=congrArg List.length hX4
    simpa using this
   have hSl:S.length≤32:=by have:=hEl.out;have:=hq.out;omega
   replace hX1:=aB.mk hX1
   replace hX4:=aB.mk hX4
   replace hLg:=aB.mk hLg
   replace hvl:=aB.mk hvl
   replace hXl:=aB.mk hXl
   replace hlL:=aB.mk hlL
   replace hSl:=aB.mk hSl
   rcases hlv.form with ⟨rfl,h0,_⟩ | ⟨b,rfl,hb,hbl,hpos⟩
   ·have hv0:gH hs=[]:=List.eq_nil_of_length_eq_zero (by have:=hvl.out;have:=hXl.out;have:=hlL.out;omega)
    simp only [↓pre,simprocAttr,aA,sx,j8,kO,bne,aC,aI,aL,aK,aJ,aG,aH,e13,e61,sr]
    refine aM (hsn) (by rfl) ?_;simp only [↓pre,simprocAttr,aA,sx,j8,kO,bne,aC,aI,aL,aK,aJ,aG,aH,e13,e61,aO,sr]
    rw [←hres.out]
    unfold zV
    rw [if_pos hv0]
    rfl
   ·have hne:¬ gH hs=[]:=by
     intro h
     have h1:=hvl.out
     rw [h,List.length_nil] at h1
     have h2:=hXl.out
     have h3:=hlL.out
     omega
    have hsort:=hso m3 b L hb hk1 (by have:=hlL.out;have:=hSl.out;omega) hk2
    rw [hlL.out] at hsort
    have hms:∀ x∈X,(m3.put b (some ⟨kN (lJ L),226,.var,true⟩)).at_ x.2.1=some ⟨cC x.2.2,3,.flat,true⟩:=by
     intro x hx
     have h1:=(hX2 x hx).1
     rw [aG,if_neg ?_]
     ·exact h1
     ·intro e
      rw [e,hb] at h1
      have h2:=congrArg eP.kind (Option.some.inj h1)
      cases h2
    have hcn:=al6 (m3.put b (some ⟨kN (lJ L),226,.var,true⟩)) 2 X [] [] hms hX3 (fun x hx i hi=>by cases hi)
    rw [←hX1.out,List.length_nil,List.nil_append,List.nil_append] at hcn
    have hany:(X.map (fun x=>(x.2.1,0))).any (fun i:Nat×Nat=>i.1 == b)=false:=by
     rw [List.any_eq_false]
     intro i hi
     obtain ⟨x,hx,rfl⟩:=List.mem_map.1 hi
     have h1:=(hX2 x hx).1
     intro e
     have e:x.2.1=b:=by simpa using e
     rw [e,hb] at h1
     have h2:=congrArg eP.kind (Option.some.inj h1)
     cases h2
    have hcan:canon Tryz.prog (m3.put b (some ⟨kN (lJ L),226,.var,true⟩)) 3 [] [] (.sl b 0 S.length S.length false)=some (.sl X.length 0 S.length S.length false,X.map (fun x=>(x.2.1,0))++[(b,0)],nE X++[(226,kB 0 X)]):=by
     have k9:bW Tryz.prog 226 = .var:=by kernel_rfl
     have hnr:(nE X).length=X.length:=by simp [nE]
     unfold canon
     simp only [aG,if_true,Option.bind_some,k9,and_self,List.drop_zero,hcn,hany,Bool.false_eq_true,if_false,hnr]
    simp only [↓pre,simprocAttr,aA,sx,j8,kO,bne,aC,aI,aL,aK,aJ,aG,aH,e13,e61,sr]
    refine .inr (.inr (.inl ⟨_,_,hsort, ?_⟩))
    simp only [↓pre,simprocAttr,aA,sx,j8,kO,bne,aC,aI,aL,aK,aJ,aG,aH,e13,e61,hcan,sr]
    rw [←hres.out]
    unfold zV
    rw [if_neg hne]
    obtain ⟨c1,c2⟩:=amd X (tX hs) 0 (by rw [hX4.out];unfold tX;rw [List.map_map,hlen.out];rfl)
    have h1:=hvl.out
    have h2:=hXl.out
    have h3:=hlL.out
    have h4:S.length=(gH hs).length:=by omega
    rw [h1,h4,c1,c2]
    rfl
  ·simp only at hj hjs
   obtain ⟨ev,hev,hj⟩:=awC (acJ (E:=E) (A:=A) j ▸ hj)
   obtain ⟨av,hav,rfl⟩:=awD hj
   have hoj:=hM3.own j ev av hev hav
   have hei:=hE.out.is ev (List.mem_of_getElem? hev)
   obtain ⟨b',rfl,hb',hlt'⟩:=hoj.sl (List.length_pos_iff.2 hei.2.2)
   have hel:j < E.length:=(List.getElem?_eq_some_iff.1 hev).1
   have hent:ab2 (m3.setM (m3.mm.walk rr (g,S++[j]))) (.val (.pointer (some ⟨rr,0,none⟩)))=some (.tup [.val (.int .i64 ev.1),.sl b' 0 ev.2.length ev.2.length false]):=by
    have h1:(m3.setM (m3.mm.walk rr (g,S++[j]))).mm.iters rr=some (g,S++[j]):=by simp [aF.setM,Maps.walk]
    have h2:(m3.setM (m3.mm.walk rr (g,S++[j]))).mm.maps g=some (j9 E A):=hM3.mp
    simp only [ab2,aay,h1,h2,Option.bind_some,Option.map_some,List.getLast?_append,List.getLast?_singleton,Option.some_or,acJ,hev,hav]
   have hlen2:S.length < E.length:=by
    have:=hJ3.out.2.1
    have h3:=hJ3.out.2.2.1
    have:(S++[j]).Nodup:=List.nodup_append.2 ⟨this,by simp,fun a ha b hb=>by simp at hb;subst hb;rintro rfl;exact hjs ha⟩
    have hle:=List.Nodup.length_le_of_subset this (l₂:=List.range E.length) (fun y hy=>by
     rw [List.mem_range]
     rcases List.mem_append.1 hy with hy | hy
     ·exact h3 y hy
     ·simp at hy;omega)
    simp at hle
    omega
   have hbs:=fun m=>aqH (P:=Tryz.prog) (m:=m) (t:=223) (el:=226) (a := .int .i64 ev.1) (x := .sl b' 0 ev.2.length ev.2.length false) (z:=[.int .i64 0,.slice none 0 0]) (by kernel_rfl) rfl rfl rfl (by kernel_rfl) (by kernel_rfl) (by kernel_rfl) rfl
   simp only [↓pre,simprocAttr,aA,sx,j8,kO,bne,aC,aI,aL,aK,aJ,aG,aH,e13,e61,hent,hbs,sr]
   have hlv4:cO .var ((m3.setM (m3.mm.walk rr (g,S++[j]))).push ⟨[.val (.int .i64 ev.1),.sl b' 0 ev.2.length ev.2.length false],226,.var,true⟩) 226 2 lv S.length _:=(hlv.setM _).push _
   refine uF (kd := .var) (sz:=2) (y:=32) (zl:=[.int .i64 0,.slice none 0 0]) (by kernel_rfl) hlv4 (by kernel_rfl) (by kernel_rfl) (by kernel_rfl) rfl (aqx (by kernel_rfl) rfl) (by rfl) (by have:=hEl.out;omega) (by have:=hEl.out;omega) ?_
   intro lv' m5 ho5 hn5 hkeep5 hbl5 hmm5
   simp only [↓pre,simprocAttr,aA,sx,j8,kO,bne,aC,aI,aL,aK,aJ,aG,aH,e13,e61,sr]
   refine ⟨q - 1,by have:=hq.out;omega,S++[j],lv',by have:=hq.out;simp;omega,rfl, ?_,⟨?_, ?_, ?_, ?_⟩⟩
   ·rw [hmm5];simp [aF.push,aF.setM,Maps.walk]
   ·have hMp:lH ((m3.setM (m3.mm.walk rr (g,S++[j]))).push ⟨[.val (.int .i64 ev.1),.sl b' 0 ev.2.length ev.2.length false],226,.var,true⟩) g E A:=(hM3.setM (mm:=m3.mm.walk rr (g,S++[j])) rfl).keep rfl (by rw [aW];omega) fun j k hj hl _=>by rw [aH,if_neg (by omega)];exact hj
    exact hMp.keep hmm5 hn5 fun j k hj hl hk=>hkeep5 j k hj hl (hlv4.ne_kind hj (by rw [hk];intro h;cases h))
   ·exact List.nodup_append.2 ⟨hJ3.out.2.1,by simp,fun a ha b hb=>by simp at hb;subst hb;rintro rfl;exact hjs ha⟩
   ·intro y hy
    rcases List.mem_append.1 hy with hy | hy
    ·exact hJ3.out.2.2.1 y hy
    ·simp at hy;omega
   ·have e1:(E.getD j (0,[])).1=ev.1:=by rw [List.getD_eq_getElem?_getD,hev];rfl
    have e2:A.getD j aO = .sl b' 0 ev.2.length ev.2.length false:=by rw [List.getD_eq_getElem?_getD,hav];rfl
    rw [List.length_append,List.map_append,asf,List.map_cons,List.map_nil,e1,e2]
    exact ho5
end Go.Proofs.YtaekhhlgnbhnpaaGreat