import Derived.Test.YtaekhhlgnbhnpaaGreatNzcG15
set_option linter.unusedVariables false
set_option linter.unusedSimpArgs false
set_option maxRecDepth 10000
open Go.Proofs.Tryz
open Bool renaming true_and→aBh,and_eq_true→aAn,false_eq_true→azx
open Go.Proofs.Tryz renaming prog→ayS
open Go.Value renaming int→azA
open List renaming getElem?_eq_some_iff→ay5,drop_eq_getElem_cons→aBe,getElem?_eq_getElem→azj,all_eq_false→aBf,mem_of_getElem?→az5,all_eq_true→aAr,getElem?_of_mem→aBg,append_nil→aBi,range→aAm,pairwise_singleton→aBk,mem_singleton→aBl,mem_append→aBm,pairwise_cons→aBn,mem_cons→az4,length_append→aAZ,length_cons→aAC,length_nil→aAD,replicate→aBo,take_add_one→aA6,map_append→aBp,map_cons→aAo,map_nil→aAp,append_assoc→azT,nil_append→aBq,any_eq_false→aBr,size_toArray→azV,ext_getElem?→aAf,getElem?_set→aAk,pairwise_iff_getElem→aBs,nodup_append→aBt,mem_map→azm,getD_eq_getElem?_getD→azp,getElem?_append_left→azd,getElem?_append_right→aze,drop_zero→aBu,map_map→aBv,map_congr_left→aAt,pairwise_map→aBw,mem_filterMap→aBx
open Nat renaming le_refl→ay7,mul_one→azD,one_ne_zero→aBj,add_assoc→ay0
open Option renaming bind_some→aAh,map_some→az3,map_eq_some_iff→ayY,getD_some→aAB
open Option.some renaming inj→aAR
namespace Go.Proofs.YtaekhhlgnbhnpaaGreat
open Go Go.Tw Go.Proofs
abbrev bO:=List UInt8×List UInt8
structure fV (v:AV) (ps:List bO) (cells:List AV):Prop where
 rd:aZ v ps.length cells
 at_:∀ i p,ps[i]? = some p→∃ a b xa xb,cells[i*2]? = some a∧cells[i*2+1]? = some b∧aZ a p.1.length (aL p.1++xa)∧aZ b p.2.length (aL p.2++xb)
theorem rL {cells:List AV} {i:Nat} {a b:AV} (h:cells[i]? = some a) (d:cells[i+1]? = some b):(cells.drop i).take 2=[a,b]∧i+2≤cells.length:=by
 have c:=(ay5.1 d)
 obtain ⟨c,g⟩:=c;obtain ⟨e,f⟩:=ay5.1 h;refine ⟨?_,by omega⟩;rw [aBe e,aBe c,f,g];rfl
def dS (k r c:Int) (ps:List bO):Bool:=decide ((ps.length:Int)=k+r) && ps.all (fun p=>kC k r c p.1.length p.2.length)
theorem as9 (k r c w:Int) (v:AV) (ps:List bO) (cells:List AV) (y:fV v ps cells) (K:bG k r c w=true):aR ayS 197 [aA k r c w,v] ⟨aV (dS k r c ps),[]⟩:=by
 have M:=y.rd.plain;have C:=gX K;have D:=qI k r c w K;by_cases E:(ps.length:Int)=k+r
 ·have f:ps.length≤16:=by omega
  have l:dS k r c ps=ps.all (fun p=>kC k r c p.1.length p.2.length):=by unfold dS;rw [decide_eq_true E];rfl
  rw [l];replace C:=Hid.mk C;replace f:=Hid.mk f;replace l:=Hid.mk l;refine aX Tryz.func197 aB (h:=?_);unfold Tryz.f197;simp only [↓pre,zae,aeD,simprocAttr,aA,y.rd.len']
  (first | refine aH (D) (by first | rfl | simp only [aA,aD, *]) ?_ | refine aG (D) (by first | rfl | simp only [aA,aD, *]) (by intro k;first | rfl | simp only [ *,zaa]) ?_);simp only [↓pre,zab,simprocAttr,E]
  rw [bS];refine bU (fun q e m=>∃ i,q+i=ps.length∧e 1=v∧e 2 = .tptr 0 [aC k,aC r,aC c,aC w]∧e 5=aC (i:Nat)∧∀ j p,j < i→ps[j]? = some p→kC k r c p.1.length p.2.length=true) ps.length ⟨0,by omega,rfl,rfl,rfl,fun j p h=>by omega⟩ ?_;rintro q e m ⟨i,hi,H,L,G,d⟩;replace d:=Hid.mk d;by_cases A:i < ps.length
  ·have o:((i:Nat):Int) < ((ps.length:Nat):Int):=by omega
   obtain ⟨p,s⟩:∃ p,ps[i]? = some p:=⟨_,azj A⟩
   obtain ⟨a,b,T,U,P,Q,B,x⟩:=y.at_ i p s;obtain ⟨O,F⟩:=rL P Q;have R:=B.plain;have S:=x.plain;have u:=as8 k r c w a b p.1.length p.2.length _ _ B x K;have w1:=bY (n:=i) (by have:=f.out;omega);replace s:=Hid.mk s;simp only [↓pre,zae,aeD,simprocAttr,H,L,G,y.rd.len',o,y.rd.addr',A,O,F];cases t:kC k r c p.1.length p.2.length with
   | true =>
    (first | refine aH (u) (by first | rfl | simp only [aA,aD, *]) ?_ | refine aG (u) (by first | rfl | simp only [aD, *]) (by intro k;first | rfl | simp only [ *,zaa]) ?_);simp only [↓pre,zab,aV,fO,simprocAttr,H,L,G,t,w1]
    refine ⟨q - 1,by omega,i+1,by omega,rfl,fun j N I z => ?_⟩;by_cases J:j=i
    ·subst J;rw [s.out] at z;cases z;exact t
    ·exact d.out j N (by omega) z
   | false =>
    have g:ps.all (fun p=>kC k r c p.1.length p.2.length)=false:=by
     rw [aBf];exact ⟨p,az5 s.out,by rw [t];decide⟩
    (first | refine aH (u) (by first | rfl | simp only [aA,aD, *]) ?_ | refine aG (u) (by first | rfl | simp only [aD, *]) (by intro k;first | rfl | simp only [ *,zaa]) ?_);simp only [↓pre,zab,aV,iS,simprocAttr,t,g]
  ·have o:¬ ((i:Nat):Int) < ((ps.length:Nat):Int):=by omega
   have g:ps.all (fun p=>kC k r c p.1.length p.2.length)=true:=by
    rw [aAr];intro p M;obtain ⟨j,I⟩:=aBg M;have:=(ay5.1 I).1;exact d.out j p (by omega) I
   simp only [↓pre,zal,aeD,fO,simprocAttr,H,G,y.rd.len',o,g]
 ·have l:dS k r c ps=false:=by unfold dS;rw [decide_eq_false E];rfl
  rw [l];refine aX Tryz.func197 aB (h:=?_);unfold Tryz.f197;simp only [↓pre,zae,aeD,simprocAttr,aA,y.rd.len']
  (first | refine aH (D) (by first | rfl | simp only [aA,aD, *]) ?_ | refine aG (D) (by first | rfl | simp only [aA,aD, *]) (by intro k;first | rfl | simp only [ *,zaa]) ?_);simp only [↓pre,zab,aV,simprocAttr,E]
def eJ (k r c w:Int) (ps:List bO):Int:=if bG k r c w=true then (if dS k r c ps=true then 0 else 120) else 2
theorem ata (k r c w:Int) (v:AV) (ps:List bO) (cells:List AV) (f:fV v ps cells):aR ayS 111 [aA k r c w,v] ⟨aC (eJ k r c w ps),[]⟩:=by
 have g:=f.rd.plain;have a:=nA k r c w;unfold eJ;cases d:bG k r c w with
 | false =>
  rw [d] at a;rw [if_neg (by decide)];refine aX Tryz.func111 aB (h:=?_);unfold Tryz.f111;simp only [↓pre,zab,acE,simprocAttr,aA]
  (first | refine aH (a) (by first | rfl | simp only [aA,aD, *]) ?_ | refine aG (a) (by first | rfl | simp only [aA,aD, *]) (by intro k;first | rfl | simp only [ *,zaa]) ?_);simp only [↓pre,zab,aV,iS,simprocAttr]
 | true =>
  rw [d] at a;have b:=as9 k r c w v ps cells f d;rw [if_pos rfl];cases e:dS k r c ps with
  | false =>
   rw [e] at b;rw [if_neg (by decide)];refine aX Tryz.func111 aB (h:=?_);unfold Tryz.f111;simp only [↓pre,zab,acE,simprocAttr,aA]
   (first | refine aH (a) (by first | rfl | simp only [aA,aD, *]) ?_ | refine aG (a) (by first | rfl | simp only [aA,aD, *]) (by intro k;first | rfl | simp only [ *,zaa]) ?_);simp only [↓pre,zab,acE,aV,fO,simprocAttr];(first | refine aH (b) (by first | rfl | simp only [aD, *]) ?_ | refine aG (b) (by first | rfl | simp only [aA,aD, *]) (by intro k;first | rfl | simp only [ *,zaa]) ?_);simp only [↓pre,zab,aV,iS,simprocAttr]
  | true =>
   rw [e] at b;rw [if_pos rfl];refine aX Tryz.func111 aB (h:=?_);unfold Tryz.f111;simp only [↓pre,zab,acE,simprocAttr,aA]
   (first | refine aH (a) (by first | rfl | simp only [aA,aD, *]) ?_ | refine aG (a) (by first | rfl | simp only [aA,aD, *]) (by intro k;first | rfl | simp only [ *,zaa]) ?_);simp only [↓pre,zab,acE,aV,fO,simprocAttr];(first | refine aH (b) (by first | rfl | simp only [aD, *]) ?_ | refine aG (b) (by first | rfl | simp only [aA,aD, *]) (by intro k;first | rfl | simp only [ *,zaa]) ?_);simp only [↓pre,zab,aV,fO,simprocAttr]
def acX (k r c w:Int) (bs:List UInt8) (ix:Int):Bool:=gZ k r c w bs ix && (decide ((cT k r bs).kd=2) && (cT k r bs).vec.all (fun n=>decide (n=(cT k r bs).ce)))
def lW (k r c w:Int) (bs:List UInt8) (ix:Int):Int:=if acX k r c w bs ix=true then (cT k r bs).ce else 0
theorem ahv (k r c w ix:Int) (v:AV) (bs:List UInt8) (x:List AV) (F:aZ v bs.length (aL bs++x)) (G:bG k r c w=true):aR ayS 255 [aA k r c w,v,aC ix] ⟨aC (lW k r c w bs ix),[]⟩:=by
 have I:=F.plain;have y:=gX G;have f:=amP k r c w ix v bs x F G;have p:(cT k r bs).vec.length≤16:=by have:=abt bs (k+r).toNat;simp only [cT];omega
 replace y:=Hid.mk y;unfold lW acX;cases hs:gZ k r c w bs ix with
 | false =>
  rw [hs] at f;rw [if_neg (by decide)] at f;rw [Bool.false_and,if_neg (by decide)];unfold nC kK at f;refine aX Tryz.func255 aB (h:=?_);unfold Tryz.f255;simp only [↓pre,zab,wJ,simprocAttr,aA,eq_self]
  (first | refine aH (f) (by first | rfl | simp only [aD, *]) ?_ | refine aG (f) (by first | rfl | simp only [aA,aD, *]) (by intro k;first | rfl | simp only [ *,zaa]) ?_);simp only [↓pre,zal,wJ,aM,simprocAttr,aN,aJ,eq_self]
 | true =>
  rw [hs] at f;rw [if_pos rfl] at f;rw [aBh];generalize cT k r bs=s at *
  unfold rK.v kK at f;by_cases u:s.kd=2
  ·rw [decide_eq_true u,aBh];have d:aZ (.tree s.vec.length s.vec.length (bK s.vec) false) s.vec.length (bK s.vec++[]):=⟨.inr (.inr ⟨_,false,by rw [aBi],ay7 _⟩)⟩
   replace p:=Hid.mk p;refine aX Tryz.func255 aB (h:=?_);unfold Tryz.f255;simp only [↓pre,zab,wJ,simprocAttr,aA,eq_self]
   (first | refine aH (f) (by first | rfl | simp only [aD, *]) ?_ | refine aG (f) (by first | rfl | simp only [aA,aD, *]) (by intro k;first | rfl | simp only [ *,zaa]) ?_);simp only [↓pre,zal,wJ,aM,simprocAttr,aJ,eq_self,u]
   rw [bS];refine bU (fun q e m=>∃ i,q+i=s.vec.length∧e 7 = .tptr 0 [.val (.int .u8 2),aC s.ix,aC s.ce,aC s.st,.tree s.vec.length s.vec.length (bK s.vec) false,.tree s.data.length s.data.length (aL s.data) false]∧e 9=aC (i:Nat)∧∀ j n,j < i→s.vec[j]? = some n→n=s.ce) s.vec.length ⟨0,by omega,by rw [←u];rfl,rfl,fun j n h=>by omega⟩ ?_;rintro q e m ⟨i,hi,B,A,b⟩;replace b:=Hid.mk b;by_cases o:i < s.vec.length
   ·have a:((i:Nat):Int) < ((s.vec.length:Nat):Int):=by omega
    obtain ⟨n,l⟩:∃ n,s.vec[i]? = some n:=⟨_,azj o⟩
    have z:=nB (x:=[]) l;rw [aBi] at z d;have w1:=bY (n:=i) (by have:=p.out;omega);by_cases E:n=s.ce
    ·replace l:=Hid.mk l;subst E;simp only [↓pre,zae,wJ,azD,fO,simprocAttr,B,A,d.len',d.addr',o,a,z,w1,eq_self];refine ⟨q - 1,by omega,i+1,by omega,rfl,fun j H C t => ?_⟩;by_cases D:j=i
     ·subst D;rw [l.out] at t;cases t;rfl
     ·exact b.out j H (by omega) t
    ·have g:(s.vec.all (fun n=>decide (n=s.ce)))=false:=by
      rw [aBf];exact ⟨n,az5 l,by simpa using E⟩
     rw [g,if_neg (by decide)];replace l:=Hid.mk l;simp only [↓pre,zae,wJ,azD,iS,simprocAttr,B,A,d.len',d.addr',o,a,z,E]
   ·have a:¬ ((i:Nat):Int) < ((s.vec.length:Nat):Int):=by omega
    have g:(s.vec.all (fun n=>decide (n=s.ce)))=true:=by
     rw [aAr];intro n l;obtain ⟨j,C⟩:=aBg l;have:=(ay5.1 C).1;rw [decide_eq_true_eq];exact b.out j n (by omega) C
    rw [g,if_pos rfl];simp only [↓pre,zae,wJ,fO,simprocAttr,B,A,d.len',a]
  ·rw [decide_eq_false u,Bool.false_and,if_neg (by decide)];refine aX Tryz.func255 aB (h:=?_);unfold Tryz.f255;simp only [↓pre,zab,wJ,simprocAttr,aA,eq_self]
   (first | refine aH (f) (by first | rfl | simp only [aD, *]) ?_ | refine aG (f) (by first | rfl | simp only [aA,aD, *]) (by intro k;first | rfl | simp only [ *,zaa]) ?_);simp only [↓pre,zal,wJ,aM,simprocAttr,aJ,eq_self,u]
def gC (k r c w:Int) (ps:List bO):List (Int×Int):=ps.mapIdx fun i p=>(lW k r c w p.1 i,lW k r c w p.2 i)
def yF (hs:List (Int×Int)) (v:Int):Prop:=∃ (i:Nat) (x:Int×Int),hs[i]? = some x∧(x.1=v∨x.2=v)
def qL (hs:List (Int×Int)) (i:Nat) (v:Int):Bool:=match hs[i]? with
 | some x=>decide (x.1=v) || decide (x.2=v)
 | none=>false
def iN (hs:List (Int×Int)) (v:Int) (n:Nat):List Int:=(aAm n).filterMap fun i=>if qL hs i v=true then some (i:Int) else none
theorem amQ (hs:List (Int×Int)) (v:Int) (n:Nat):iN hs v (n+1)=iN hs v n++(if qL hs n v=true then [(n:Int)] else []):=by
 unfold iN;rw [List.range_succ,List.filterMap_append];cases h:qL hs n v <;> simp [h]
theorem amR (hs:List (Int×Int)) (v:Int) (n:Nat):(iN hs v n).length≤n:=by
 have:=List.length_filterMap_le (fun i:Nat=>if qL hs i v=true then some (i:Int) else none) (aAm n);rw [List.length_range] at this;exact this
def vG (hs:List (Int×Int)) (top:Int) (i a:Nat) (b:Int):Prop:=(b=0∨(0 < b∧b < top∧yF hs b)) ∧
 ∀ j x,hs[j]? = some x→(j < i∨(j=i∧1≤a)→x.1 < top→x.1≤b)∧(j < i∨(j=i∧2≤a)→x.2 < top→x.2≤b)
theorem atb (hs:List (Int×Int)) (top:Int):vG hs top 0 0 0:=⟨.inl rfl,fun j x _=>⟨fun h=>by omega,fun h=>by omega⟩⟩
theorem atc {hs:List (Int×Int)} {top b:Int} {i:Nat} (h:vG hs top i 2 b):vG hs top (i+1) 0 b :=
 ⟨h.1,fun j x a=>⟨fun c=>(h.2 j x a).1 (by omega),fun c=>(h.2 j x a).2 (by omega)⟩⟩
theorem atd {hs:List (Int×Int)} {top b z:Int} {i a:Nat} {x:Int×Int} (h:vG hs top i a b) (r:a < 2) (k:hs[i]? = some x) (e:z=if a=0 then x.1 else x.2):vG hs top i (a+1) (if z < top∧b < z then z else b):=by
 obtain ⟨l,p⟩:=h;have n:yF hs z:=by
  refine ⟨i,x,k, ?_⟩;split at e
  ·exact .inl e.symm
  ·exact .inr e.symm
 have q:0≤b:=by rcases l with l | l <;> omega
 split
 ·rename_i o;refine ⟨.inr ⟨by omega,o.1,n⟩,fun j y c => ?_⟩;have:=p j y c;constructor
  ·intro m f;by_cases d:j < i∨j=i∧1≤a
   ·have:=this.1 d f;omega
   ·have g:j=i∧a=0:=by omega
    obtain ⟨rfl,rfl⟩:=g;rw [k] at c;cases c;simp only [if_true] at e;omega
  ·intro m f;by_cases d:j < i∨j=i∧2≤a
   ·have:=this.2 d f;omega
   ·have g:j=i∧a=1:=by omega
    obtain ⟨rfl,rfl⟩:=g;rw [k] at c;cases c;simp only [aBj,if_false] at e;omega
 ·rename_i o;refine ⟨l,fun j y c => ?_⟩;have:=p j y c;constructor
  ·intro m f;by_cases d:j < i∨j=i∧1≤a
   ·exact this.1 d f
   ·have g:j=i∧a=0:=by omega
    obtain ⟨rfl,rfl⟩:=g;rw [k] at c;cases c;simp only [if_true] at e;omega
  ·intro m f;by_cases d:j < i∨j=i∧2≤a
   ·exact this.2 d f
   ·have g:j=i∧a=1:=by omega
    obtain ⟨rfl,rfl⟩:=g;rw [k] at c;cases c;simp only [aBj,if_false] at e;omega
theorem amS {hs:List (Int×Int)} {top b:Int} (h:vG hs top hs.length 0 b) {v:Int} (e:yF hs v) (c:v < top):v≤b:=by
 obtain ⟨i,x,a,d⟩:=e;have f:=(ay5.1 a).1;have:=h.2 i x a;rcases d with rfl | rfl
 ·exact this.1 (by omega) c
 ·exact this.2 (by omega) c
structure yG (hs:List (Int×Int)) (top:Int) (T:List Int):Prop where
 pw:T.Pairwise (· > ·)
 mem:∀ v,v∈T↔0 < v∧top≤v∧yF hs v
theorem ate {hs:List (Int×Int)} {top:Int} (h:∀ v,yF hs v→v < top):yG hs top []:=⟨.nil,fun v=>⟨fun h=>(by cases h),fun ⟨a,h2,h3⟩=>by have:=h v h3;omega⟩⟩
theorem atf {hs:List (Int×Int)} {top b:Int} {T:List Int} (h:yG hs top T) (g:vG hs top hs.length 0 b) (i:¬ b=0):yG hs b (T++[b])∧b < top∧0 < b:=by
 rcases g.1 with e | ⟨e,n,m⟩
 ·omega
 refine ⟨⟨?_,fun v => ?_⟩,n,e⟩
 ·rw [List.pairwise_append];refine ⟨h.pw,aBk _ _,fun a l c k => ?_⟩;have:=(h.mem a).1 l;rw [aBl] at k;omega
 ·rw [aBm,aBl,h.mem];constructor
  ·rintro (d | rfl)
   ·exact ⟨d.1,by omega,d.2.2⟩
   ·exact ⟨e,by omega,m⟩
  ·rintro ⟨d,o,f⟩;by_cases j:top≤v
   ·exact .inl ⟨d,j,f⟩
   ·have:=amS g f (by omega);exact .inr (by omega)
theorem atg {hs:List (Int×Int)} {top:Int} {T:List Int} (h:yG hs top T) (d:vG hs top hs.length 0 0):yG hs 1 T:=⟨h.pw,fun v=>by
 rw [h.mem];constructor
 ·rintro ⟨b,e,a⟩;exact ⟨b,by omega,a⟩
 ·rintro ⟨b,e,a⟩;refine ⟨b, ?_,a⟩;by_cases c:top≤v
  ·exact c
  ·have:=amS d a (by omega);omega⟩
theorem ahw {hs:List (Int×Int)} {top:Int}:∀ {T f:List Int},T.Pairwise (· > ·)→f.Pairwise (· > ·)→(∀ v,v∈T↔v∈f)→T=f
 | [],[],_,_,_=>rfl
 | [],b::f,_,_,h=>by have:=(h b).2 (by simp);cases this
 | a::T,[],_,_,h=>by have:=(h a).1 (by simp);cases this
 | a::T,b::f,h1,h2,h=>by
  rw [aBn] at h1 h2;have i:a=b:=by
   have d:=(h a).1 (by simp);have c:=(h b).2 (by simp);rw [az4] at d c;rcases d with d | d
   ·exact d
   ·rcases c with c | c
    ·exact c.symm
    ·have:=h1.1 b c;have:=h2.1 a d;omega
  subst i;rw [ahw (hs:=hs) (top:=top) h1.2 h2.2 fun v => ?_];have:=h v;rw [az4,az4] at this;constructor
  ·intro g;rcases this.1 (.inr g) with e | e
   ·have:=h1.1 v g;omega
   ·exact e
  ·intro g;rcases this.2 (.inr g) with e | e
   ·have:=h2.1 v g;omega
   ·exact e
def sU (v:Int):List Int→List Int
 | []=>[v]
 | a::l=>if a < v then v::a::l else if v < a then a::sU v l else a::l
theorem ahx (v:Int):∀ (l:List Int) (x:Int),x∈sU v l↔x=v∨x∈l
 | [],x=>by simp [sU]
 | a::l,x=>by
  unfold sU;split
  ·simp
  ·split
   ·simp only [az4,ahx v l x];constructor
    ·rintro (h | h | h) <;> simp [h]
    ·rintro (h | h | h) <;> simp [h]
   ·rename_i c b;have:v=a:=by omega
    subst this;simp
theorem amT (v:Int):∀ (l:List Int),l.Pairwise (· > ·)→(sU v l).Pairwise (· > ·)
 | [],_=>aBk _ _
 | a::l,h=>by
  unfold sU;split
  ·rename_i c;rw [aBn];refine ⟨fun x b => ?_,h⟩;rw [az4] at b;rcases b with rfl | b
   ·exact c
   ·have:=(aBn.1 h).1 x b;omega
  ·split
   ·rename_i c d;rw [aBn] at h ⊢;refine ⟨fun x b => ?_,amT v l h.2⟩;rw [ahx] at b;rcases b with rfl | b
    ·exact d
    ·exact h.1 x b
   ·exact h
def gS (hs:List (Int×Int)):List Int:=hs.foldr (fun x l=>(if 0 < x.1 then sU x.1 else id) ((if 0 < x.2 then sU x.2 else id) l)) []
theorem aab:∀ (hs:List (Int×Int)),yG hs 1 (gS hs)
 | []=>⟨.nil,fun v=>⟨fun h=>(by cases h),fun ⟨_,_,i,x,h,_⟩=>by simp at h⟩⟩
 | x::hs=>by
  have g:=aab hs;have e:gS (x::hs)=(if 0 < x.1 then sU x.1 else id) ((if 0 < x.2 then sU x.2 else id) (gS hs)):=rfl;have f:∀ v,yF (x::hs) v↔(x.1=v∨x.2=v)∨yF hs v:=by
   intro v;constructor
   ·rintro ⟨i,y,h,b⟩;cases i with
    | zero=>simp at h;subst h;exact .inl b
    | succ i=>exact .inr ⟨i,y,by simpa using h,b⟩
   ·rintro (h | ⟨i,y,h,b⟩)
    ·exact ⟨0,x,rfl,h⟩
    ·exact ⟨i+1,y,by simpa using h,b⟩
  have one:∀ (z:Int) (l:List Int),l.Pairwise (· > ·)→(((if 0 < z then sU z else id) l).Pairwise (· > ·))∧∀ v,v∈(if 0 < z then sU z else id) l↔(0 < z∧v=z)∨v∈l:=by
   intro z l j;split
   ·rename_i d;exact ⟨amT z l j,fun v=>by rw [ahx];simp [d]⟩
   ·rename_i d;exact ⟨j,fun v=>by simp [d]⟩
  rw [e];obtain ⟨o,m⟩:=one x.2 _ g.pw;obtain ⟨k,n⟩:=one x.1 _ o;refine ⟨k,fun v => ?_⟩;rw [n,m,g.mem,f];constructor
  ·rintro (⟨a,rfl⟩ | ⟨a,rfl⟩ | a)
   ·exact ⟨a,by omega,.inl (.inl rfl)⟩
   ·exact ⟨a,by omega,.inl (.inr rfl)⟩
   ·exact ⟨a.1,a.2.1,.inr a.2.2⟩
  ·rintro ⟨a,b,(c | c) | c⟩
   ·exact .inl ⟨by omega,c.symm⟩
   ·exact .inr (.inl ⟨by omega,c.symm⟩)
   ·exact .inr (.inr ⟨a,b,c⟩)
theorem amU {hs:List (Int×Int)} {T:List Int} (h:yG hs 1 T):T=gS hs:=ahw (hs:=hs) (top:=1) h.pw (aab hs).pw fun v=>by rw [h.mem,(aab hs).mem]
def abu (hs:List (Int×Int)) (v:Int):AV:=bD (iN hs v hs.length).length (bK (iN hs v hs.length))
def jD (hs:List (Int×Int)) (T:List Int):List AV:=T.flatMap fun v=>[aC v,abu hs v]
theorem ath (hs:List (Int×Int)) (T a:List Int):jD hs (T++a)=jD hs T++jD hs a:=by simp [jD]
theorem ahy (hs:List (Int×Int)):∀ (T:List Int) (i:Nat) (v:Int),T[i]? = some v→(jD hs T)[i*2]? = some (aC v)∧(jD hs T)[i*2+1]? = some (abu hs v)
 | [],i,v,h=>by simp at h
 | a::T,0,v,h=>by
  simp at h;subst h;exact ⟨rfl,rfl⟩
 | a::T,i+1,v,h=>by
  have b:=ahy hs T i v (by simpa using h);have e:jD hs (a::T)=aC a::abu hs a::jD hs T:=rfl;rw [e,show (i+1)*2=i*2+1+1 by omega];simpa using b
theorem ati {k r c w:Int} {l:List Int} (h:jB k r c w l=0):∀ n∈l,1≤n∧n≤1073741824:=by
 unfold jB at h;split at h
 ·split at h
  ·split at h
   ·omega
   ·rename_i b;intro n d;have e:hU n=true:=by
     cases a:hU n with
     | true=>rfl
     | false=>exact absurd (List.any_eq_true.2 ⟨n,d,by simp [a]⟩) b
    simpa [hU] using e
  ·omega
 ·omega
theorem amV (k r c w:Int) (bs:List UInt8) (ix:Int):lW k r c w bs ix=0∨(1≤lW k r c w bs ix∧lW k r c w bs ix≤1073741824):=by
 unfold lW;split
 ·rename_i h;right;unfold acX gZ eS uG eA at h;simp only [aAn,decide_eq_true_eq] at h;obtain ⟨⟨⟨_,_,_,b,g,d,e,a,f⟩,_⟩,_⟩:=h;exact ati b _ (az5 a)
 ·exact .inl rfl
theorem aeU {k r c w:Int} {ps:List bO} {i:Nat} {p:bO} (h:ps[i]? = some p):(gC k r c w ps)[i]? = some (lW k r c w p.1 i,lW k r c w p.2 i):=by
 unfold gC;rw [List.getElem?_mapIdx,h];rfl
theorem aeV (k r c w:Int) (ps:List bO):(gC k r c w ps).length=ps.length:=by simp [gC]
theorem ahz {k r c w:Int} {ps:List bO}:∀ v,yF (gC k r c w ps) v→v < 1073741825:=by
 rintro v ⟨i,x,a,d⟩;have b:=(ay5.1 a).1;rw [aeV] at b;have:=aeU (k:=k) (r:=r) (c:=c) (w:=w) (azj b);rw [this] at a;cases a;have f:=amV k r c w (ps[i].1) i;have e:=amV k r c w (ps[i].2) i;simp only at d;rcases d with rfl | rfl <;> omega
theorem atj {k r c w:Int} {ps:List bO} {i:Nat} {p:bO} (h:ps[i]? = some p) (v:Int):qL (gC k r c w ps) i v=(decide (lW k r c w p.1 i=v) || decide (lW k r c w p.2 i=v)):=by
 unfold qL;rw [aeU h]
theorem atk (k r c w ver:Int) (v:AV) (ps:List bO) (cells:List AV) (i:Nat) (e:fV v ps cells) (n:bG k r c w=true) (hi:i < ps.length) (u:ps.length≤1000000):aR ayS 256 [aA k r c w,v,aC (i:Nat),aC ver] ⟨aV (qL (gC k r c w ps) i ver),[]⟩:=by
 have z:=e.rd.plain;obtain ⟨p,d⟩:∃ p,ps[i]? = some p:=⟨_,azj hi⟩
 obtain ⟨a,b,q,t,m,s,f,g⟩:=e.at_ i p d;have x:=f.plain;have y:=g.plain;have l:=ahv k r c w i a p.1 q f n;have o:=ahv k r c w i b p.2 t g n;rw [atj d];replace d:=Hid.mk d;by_cases j:lW k r c w p.1 i=ver
 ·rw [decide_eq_true j];refine aX Tryz.func256 aB (h:=?_);unfold Tryz.f256;simp only [↓pre,zae,ahh,bH,simprocAttr,aA,e.rd.addr',hi,m]
  (first | refine aH (l) (by first | rfl | simp only [aA,aD, *]) ?_ | refine aG (l) (by first | rfl | simp only [aD, *]) (by intro k;first | rfl | simp only [ *,zaa]) ?_);simp only [↓pre,zab,aV,simprocAttr,j]
  rfl
 ·rw [decide_eq_false j];refine aX Tryz.func256 aB (h:=?_);unfold Tryz.f256;simp only [↓pre,zae,ahh,bH,simprocAttr,aA,e.rd.addr',hi,m]
  (first | refine aH (l) (by first | rfl | simp only [aA,aD, *]) ?_ | refine aG (l) (by first | rfl | simp only [aD, *]) (by intro k;first | rfl | simp only [ *,zaa]) ?_);simp only [↓pre,zal,ahh,bH,simprocAttr,e.rd.addr',hi,s,j];(first | refine aH (o) (by first | rfl | simp only [aA,aD, *]) ?_ | refine aG (o) (by first | rfl | simp only [aD, *]) (by intro k;first | rfl | simp only [ *,zaa]) ?_);simp only [↓pre,zab,simprocAttr]
  rfl
theorem atl {P:Program} (hs:List (Int×Int)) (T:List Int):∀ x∈jD hs T,zS P x:=by
 intro x a;unfold jD at a;rw [List.mem_flatMap] at a;obtain ⟨v,_,a⟩:=a;rw [az4,aBl] at a;rcases a with rfl | rfl
 ·exact aeb _
 ·exact arI _ _
def nU:Nat→Bool:=fun d=>d != 11
theorem atm (k r c w:Int) (v:AV) (ps:List bO) (cells:List AV) (S:fV v ps cells) (hm:bG k r c w=true) (hn:ps.length≤1000000):aR ayS 198 [aA k r c w,v] (fU 226 (gS (gC k r c w ps)).length (jD (gC k r c w ps) (gS (gC k r c w ps)))):=by
 have hp:=S.rd.plain;have U:=ahz (k:=k) (r:=r) (c:=c) (w:=w) (ps:=ps);have F:=aeV k r c w ps;generalize Y:gC k r c w ps=hs at *
 generalize b9:fU 226 (gS hs).length (jD hs (gS hs))=f1;replace U:=Hid.mk U;replace Y:=Hid.mk Y;replace F:=Hid.mk F;replace hn:=Hid.mk hn;refine aX Tryz.func198 nU (h:=?_);unfold Tryz.f198;simp only [↓pre,zah,uF,nU,simprocAttr,aA,bne];rw [bS];refine bU (fun q e m=>∃ top T lv,q=top.toNat∧e 1=v∧e 2 = .tptr 0 [aC k,aC r,aC c,aC w]∧e 5=lv∧e 6=aC top∧Hid (0 < top∧yG hs top T∧T.length+top≤1073741825∧cG .var m 226 2 lv T.length (jD hs T))) 1073741825 ⟨1073741825,[],aN,rfl,rfl,rfl,rfl,rfl,⟨by omega,ate U.out,by simp,fC⟩⟩ ?_;rintro q e m ⟨top,T,lv,hq,f,o,G,e6,hI⟩;replace hq:=Hid.mk hq;simp only [↓pre,simprocAttr,sx];rw [bS];refine bU (fun q e m'=>∃ i b,q+i=ps.length∧e 1=v∧e 2 = .tptr 0 [aC k,aC r,aC c,aC w]∧e 5=lv∧e 6=aC top∧e 7=aC b∧e 8=aC (i:Nat)∧m'=m∧Hid (vG hs top i 0 b)) ps.length ⟨0,0,by omega,f,o,G,e6,rfl,rfl,rfl,⟨atb hs top⟩⟩ ?_;rintro q1 e m' ⟨i,b,W,f,o,G,e6,E,M,rfl,hb⟩;replace W:=Hid.mk W;by_cases J:i < ps.length
 ·have a:((i:Nat):Int) < ((ps.length:Nat):Int):=by omega
  obtain ⟨p,a0⟩:∃ p,ps[i]? = some p:=⟨_,azj J⟩
  obtain ⟨ua,ub,xa,xb,ha,c6,c4,d1⟩:=S.at_ i p a0;have X:=aeU (k:=k) (r:=r) (c:=c) (w:=w) a0;rw [Y.out] at X;have w1:=bY (n:=i) (by have:=hn.out;omega);replace a0:=Hid.mk a0;replace X:=Hid.mk X;simp only [↓pre,za,uF,nU,simprocAttr,bne,f,M,S.rd.len',a];rw [bS];refine bU (fun q e m2=>∃ A b,q+A=2∧e 1=v∧e 2 = .tptr 0 [aC k,aC r,aC c,aC w]∧e 5=lv∧e 6=aC top∧e 7=aC b∧e 8=aC (i:Nat)∧e 9=aC (A:Nat)∧m2=m'∧Hid (vG hs top i A b)) 2 ⟨0,b,by omega,f,o,G,e6,E,M,rfl,rfl,hb⟩ ?_;rintro q2 e m2 ⟨A,b,l,f,o,G,e6,E,M,e9,rfl,hb⟩;replace l:=Hid.mk l;by_cases O:A < 2
  ·have D:((A:Nat):Int) < 2:=by omega
   have w2:=bY (n:=A) (by omega);obtain ⟨u,bu,xu,z,hu,b4,hz,a5⟩:∃ u bu xu z,cells[i*2+A]? = some u∧aZ u bu.length (aL bu++xu)∧lW k r c w bu i=z∧z=(if A=0 then (lW k r c w p.1 i,lW k r c w p.2 i).1 else (lW k r c w p.1 i,lW k r c w p.2 i).2):=by
    match A,O with
    | 0,_=>exact ⟨ua,p.1,xa,_,ha,c4,rfl,rfl⟩
    | 1,_=>exact ⟨ub,p.2,xb,_,c6,d1,rfl,rfl⟩
   have d:=atd hb.out O X.out a5;have pu:=b4.plain;have s:=ahv k r c w i u bu xu b4 hm;rw [hz] at s;replace a5:=Hid.mk a5;by_cases c1:z < top
   ·by_cases c2:b < z
    ·rw [if_pos ⟨c1,c2⟩] at d;replace d:=Hid.mk d;simp only [↓pre,zam,uF,nU,simprocAttr,bne,f,o,M,e9,D,O,S.rd.addr',J,hu]
     (first | refine aH (s) (by first | rfl | simp only [aA,aD, *]) ?_ | refine aG (s) (by first | rfl | simp only [aD, *]) (by intro k;first | rfl | simp only [ *,zaa]) ?_);simp only [↓pre,zah,nU,simprocAttr,bne,f,o,G,e6,E,M,e9,c1,c2,w2]
     exact ⟨q2 - 1,by have:=l.out;omega,A+1,z,by have:=l.out;omega,rfl,rfl,⟨d.out⟩⟩
    ·rw [if_neg (fun h=>c2 h.2)] at d;replace d:=Hid.mk d;simp only [↓pre,zam,uF,nU,simprocAttr,bne,f,o,M,e9,D,O,S.rd.addr',J,hu]
     (first | refine aH (s) (by first | rfl | simp only [aA,aD, *]) ?_ | refine aG (s) (by first | rfl | simp only [aD, *]) (by intro k;first | rfl | simp only [ *,zaa]) ?_);simp only [↓pre,zah,nU,simprocAttr,bne,f,o,G,e6,E,M,e9,c1,c2,w2]
     exact ⟨q2 - 1,by have:=l.out;omega,A+1,b,by have:=l.out;omega,rfl,rfl,⟨d.out⟩⟩
   ·rw [if_neg (fun h=>c1 h.1)] at d;replace d:=Hid.mk d;simp only [↓pre,zam,uF,nU,simprocAttr,bne,f,o,M,e9,D,O,S.rd.addr',J,hu]
    (first | refine aH (s) (by first | rfl | simp only [aA,aD, *]) ?_ | refine aG (s) (by first | rfl | simp only [aD, *]) (by intro k;first | rfl | simp only [ *,zaa]) ?_);simp only [↓pre,zah,nU,simprocAttr,bne,f,o,G,e6,E,M,e9,c1,w2]
    exact ⟨q2 - 1,by have:=l.out;omega,A+1,b,by have:=l.out;omega,rfl,rfl,⟨d.out⟩⟩
  ·have D:¬ ((A:Nat):Int) < 2:=by omega
   have:A=2:=by have:=l.out;omega
   subst this;simp only [↓pre,zah,nU,simprocAttr,bne,f,o,G,e6,E,M,e9,w1];exact ⟨q1 - 1,by have:=W.out;omega,i+1,b,by have:=W.out;omega,rfl,rfl,⟨atc hb.out⟩⟩
 ·have a:¬ ((i:Nat):Int) < ((ps.length:Nat):Int):=by omega
  have a6:i=hs.length:=by have:=W.out;have:=F.out;omega
  subst a6;by_cases a3:b=0
  ·subst a3;have hT:=amU (atg hI.out.2.1 hb.out);obtain ⟨f2,b0⟩:=arJ (P:=ayS) (by kernel_rfl) hI.out.2.2.2 (fun x hx=>atl hs T x hx);simp only [↓pre,za,uF,nU,simprocAttr,bne,f,G,E,M,S.rd.len',a,b0];rw [←b9,hT]
  ·obtain ⟨hf,H,I⟩:=atf hI.out.2.1 hb.out a3;replace hf:=Hid.mk hf;replace H:=Hid.mk H;replace I:=Hid.mk I;simp only [↓pre,za,uF,nU,aM,simprocAttr,bne,aJ,f,E,M,S.rd.len',a,a3];rw [bS];obtain ⟨e0,_,d4,a9⟩:=hI.out;have c0:cI lv≠some m'.next:=by
    rcases a9.form with ⟨rfl,_⟩ | ⟨b',rfl,_,h,_⟩
    ·intro h;cases h
    ·intro h';injection h' with h';omega
   have g:∃ B,B=m'.next:=⟨_,rfl⟩
   obtain ⟨B,g⟩:=g;refine bU (fun q e m2=>∃ i cv,q+i=ps.length∧e 1=v∧e 2 = .tptr 0 [aC k,aC r,aC c,aC w]∧e 5=lv∧e 7=aC b∧e 11 = .ptr B 0∧e 12=aC (i:Nat)∧m2.at_ B=some ⟨[aC b,cv],226,.var,true⟩∧Hid (B < m2.next∧Own m2 3 1 cv (iN hs b i).length (bK (iN hs b i))∧cG .var m2 226 2 lv T.length (jD hs T)∧cI lv≠some B)) ps.length ⟨0,aN,by omega,f,o,G,E,by rw [g];rfl,rfl, ?_,⟨?_,fC, ?_,by rw [g];exact c0⟩⟩ ?_
   ·rw [g,aO,if_pos rfl];rfl
   ·rw [g,bX,bM];omega
   ·exact a9.pp _ _
   ·rintro q3 e m2 ⟨i,cv,C,f,o,G,E,a1,N,R,hJ⟩;replace C:=Hid.mk C;by_cases J:i < ps.length
    ·have a:((i:Nat):Int) < ((ps.length:Nat):Int):=by omega
     have w1:=bY (n:=i) (by have:=hn.out;omega);have s:=atk k r c w b v ps cells i S hm J hn.out;rw [Y.out] at s;have K:=amQ hs b i;have Z:=amR hs b i;replace K:=Hid.mk K;replace Z:=Hid.mk Z;simp only [↓pre,za,uF,nU,simprocAttr,bne,f,o,E,N,S.rd.len',a];cases b7:qL hs i b with
     | false =>
      rw [b7] at s K
      (first | refine aH (s) (by first | rfl | simp only [aD, *]) ?_ | refine aG (s) (by first | rfl | simp only [aA,aD, *]) (by intro k;first | rfl | simp only [ *,zaa]) ?_);simp only [↓pre,zah,nU,simprocAttr,bne,f,o,G,E,a1,N,w1,R]
      refine ⟨q3 - 1,by have:=C.out;omega,i+1,cv,by have:=C.out;omega,rfl,rfl,⟨?_⟩⟩;rw [K.out];simpa using hJ.out
     | true =>
      rw [b7] at s K;obtain ⟨b2,L,Q,a4⟩:=hJ.out
      (first | refine aH (s) (by first | rfl | simp only [aD, *]) ?_ | refine aG (s) (by first | rfl | simp only [aA,aD, *]) (by intro k;first | rfl | simp only [ *,zaa]) ?_);simp only [↓pre,zah,uF,nU,bE,simprocAttr,bne,a1,N,R]
      refine x4 (kd := .flat) (sz:=1) (y:=8) (zl:=[.int .i64 0]) (by kernel_rfl) L (by kernel_rfl) (by kernel_rfl) (by kernel_rfl) rfl mN (by rfl) (by have:=Z.out;have:=hn.out;omega) (by have:=Z.out;have:=hn.out;omega) ?_;intro e3 m3 b3 b1 V f0;have a2:=V B _ R b2 (L.ne_kind R (fun h=>by cases h));have b8:=Q.other L (fun h=>by cases h) b1 V;obtain ⟨b',rfl,e4,a⟩:=b3.sl (by omega);simp only [↓pre,za,uF,nU,simprocAttr,bne,aJ,f,o,G,E,a1,N,a2,w1];refine ⟨q3 - 1,by have:=C.out;omega,i+1,_,by have:=C.out;omega,rfl,rfl,⟨by omega, ?_,b8.put_ne a4,a4⟩⟩;rw [K.out,if_pos rfl,aAZ,acW];exact b3.put_kind a2 (fun h=>by cases h)
    ·have a:¬ ((i:Nat):Int) < ((ps.length:Nat):Int):=by omega
     have a6:i=hs.length:=by have:=C.out;have:=F.out;omega
     subst a6;obtain ⟨b2,L,Q,a4⟩:=hJ.out;obtain ⟨m4,d0,a7,c8⟩:=arK (P:=ayS) (t:=223) (el:=226) (x := .int .i64 b) (z:=[.int .i64 0,.slice none 0 0]) L rfl (by kernel_rfl) (by kernel_rfl) (by kernel_rfl) rfl;simp only [↓pre,za,uF,nU,bE,simprocAttr,bne,f,G,a1,N,S.rd.len',a,R,d0];have b5:=Q.other L (fun h=>by cases h) (Nat.le_of_eq a7.symm) (fun j k' h1 h2 h3=>by rw [c8 j h3];exact h1);refine x4 (kd := .var) (sz:=2) (y:=32) (zl:=[.int .i64 0,.slice none 0 0]) (by kernel_rfl) b5 (by kernel_rfl) (by kernel_rfl) (by kernel_rfl) rfl zQ (by rfl) (by have:=I.out;have:=H.out;omega) (by have:=I.out;have:=H.out;omega) ?_;intro c7 m5 c5 d3 c3 d2;simp only [↓pre,simprocAttr,sx,f,o,E];refine ⟨b.toNat,by have:=hq.out;have:=H.out;have:=I.out;omega,b,T++[b],c7,rfl,rfl,rfl,⟨I.out,hf.out,by rw [aAZ];have:=H.out;simp only [aAC,aAD];omega, ?_⟩⟩;rw [aAZ,ath];exact c5
def mB (hs:List (Int×Int)):List Int:=hs.flatMap fun x=>[x.1,x.2]
theorem atn (hs:List (Int×Int)):(mB hs).length=hs.length*2:=by
 induction hs with
 | nil=>rfl
 | cons a hs b=>simp only [mB,List.flatMap_cons,aAZ,aAC,aAD] at b ⊢;omega
theorem ahA:∀ (hs:List (Int×Int)) (i:Nat) (x:Int×Int),hs[i]? = some x→(mB hs)[i*2]? = some x.1∧(mB hs)[i*2+1]? = some x.2
 | [],i,x,h=>by simp at h
 | a::hs,0,x,h=>by simp at h;subst h;exact ⟨rfl,rfl⟩
 | a::hs,i+1,x,h=>by
  have b:=ahA hs i x (by simpa using h);have e:mB (a::hs)=a.1::a.2::mB hs:=rfl;rw [e,show (i+1)*2=i*2+1+1 by omega];simpa using b
def qM (l:List Int) (p:Nat):List AV:=bK (l.take p)++aBo (l.length - p) (.val (.int .i64 0))
theorem ato (l:List Int) (p:Nat) (h:p≤l.length):(qM l p).length=l.length:=by simp [qM,bK];omega
theorem atp (l:List Int) (p:Nat) (h:l[p]? = some 0):qM l (p+1)=qM l p:=by
 have a:=(ay5.1 h).1;unfold qM;rw [aA6,h];simp only [Option.toList_some,bK,aBp,aAo,aAp,azT];rw [show l.length - p=(l.length - (p+1))+1 by omega,List.replicate_succ];rfl
theorem atq (l:List Int) (p:Nat) (z:Int) (h:l[p]? = some z):cP (qM l p) p [.val (.int .i64 z)]=qM l (p+1):=by
 have b:=(ay5.1 h).1;have a:(bK (l.take p)).length=p:=by simp [bK];omega
 unfold cP qM;rw [List.take_left' a,aA6,h];rw [List.drop_append,List.drop_of_length_le (by rw [a];omega),a];simp only [Option.toList_some,bK,aBp,aAo,aAp,aBq,aAC,aAD,List.drop_replicate];rw [show l.length - p - (p+(0+1) - p)=l.length - (p+1) by omega];rfl
theorem atr (l:List Int):qM l l.length=bK l:=by simp [qM]
theorem ats (n:Nat):jF ayS 136 n=some (aBo (n*2) (.val (.int .i64 0))):=by
 have a:cE ayS 136=some 2:=by kernel_rfl
 have b:gN ayS 136=some [.int .i64 0,.int .i64 0]:=by kernel_rfl
 by_cases h:n*2=0
 ·have:n=0:=by omega
  subst this;simp [jF,a]
 ·simp only [jF,a,aAh,b,if_neg h];rw [if_pos (show [azA .i64 0,azA .i64 0].length=2 from rfl)];congr 1;apply List.ext_getElem
  ·simp
  ·intro i a b;simp only [List.getElem_map,List.getElem_range,List.getElem_replicate];have:i % 2=0∨i % 2=1:=by omega
   rcases this with e | e <;> rw [e] <;> rfl
theorem att (m:aF) (n:Nat) (e:n≤1000000):rZ ayS m 132 n n=some ⟨.sl m.next 0 n n true,m.push ⟨aBo (n*2) (.val (.int .i64 0)),136,.flat,true⟩,none⟩:=by
 have d:bZ ayS 132=some 136:=by kernel_rfl
 have c:cE ayS 136=some 2:=by kernel_rfl
 have a:lB ayS 136=some 16:=by kernel_rfl
 have b:bP ayS 136 = .flat:=by kernel_rfl
 simp only [rZ,d,c,a,b,ats,aAh];rw [if_pos (by omega)];simp [bL]
def vH (k r c w:Int) (ps:List bO):fF:=if eJ k r c w ps=0 then ⟨.tup [.sl 0 0 ps.length ps.length true,aC 0],[(136,bK (mB (gC k r c w ps)))]⟩ else ⟨.tup [aN,aC (eJ k r c w ps)],[]⟩
def acY (k r c w:Int) (ps:List bO):AV:=if eJ k r c w ps=0 then .tup [.tree ps.length ps.length (bK (mB (gC k r c w ps))) true,aC 0] else .tup [aN,aC (eJ k r c w ps)]
theorem atu (k r c w:Int) (v:AV) (ps:List bO) (cells:List AV) (hv:fV v ps cells):aR ayS 94 [aA k r c w,v] (vH k r c w ps):=by
 have hp:=hv.rd.plain;have hd:=oR k r c w;cases hm:bG k r c w with
 | false =>
  have hc:eJ k r c w ps=2:=by unfold eJ;rw [hm];rfl
  unfold vH;rw [hc,if_neg (by decide)];simp only [hm,azx,if_false] at hd;refine aX Tryz.func94 aB (h:=?_);unfold Tryz.f94;simp only [↓pre,zab,mA,simprocAttr,aA]
  (first | refine aH (hd) (by first | rfl | simp only [aA,aD, *]) ?_ | refine aG (hd) (by first | rfl | simp only [aA,aD, *]) (by intro k;first | rfl | simp only [ *,zaa]) ?_);simp only [↓pre,zab,simprocAttr,aN]
 | true =>
  have b1:=gX hm;simp only [hm,if_true] at hd;by_cases hl:(ps.length:Int)=k+r
  ·obtain ⟨N,hN⟩:∃ N:Nat,k+r=(N:Int):=⟨(k+r).toNat,by omega⟩
   have S:ps.length=N:=by omega
   have Z:N≤16:=by omega
   have b4:(mB (gC k r c w ps)).length=N*2:=by rw [atn,aeV,S]
   have b3:=att aF.empty N (by omega);have f0:aBo (N*2) (AV.val (.int .i64 0))=qM (mB (gC k r c w ps)) 0:=by simp [qM,b4,bK]
   rw [f0] at b3;generalize a3:gC k r c w ps=hs at *
   generalize P:vH k r c w ps=c6;replace a3:=Hid.mk a3;replace b1:=Hid.mk b1;replace Z:=Hid.mk Z;replace S:=Hid.mk S;replace P:=Hid.mk P;refine aX Tryz.func94 aB (h:=?_);unfold Tryz.f94;simp only [↓pre,zab,mA,simprocAttr,aA]
   (first | refine aH (hd) (by first | rfl | simp only [aA,aD, *]) ?_ | refine aG (hd) (by first | rfl | simp only [aA,aD, *]) (by intro k;first | rfl | simp only [ *,zaa]) ?_);simp only [↓pre,zae,mA,simprocAttr,hv.rd.len',hl,hN,b3]
   rw [bS];refine bU (fun q e m=>∃ i,q+i=N∧e 2 = .tptr 0 [aC k,aC r,aC c,aC w]∧e 8 = .sl 0 0 N N true∧e 30=v∧e 31=aC (N:Nat)∧e 32=aC (i:Nat)∧m.at_ 0=some ⟨qM (mB hs) (i*2),136,.flat,true⟩∧Hid (0 < m.next∧∀ j p,j < i→ps[j]? = some p→kC k r c p.1.length p.2.length=true)) N ⟨0,by omega,rfl,rfl,rfl,rfl,rfl,rfl,⟨Nat.lt_succ_self 0,fun j p h=>by omega⟩⟩ ?_;rintro q e m ⟨i,X,O,e8,H,C,B,E,hJ⟩;have K:¬ 0=m.next:=by have:=hJ.out.1;omega
   replace X:=Hid.mk X;by_cases c4:i < N
   ·have Y:((i:Nat):Int) < ((N:Nat):Int):=by omega
    have V:i < ps.length:=by have:=S.out;omega
    have a5:i < ps.length:=V;obtain ⟨p,T⟩:∃ p,ps[i]? = some p:=⟨_,azj V⟩
    obtain ⟨ua,ub,xa,xb,ha,c1,a6,b2⟩:=hv.at_ i p T;obtain ⟨ht,b7⟩:=rL ha c1;have a1:=aeU (k:=k) (r:=r) (c:=c) (w:=w) T;rw [a3.out] at a1;obtain ⟨c5,c3⟩:=ahA _ _ _ a1;have w1:=bY (n:=i) (by have:=Z.out;omega);have f1:=b6 a6;have f2:=b6 b2;have o1:=bQ a6;have o2:=bQ b2;replace T:=Hid.mk T;replace a1:=Hid.mk a1;replace a5:=Hid.mk a5;simp only [↓pre,zae,mA,aM,simprocAttr,aJ,eq_self,H,C,B,Y,hv.rd.addr',V,ht,b7,f1,f2];rw [bS];refine bU (fun q e m=>∃ f,q+f=2∧e 2 = .tptr 0 [aC k,aC r,aC c,aC w]∧e 8 = .sl 0 0 N N true∧e 9=aC (i:Nat)∧e 30=v∧e 31=aC (N:Nat)∧e 32=aC (i:Nat)∧e 37 = .agg [ua,ub]∧e 38=aC (f:Nat)∧m.at_ 0=some ⟨qM (mB hs) (i*2+f),136,.flat,true⟩∧Hid (0 < m.next∧(1≤f→eV k r c p.1.length=true)∧(2≤f→eV k r c p.2.length=true))) 2 ⟨0,by omega,O,e8,rfl,H,C,B,rfl,rfl, ?_,⟨?_,by omega,by omega⟩⟩ ?_
    ·rw [aO,if_neg K,aT,if_neg K];exact E
    ·rw [bX,bM];omega
    rintro q2 e m2 ⟨f,d,O,e8,e9,H,C,B,t,g,E,U⟩;replace d:=Hid.mk d;have K:¬ 0=m2.next:=by have:=U.out.1;omega
    by_cases L:f < 2
    ·have x:((f:Nat):Int) < 2:=by omega
     have w2:=bY (n:=f) (by omega);obtain ⟨u,A,xu,z,hu,b0,hz,G,a2⟩:∃ u A xu z,[ua,ub][f]? = some u∧aZ u A.length (aL A++xu)∧lW k r c w A i=z∧(mB hs)[i*2+f]? = some z∧A=(if f=0 then p.1 else p.2):=by
      match f,L with
      | 0,_=>exact ⟨ua,p.1,xa,_,rfl,a6,rfl,c5,rfl⟩
      | 1,_=>exact ⟨ub,p.2,xb,_,rfl,b2,rfl,c3,rfl⟩
     have ou:=bQ b0;have pu:=b0.plain;have a:=amO k r c w u A xu b0;have b5:=atq _ _ _ G;have Q:=atp (mB hs) (i*2+f);have c7:=ato (mB hs) (i*2+f) (by have:=(ay5.1 G).1;omega);replace a2:=Hid.mk a2;replace hz:=Hid.mk hz;replace G:=Hid.mk G;replace Q:=Hid.mk Q;have a4:eV k r c A.length=true→(1≤f+1→eV k r c p.1.length=true)∧(2≤f+1→eV k r c p.2.length=true):=by
      intro h;have h1:=a2.out;constructor
      ·intro _;by_cases h0:f=0
       ·rw [if_pos h0] at h1;rw [←h1];exact h
       ·exact U.out.2.1 (by omega)
      ·intro h2;rw [if_neg (by omega)] at h1;rw [←h1];exact h
     replace a4:=Hid.mk a4;cases M:eS k r c w A with
     | false =>
      have c8:z=0:=by
       rw [←hz.out];unfold lW acX gZ;rw [M];rfl
      subst c8;cases l:eV k r c A.length with
      | false =>
       have a0:pF k r c w A = .tup [nC,aV false,aC 100]:=by
        unfold eV at l;simp only [Bool.or_eq_false_iff,decide_eq_false_iff_not] at l;unfold pF;rw [M,hm,if_neg (by rintro ⟨_,h⟩;cases h),if_neg (by decide),if_neg l.1,if_neg l.2]
       have b8:dS k r c ps=false:=by
        have:kC k r c p.1.length p.2.length=false:=by
         unfold kC;have h1:=a2.out;split at h1
         ·rw [←h1,l];rfl
         ·rw [←h1,l,Bool.and_false]
        unfold dS;rw [Bool.and_eq_false_iff];right;rw [aBf];exact ⟨p,az5 T.out,by rw [this];decide⟩
       have a7:eJ k r c w ps=120:=by unfold eJ;rw [hm,b8];rfl
       have d0:c6=⟨.tup [aN,aC 120],[]⟩:=by
        rw [←P.out];unfold vH;rw [a7,if_neg (by decide)]
       rw [a0] at a;unfold nC kK at a;simp only [↓pre,zae,mA,bH,azD,simprocAttr,eq_self,O,t,g,x,L,hu]
       (first | refine aH (a) (by first | rfl | simp only [aD, *]) ?_ | refine aG (a) (by first | rfl | simp only [aA,aD, *]) (by intro k;first | rfl | simp only [ *,zaa]) ?_);simp only [↓pre,zal,mA,aM,simprocAttr,aJ,eq_self,aN]
       rw [d0];rfl
      | true =>
       have a0:pF k r c w A = .tup [nC,aV false,aC 0]:=by
        unfold eV at l;simp only [Bool.or_eq_true,decide_eq_true_eq] at l;unfold pF;rw [M,hm,if_neg (by rintro ⟨_,h⟩;cases h),if_neg (by decide)];rcases l with h | h
        ·rw [if_pos h]
        ·split
         ·rfl
         ·first | rfl | rw [if_pos h]
       obtain ⟨F,D⟩:=a4.out l;replace F:=Hid.mk F;replace D:=Hid.mk D;rw [a0] at a;unfold nC kK at a;simp only [↓pre,zae,mA,bH,azD,simprocAttr,eq_self,O,t,g,x,L,hu]
       (first | refine aH (a) (by first | rfl | simp only [aD, *]) ?_ | refine aG (a) (by first | rfl | simp only [aA,aD, *]) (by intro k;first | rfl | simp only [ *,zaa]) ?_);simp only [↓pre,zal,mA,aM,simprocAttr,aJ,eq_self,K,O,e8,e9,H,C,B,t,g,aN,w2]
       exact ⟨q2 - 1,by have:=d.out;omega,f+1,by have:=d.out;omega,rfl,by rw [←ay0,Q.out G.out];exact E,⟨by omega,F.out,D.out⟩⟩
     | true =>
      have l:eV k r c A.length=true:=by
       unfold eS at M;simp only [aAn] at M;unfold eV;rw [M.1,Bool.or_true]
      obtain ⟨F,D⟩:=a4.out l;replace F:=Hid.mk F;replace D:=Hid.mk D;have a0:pF k r c w A = .tup [(cT k r A).v,aV true,aC 0]:=by
       unfold pF;rw [if_pos ⟨hm,M⟩]
      rw [a0] at a;have o:z=if (decide ((cT k r A).ix=(i:Int)) && (decide ((cT k r A).kd=2) && (cT k r A).vec.all (fun n=>decide (n=(cT k r A).ce))))=true then (cT k r A).ce else 0:=by
       rw [←hz.out];unfold lW acX gZ;rw [M,aBh]
      have d3:(cT k r A).vec.length≤16:=by have h1:=abt A (k+r).toNat;have:=b1.out;simp only [cT];omega
      generalize cT k r A=s at *
      have b9:aZ (.tree s.vec.length s.vec.length (bK s.vec) false) s.vec.length (bK s.vec++[]):=⟨.inr (.inr ⟨_,false,by rw [aBi],ay7 _⟩)⟩
      have J:=amL _ s.vec [] 175 [.tptr 0 [.val (.int .u8 s.kd),aC s.ix,aC s.ce,aC s.st,.tree s.vec.length s.vec.length (bK s.vec) false,.tree s.data.length s.data.length (aL s.data) false]] (fun n => !decide (n=s.ce)) b9 (by omega) rfl (fun n _=>asY n s.kd s.ix s.ce s.st _ _);unfold rK.v kK at a;by_cases R:s.kd=2
      ·by_cases W:s.ix=(i:Int)
       ·cases b:s.vec.all (fun n=>decide (n=s.ce)) with
        | true =>
         have y:s.vec.any (fun n => !decide (n=s.ce))=false:=by
          rw [aBr];intro n hn;have:=aAr.1 b n hn;rw [this];decide
         have I:z=s.ce:=by rw [o,decide_eq_true W,decide_eq_true R,b];rfl
         rw [y] at J;replace o:=Hid.mk o;replace b:=Hid.mk b;replace y:=Hid.mk y;rw [I] at b5;replace I:=Hid.mk I;simp only [↓pre,zae,mA,bH,azD,simprocAttr,eq_self,O,t,g,x,L,hu];rw [R,W] at a J;have c0:i*2+f+1≤(mB hs).length:=(ay5.1 G.out).1
         (first | refine aH (a) (by first | rfl | simp only [aD, *]) ?_ | refine aG (a) (by first | rfl | simp only [aA,aD, *]) (by intro k;first | rfl | simp only [ *,zaa]) ?_);simp only [↓pre,zal,mA,aM,simprocAttr,aJ,eq_self,e9,azV];(first | refine aH (J) (by first | rfl | simp only [aA,aD, *]) ?_ | refine aG (J) (by first | rfl | simp only [aA,aD, *]) (by intro k;first | rfl | simp only [ *,zaa]) ?_);simp only [↓pre,zal,mA,bH,simprocAttr,eq_self,e8,e9]
         simp only [↓pre,zae,mA,bH,azD,simprocAttr,aJ,eq_self,K,c4,L,E,c7,c0];refine dE (by kernel_rfl) ?_;simp only [↓pre,zae,simprocAttr,eq_self,O,e8,e9,H,C,B,t,g,w2];refine ⟨q2 - 1,by have:=d.out;omega,f+1,by have:=d.out;omega,rfl, ?_,⟨by omega,F.out,D.out⟩⟩;rw [←ay0,←b5];rfl
        | false =>
         have y:s.vec.any (fun n => !decide (n=s.ce))=true:=by
          rw [aBf] at b;obtain ⟨n,hn,h⟩:=b;rw [List.any_eq_true];exact ⟨n,hn,by simpa using h⟩
         have I:z=0:=by rw [o,b];simp
         rw [y] at J;subst I;replace o:=Hid.mk o;replace b:=Hid.mk b;replace y:=Hid.mk y;simp only [↓pre,zae,mA,bH,azD,simprocAttr,eq_self,O,t,g,x,L,hu];rw [R,W] at a J
         (first | refine aH (a) (by first | rfl | simp only [aD, *]) ?_ | refine aG (a) (by first | rfl | simp only [aA,aD, *]) (by intro k;first | rfl | simp only [ *,zaa]) ?_);simp only [↓pre,zal,mA,aM,simprocAttr,aJ,eq_self,e9,azV];(first | refine aH (J) (by first | rfl | simp only [aA,aD, *]) ?_ | refine aG (J) (by first | rfl | simp only [aA,aD, *]) (by intro k;first | rfl | simp only [ *,zaa]) ?_);simp only [↓pre,zal,simprocAttr,eq_self,K,O,e8,e9,H,C,B,t,g,w2]
         exact ⟨q2 - 1,by have:=d.out;omega,f+1,by have:=d.out;omega,rfl,by rw [←ay0,Q.out G.out];exact E,⟨by omega,F.out,D.out⟩⟩
       ·have I:z=0:=by rw [o,decide_eq_false W];rfl
        subst I;replace o:=Hid.mk o;simp only [↓pre,zae,mA,bH,azD,simprocAttr,eq_self,O,t,g,x,L,hu];rw [R] at a
        (first | refine aH (a) (by first | rfl | simp only [aD, *]) ?_ | refine aG (a) (by first | rfl | simp only [aA,aD, *]) (by intro k;first | rfl | simp only [ *,zaa]) ?_);simp only [↓pre,zal,mA,aM,simprocAttr,aJ,eq_self,K,O,e8,e9,H,C,B,t,g,w2,W]
        exact ⟨q2 - 1,by have:=d.out;omega,f+1,by have:=d.out;omega,rfl,by rw [←ay0,Q.out G.out];exact E,⟨by omega,F.out,D.out⟩⟩
      ·have I:z=0:=by rw [o,decide_eq_false R];simp
       subst I;replace o:=Hid.mk o;simp only [↓pre,zae,mA,bH,azD,simprocAttr,eq_self,O,t,g,x,L,hu]
       (first | refine aH (a) (by first | rfl | simp only [aD, *]) ?_ | refine aG (a) (by first | rfl | simp only [aA,aD, *]) (by intro k;first | rfl | simp only [ *,zaa]) ?_);simp only [↓pre,zal,mA,aM,simprocAttr,aJ,eq_self,K,O,e8,e9,H,C,B,t,g,w2,R]
       exact ⟨q2 - 1,by have:=d.out;omega,f+1,by have:=d.out;omega,rfl,by rw [←ay0,Q.out G.out];exact E,⟨by omega,F.out,D.out⟩⟩
    ·have x:¬ ((f:Nat):Int) < 2:=by omega
     have:f=2:=by have:=d.out;omega
     subst this;simp only [↓pre,zab,fO,simprocAttr,eq_self,O,e8,H,C,B,g,w1];refine ⟨q - 1,by have:=X.out;omega,i+1,by have:=X.out;omega,rfl,by rw [show (i+1)*2=i*2+2 by omega];exact E,⟨U.out.1,fun j p' hj a9 => ?_⟩⟩;by_cases d1:j=i
     ·subst d1;rw [T.out] at a9;cases a9;unfold kC;rw [U.out.2.1 (by omega),U.out.2.2 (by omega)];rfl
     ·exact hJ.out.2 j p' (by omega) a9
   ·have Y:¬ ((i:Nat):Int) < ((N:Nat):Int):=by omega
    have c2:i=N:=by have:=X.out;omega
    subst c2;have d2:dS k r c ps=true:=by
     unfold dS;rw [decide_eq_true hl,aBh,aAr];intro p hp;obtain ⟨j,hj⟩:=aBg hp;have:=(ay5.1 hj).1;have:=S.out;exact hJ.out.2 j p (by omega) hj
    have a7:eJ k r c w ps=0:=by unfold eJ;rw [hm,d2];rfl
    rw [←b4,atr] at E;simp only [↓pre,zab,fO,simprocAttr,e8,C,B,Y];have k9:bP ayS 136 = .flat:=by kernel_rfl
    simp only [E,k9,aAh,if_true,List.any_nil,azx,not_true_eq_false,or_self,if_false,az3];rw [←P.out];unfold vH;rw [if_pos a7,S.out,a3.out];rfl
  ·have hr:dS k r c ps=false:=by unfold dS;rw [decide_eq_false hl];rfl
   have hc:eJ k r c w ps=120:=by unfold eJ;rw [hm,hr];rfl
   unfold vH;rw [hc,if_neg (by decide)];refine aX Tryz.func94 aB (h:=?_);unfold Tryz.f94;simp only [↓pre,zab,mA,simprocAttr,aA]
   (first | refine aH (hd) (by first | rfl | simp only [aA,aD, *]) ?_ | refine aG (hd) (by first | rfl | simp only [aA,aD, *]) (by intro k;first | rfl | simp only [ *,zaa]) ?_);simp only [↓pre,zae,mA,simprocAttr,aN,hv.rd.len',hl]
theorem amW (k r c w:Int) (v:AV) (ps:List bO) (cells:List AV) (d:fV v ps cells):aR ayS 94 [aA k r c w,v] ⟨acY k r c w ps,[]⟩:=by
 have h:=atu k r c w v ps cells d;have a:bP ayS 136 = .flat:=by kernel_rfl
 have b:=uB 1 h (by unfold vH;split <;> simp [iT,j7,aN,aC,a]);have e:fE ayS (vH k r c w ps).rows 1 (vH k r c w ps).v=acY k r c w ps:=by
  unfold vH acY;split <;> simp [fE,iD,aN,aC,a]
 rw [e] at b;exact b
def aac (el:TypeId) (n:Nat) (cells:List AV) (e:Int):fF:=⟨.tup [(fU el n cells).v,aC e],(fU el n cells).rows⟩
theorem atv {f:FuncId} {args:List AV} {el:TypeId} {n:Nat} {cells:List AV} {e:Int} (a:bP ayS el = .flat) (h:aR ayS f args (aac el n cells e)):aR ayS f args ⟨.tup [bD n cells,aC e],[]⟩:=by
 have b:=uB 1 h (by unfold aac fU;split <;> simp [iT,j7,aN,aC,a]);have c:fE ayS (aac el n cells e).rows 1 (aac el n cells e).v = .tup [bD n cells,aC e]:=by
  unfold aac fU bD;split <;> simp [fE,iD,aN,aC,a]
 rw [c] at b;exact b
theorem amX {k r c w:Int} {ps:List bO} (h:eJ k r c w ps=0):bG k r c w=true∧dS k r c ps=true∧(ps.length:Int)=k+r∧ps.length≤16:=by
 unfold eJ at h;cases b:bG k r c w with
 | false=>rw [b] at h;simp at h
 | true =>
  rw [b] at h;cases a:dS k r c ps with
  | false=>rw [a] at h;simp at h
  | true =>
   have d:=gX b;have:(ps.length:Int)=k+r:=by
    unfold dS at a;simp only [aAn,decide_eq_true_eq] at a;exact a.1
   exact ⟨rfl,rfl,this,by omega⟩
abbrev jK:=List (Int×List Int)
def kN (E:jK) (A:List AV):List (Value×AV):=List.zipWith (fun e a=>(azA .i64 e.1,a)) E A
def nV (v:Int):jK→Option Nat
 | []=>none
 | e::E=>if v=e.1 then some 0 else (nV v E).map (·+1)
theorem aeW (v:Int):∀ (E:jK) (A:List AV),A.length=E.length→tU (.int .i64) (.int .i64 v) (kN E A)=some (nV v E)
 | [],A,h=>by cases A <;> rfl
 | e::E,[],h=>by simp at h
 | e::E,a::A,h=>by
  have f:=aeW v E A (by simpa using h);have c:kN (e::E) (a::A)=(azA .i64 e.1,a)::kN E A:=rfl;rw [c];unfold tU nV;by_cases b:v=e.1
  ·simp [Instr.sameNow,b]
  ·have d:(v == e.1)=false:=by simpa using b
   simp [Instr.sameNow,b,f,d]
theorem abv {v:Int}:∀ {E:jK} {j:Nat},nV v E=some j→∃ e,E[j]? = some e∧e.1=v
 | [],j,h=>by simp [nV] at h
 | e::E,j,h=>by
  unfold nV at h;split at h
  ·rename_i b;cases h;exact ⟨e,rfl,b.symm⟩
  ·obtain ⟨i,hi,rfl⟩:=ayR h;obtain ⟨e',c,a⟩:=abv hi;exact ⟨e',by simpa using c,a⟩
theorem amY {v:Int}:∀ {E:jK},nV v E=none→∀ e∈E,e.1≠v
 | [],_,e,h=>by cases h
 | e::E,h,e',a=>by
  unfold nV at h;split at h
  ·cases h
  ·rename_i c;rw [Option.map_eq_none_iff] at h;rcases az4.1 a with rfl | a
   ·exact fun b=>c b.symm
   ·exact amY h e' a
def qN (v i:Int) (E:jK):jK:=match nV v E with
 | some j=>E.set j (v,((E[j]?).map (·.2)).getD []++[i])
 | none=>E++[(v,[i])]
def kO (hs:List (Int×Int)) (v:Int) (i a:Nat):List Int:=iN hs v i++(match hs[i]? with
 | some x=>if (1≤a∧x.1=v)∨(2≤a∧x.2=v) then [(i:Int)] else []
 | none=>[])
structure EI (hs:List (Int×Int)) (i kk:Nat) (E:jK):Prop where
 nd:(E.map (·.1)).Nodup
 is:∀ e∈E,0 < e.1∧e.2=kO hs e.1 i kk∧e.2≠[]
 all:∀ v,0 < v→kO hs v i kk≠[]→∃ e∈E,e.1=v
theorem atw (hs:List (Int×Int)):EI hs 0 0 []:=⟨List.nodup_nil,fun e h=>(by cases h),fun v b a=>by
 exfalso;apply a;unfold kO;have:iN hs v 0=[]:=rfl;rw [this];cases h:hs[0]? with
 | none=>rfl
 | some x=>simp⟩
theorem amZ {hs:List (Int×Int)} {v:Int} {i:Nat} (hi:i < hs.length):kO hs v i 2=kO hs v (i+1) 0:=by
 have a:kO hs v (i+1) 0=iN hs v (i+1):=by
  unfold kO;cases h:hs[i+1]? with
  | none=>simp
  | some x=>simp
 rw [a,amQ];unfold kO qL;rw [azj hi];simp
theorem atx {hs:List (Int×Int)} {i:Nat} {E:jK} (hi:i < hs.length) (h:EI hs i 2 E):EI hs (i+1) 0 E :=
 ⟨h.nd,fun e a=>by rw [←amZ hi];exact h.is e a,fun v c b=>h.all v c (by rw [amZ hi];exact b)⟩
theorem am0 {hs:List (Int×Int)} {i a:Nat} {E:jK} {x:Int×Int} (g:hs[i]? = some x) (h:EI hs i a E) (j:a < 2) (b:∀ v,0 < v→kO hs v i (a+1)=kO hs v i a):EI hs i (a+1) E :=
 ⟨h.nd,fun e d=>by have:=h.is e d;exact ⟨this.1,by rw [b _ this.1];exact this.2.1,this.2.2⟩,fun v c f=>h.all v c (by rw [←b v c];exact f)⟩
theorem am1 {hs:List (Int×Int)} {i r:Nat} {E:jK} {z:Int} (h:EI hs i r E) (F:0 < z) (J:kO hs z i (r+1)=kO hs z i r++[(i:Int)]) (B:∀ v,v≠z→kO hs v i (r+1)=kO hs v i r):EI hs i (r+1) (qN z i E):=by
 unfold qN;cases H:nV z E with
 | some j =>
  obtain ⟨e,p,d⟩:=abv H;have o:=(ay5.1 p).1;have u:=az5 p;have s:(E.set j (z,((E[j]?).map (·.2)).getD []++[(i:Int)])).map (·.1)=E.map (·.1):=by
   rw [List.map_set];apply aAf;intro k;rw [aAk];split
   ·rename_i g;subst g;have D:E[j]=e:=(ay5.1 p).2;simp [o,D,d]
   ·rfl
  refine ⟨by simp only;rw [s];exact h.nd,fun e' c => ?_,fun v C m => ?_⟩
  ·simp only at c;obtain ⟨k,g⟩:=aBg c;rw [aAk] at g;split at g
   ·rename_i n;subst n
    first | rw [if_pos o] at g | skip
    cases g;rw [p];simp only [az3,aAB];have:=h.is e u;refine ⟨F, ?_,by simp⟩;rw [this.2.1,d,J]
   ·rename_i n;have N:=az5 g;have:=h.is e' N;have m:e'.1≠z:=by
     intro G;obtain ⟨x,w⟩:=ay5.1 g;obtain ⟨_,A⟩:=ay5.1 p;have I:=aBs.1 h.nd;rcases Nat.lt_trichotomy j k with l | l | l
     ·have:=I j k (by simpa using o) (by simpa using x) l;simp [w,A,d,G] at this
     ·exact n l
     ·have:=I k j (by simpa using x) (by simpa using o) l;simp [w,A,d,G] at this
    exact ⟨this.1,by rw [B _ m];exact this.2.1,this.2.2⟩
  ·simp only;by_cases f:v=z
   ·subst f;exact ⟨_,az5 (i:=j) (by rw [aAk];simp [o];rfl),rfl⟩
   ·obtain ⟨e',c,q⟩:=h.all v C (by rw [←B v f];exact m);refine ⟨e', ?_,q⟩;obtain ⟨k,g⟩:=aBg c;have n:j≠k:=by
     rintro rfl;rw [p] at g;cases g;exact f (q.symm.trans d)
    exact az5 (i:=k) (by rw [aAk,if_neg n];exact g)
 | none =>
  have t:=amY H;have y:kO hs z i r=[]:=by
   by_cases L:kO hs z i r=[]
   ·exact L
   ·obtain ⟨e,p,d⟩:=h.all z F L;exact absurd d (t e p)
  refine ⟨?_,fun e' c => ?_,fun v C m => ?_⟩
  ·simp only [aBp,aAo,aAp];rw [aBt];refine ⟨h.nd,by simp,fun a M b K => ?_⟩;simp at K;subst K;obtain ⟨e,p,rfl⟩:=azm.1 M;exact t e p
  ·rcases aBm.1 c with c | c
   ·have:=h.is e' c;exact ⟨this.1,by rw [B _ (t e' c)];exact this.2.1,this.2.2⟩
   ·simp at c;subst c;exact ⟨F,by simp only;rw [J,y];rfl,by simp⟩
  ·by_cases f:v=z
   ·subst f;exact ⟨(v,[(i:Int)]),by simp,rfl⟩
   ·obtain ⟨e',c,q⟩:=h.all v C (by rw [←B v f];exact m);exact ⟨e',List.mem_append_left _ c,q⟩
theorem aty {hs:List (Int×Int)} {i c:Nat} {E:jK} {x:Int×Int} {z:Int} (g:hs[i]? = some x) (h:EI hs i c E) (j:c < 2) (e:z=if c=0 then x.1 else x.2):EI hs i (c+1) (if 0 < z∧(c=0∨z≠x.1) then qN z i E else E):=by
 have a:∀ v k,kO hs v i k=iN hs v i++(if (1≤k∧x.1=v)∨(2≤k∧x.2=v) then [(i:Int)] else []):=fun v k=>by unfold kO;rw [g]
 have f:c=0∨c=1:=by omega
 rcases f with rfl | rfl
 ·simp only [if_true] at e;subst e;by_cases b:0 < x.1
  ·rw [if_pos ⟨b,.inl rfl⟩];refine am1 h b ?_ fun v d => ?_
   ·rw [a,a];simp
   ·rw [a,a];have:¬ x.1=v:=fun h=>d h.symm
    simp [this]
  ·rw [if_neg (fun h=>b h.1)];refine am0 g h j fun v d => ?_
   rw [a,a];have:¬ x.1=v:=by omega
   simp [this]
 ·simp only [aBj,if_false,false_or] at e ⊢;subst e;by_cases b:0 < x.2∧x.2≠x.1
  ·rw [if_pos b];refine am1 h b.1 ?_ fun v d => ?_
   ·rw [a,a];have:¬ x.1=x.2:=fun h=>b.2 h.symm
    simp [this]
   ·rw [a,a];have:¬ x.2=v:=fun h=>d h.symm
    simp [this]
  ·rw [if_neg b];refine am0 g h j fun v d => ?_
   rw [a,a];by_cases l:x.1=v
   ·simp [l]
   ·have:¬ x.2=v:=by omega
    simp [l,this]
structure lX (m:aF) (g:Nat) (E:jK) (A:List AV):Prop where
 mp:m.mm.maps g=some (kN E A)
 len:A.length=E.length
 own:∀ (j:Nat) (e:Int×List Int) (a:AV),E[j]? = some e→A[j]? = some a→Own m 3 1 a e.2.length (bK e.2)
 apart:∀ (i j:Nat) (a b:AV) (x:Nat),A[i]? = some a→A[j]? = some b→cI a=some x→cI b=some x→i=j
def uH (E:jK) (A:List AV) (v:Int):AV:=match nV v E with
 | some j=>A.getD j aN
 | none=>aN
def uI (E:jK) (v:Int):List Int:=match nV v E with
 | some j=>((E[j]?).map (·.2)).getD []
 | none=>[]
def wQ (E:jK) (A:List AV) (v:Int) (a:AV):List AV:=match nV v E with
 | some j=>A.set j a
 | none=>A++[a]
theorem aeX:xQ ayS 331=some (.int .i64,aN):=by kernel_rfl
theorem acZ {E:jK} {A:List AV} (j:Nat):(kN E A)[j]? = (E[j]?).bind fun e=>(A[j]?).map fun a=>(azA .i64 e.1,a):=by
 unfold kN;rw [List.getElem?_zipWith];cases E[j]? <;> cases A[j]? <;> rfl
theorem lX.look {m:aF} {g:Nat} {E:jK} {A:List AV} (h:lX m g E A) (v:Int):vW ayS m 331 (.val (.map (some g))) (.val (.int .i64 v))=some (uH E A v):=by
 refine aqY ?_;simp only [aaI,aeX,rA,h.mp,i6,aAh,az3,aeW v E A h.len];unfold uH;cases c:nV v E with
 | none=>rfl
 | some j =>
  obtain ⟨e,b,_⟩:=abv c;have f:=(ay5.1 b).1;have a:j < A.length:=by rw [h.len];exact f
  have d:A[j]? = some A[j]:=azj a;simp only [acZ,b,d,aAh,az3,azp,aAB]
theorem lX.own_look {m:aF} {g:Nat} {E:jK} {A:List AV} (h:lX m g E A) (v:Int):Own m 3 1 (uH E A v) (uI E v).length (bK (uI E v)):=by
 unfold uH uI;cases d:nV v E with
 | none=>exact fC
 | some j =>
  obtain ⟨e,b,_⟩:=abv d;have f:=(ay5.1 b).1;have a:j < A.length:=by rw [h.len];exact f
  have c:A[j]? = some A[j]:=azj a;have:=h.own j e _ b c;simpa only [b,az3,aAB,azp,c] using this
theorem lX.upd {m m':aF} {g:Nat} {E:jK} {A:List AV} (h:lX m g E A) (v i:Int) {a:AV} (hn:m.next≤m'.next) (o:∀ j k,m.at_ j=some k→j < m.next→cI (uH E A v)≠some j→m'.at_ j=some k) (t:∀ j,cI a=some j→j=m.next∨cI (uH E A v)=some j) (Y:m'.mm=m.mm) (W:Own m' 3 1 a ((uI E v).length+1) (bK (uI E v)++[aC i])) :
 tW ayS m' 331 (.val (.map (some g))) (.val (.int .i64 v)) a=some ⟨eN,m'.setM (m'.mm.set g (kN (qN v i E) (wQ E A v a))),none⟩∧lX (m'.setM (m'.mm.set g (kN (qN v i E) (wQ E A v a)))) g (qN v i E) (wQ E A v a):=by
 have R:m'.mm.maps g=some (kN E A):=by rw [Y];exact h.mp
 have a3:(m'.setM (m'.mm.set g (kN (qN v i E) (wQ E A v a)))).mm.maps g=some (kN (qN v i E) (wQ E A v a)):=by simp [aF.setM,Maps.set]
 have p:∀ (j:Nat) (e:Int×List Int) (b:AV),E[j]? = some e→A[j]? = some b→(∀ x,cI b=some x→cI (uH E A v)≠some x)→Own m' 3 1 b e.2.length (bK e.2):=fun j e b q n C=>by
  have:=h.own j e b q n;refine this.keep hn fun x k d z=>o x k z ?_ (C x d)
  rcases this.form with ⟨rfl,_⟩ | ⟨y,rfl,_,r,_⟩
  ·cases d
  ·injection d with d;omega
 have r:∀ (j:Nat) (b:AV) (x:Nat),A[j]? = some b→cI b=some x→x < m.next:=fun j b x n C=>by
  have O:=(ay5.1 n).1;have a1:j < E.length:=by rw [←h.len];exact O
  rcases (h.own j E[j] b (azj a1) n).form with ⟨rfl,_⟩ | ⟨y,rfl,_,r,_⟩
  ·cases C
  ·injection C with C;omega
 cases u:nV v E with
 | none =>
  have hL:uH E A v=aN:=by unfold uH;rw [u]
  have P:uI E v=[]:=by unfold uI;rw [u]
  have K:wQ E A v a=A++[a]:=by unfold wQ;rw [u]
  have L:qN v i E=E++[(v,[i])]:=by unfold qN;rw [u]
  rw [hL] at t p o;rw [P] at W;have T:∀ x,cI a=some x→x=m.next:=fun x C=>by
   rcases t x C with h | h
   ·exact h
   ·cases h
  rw [K,L] at *
  have hz:kN (E++[(v,[i])]) (A++[a])=kN E A++[(azA .i64 v,a)]:=by
   unfold kN;rw [List.zipWith_append (by rw [h.len])];rfl
  refine ⟨?_,by simp [aF.setM,Maps.set],by simp [h.len],fun j e b q n => ?_,fun G j F y x I M l d => ?_⟩
  ·refine ajz ?_;simp only [xR,aeX,rA,R,i6,aAh,az3,aeW v E A h.len,u,hz];rfl
  ·by_cases V:j < E.length
   ·rw [azd V] at q;rw [azd (by rw [h.len];exact V)] at n;exact (p j e b q n (fun x _ h=>by cases h)).setM _
   ·rw [aze (by omega)] at q;rw [aze (by rw [h.len];omega)] at n;have U:j - E.length=0:=by
     have:=(ay5.1 q).1;simp at this;omega
    have Z:j - A.length=0:=by rw [h.len];exact U
    rw [U] at q;rw [Z] at n;cases q;cases n;exact W.setM _
  ·have w:∀ (k:Nat) (c:AV),(A++[a])[k]? = some c→A[k]? = some c∨(k=A.length∧c=a):=fun k c s=>by
    by_cases z:k < A.length
    ·rw [azd z] at s;exact .inl s
    ·rw [aze (by omega)] at s;have:=(ay5.1 s).1;simp at this;have a2:k - A.length=0:=by omega
     rw [a2] at s;cases s;exact .inr ⟨by omega,rfl⟩
   rcases w G F I with H | ⟨H,rfl⟩ <;> rcases w j y M with B | ⟨B,rfl⟩
   ·exact h.apart G j F y x H B l d
   ·have:=r G F x H l;have:=T x d;omega
   ·have:=r j y x B d;have:=T x l;omega
   ·omega
 | some f =>
  obtain ⟨S,N,a4⟩:=abv u;have O:=(ay5.1 N).1;have a0:f < A.length:=by rw [h.len];exact O
  have D:A[f]? = some A[f]:=azj a0;have hL:uH E A v=A[f]:=by unfold uH;simp only [u,azp,D,aAB]
  have P:uI E v=S.2:=by unfold uI;simp only [u,N,az3,aAB]
  have K:wQ E A v a=A.set f a:=by unfold wQ;rw [u]
  have L:qN v i E=E.set f (v,S.2++[i]):=by unfold qN;simp only [u,N,az3,aAB]
  rw [hL] at t p o;rw [P] at W;rw [K,L] at *
  have hz:kN (E.set f (v,S.2++[i])) (A.set f a)=(kN E A).set f (azA .i64 v,a):=by
   apply aAf;intro k;rw [acZ,aAk,aAk,aAk,acZ];by_cases z:f=k
   ·subst z;have X:f < (kN E A).length:=by unfold kN;rw [List.length_zipWith];omega
    simp [O,h.len,X]
   ·simp [z]
  refine ⟨?_,by simp [aF.setM,Maps.set],by simp [h.len],fun j e b q n => ?_,fun G j F y x I M l d => ?_⟩
  ·refine ajz ?_;simp only [xR,aeX,rA,R,i6,aAh,az3,aeW v E A h.len,u,hz];rfl
  ·rw [aAk] at q n;by_cases J:f=j
   ·subst J;simp [O] at q;simp [h.len,O] at n;subst q;subst n;have:Own m' 3 1 a (S.2++[i]).length (bK (S.2++[i])):=by
     rw [aAZ,acW];exact W
    exact this.setM _
   ·rw [if_neg J] at q n;refine (p j e b q n (fun x C B => ?_)).setM _;exact J (h.apart f j _ b x D n B C)
  ·have w:∀ (k:Nat) (c:AV),(A.set f a)[k]? = some c→(k≠f∧A[k]? = some c)∨(k=f∧c=a):=fun k c s=>by
    rw [aAk] at s;by_cases z:f=k
    ·subst z;simp [h.len,O] at s;exact .inr ⟨rfl,s.symm⟩
    ·rw [if_neg z] at s;exact .inl ⟨fun h=>z h.symm,s⟩
   rcases w G F I with ⟨h0,H⟩ | ⟨H,rfl⟩ <;> rcases w j y M with ⟨X,B⟩ | ⟨B,rfl⟩
   ·exact h.apart G j F y x H B l d
   ·exfalso;rcases t x d with Q | Q
    ·have:=r G F x H l;omega
    ·exact h0 (h.apart G f F _ x H D l Q)
   ·exfalso;rcases t x l with Q | Q
    ·have:=r j y x B d;omega
    ·exact X (h.apart j f y _ x B D d Q)
   ·omega
def lH (L:List (Int×AV)):List AV:=L.flatMap fun x=>[aC x.1,x.2]
theorem atz (a b:List (Int×AV)):lH (a++b)=lH a++lH b:=by simp [lH]
def wR (x:Int×AV):List (Int×AV)→List (Int×AV)
 | []=>[x]
 | y::l=>if y.1 < x.1 then x::y::l else y::wR x l
def lY (L:List (Int×AV)):List (Int×AV):=L.foldr wR []
theorem ahB (x:Int×AV):∀ l,(wR x l).Perm (x::l)
 | [] => .refl _
 | y::l=>by
  unfold wR;split
  ·exact .refl _
  ·exact ((ahB x l).cons y).trans (.swap x y l)
theorem yH:∀ L,(lY L).Perm L
 | [] => .refl _
 | x::L=>(ahB x (lY L)).trans ((yH L).cons x)
theorem am2 (x:Int×AV):∀ l,l.Pairwise (fun a b=>b.1 < a.1)→(∀ y∈l,y.1≠x.1)→(wR x l).Pairwise (fun a b=>b.1 < a.1)
 | [],_,_=>aBk _ _
 | y::l,h,hn=>by
  unfold wR;rw [aBn] at h;split
  ·rename_i d;rw [aBn];refine ⟨fun z c => ?_,aBn.2 h⟩;rcases az4.1 c with rfl | c
   ·exact d
   ·have:=h.1 z c;omega
  ·rename_i d;rw [aBn];refine ⟨fun z c => ?_,am2 x l h.2 fun z c=>hn z (by simp [c])⟩;rw [(ahB x l).mem_iff,az4] at c;rcases c with rfl | c
   ·have:=hn y (by simp);omega
   ·exact h.1 z c
theorem ahC:∀ L:List (Int×AV),(L.map (·.1)).Nodup→(lY L).Pairwise (fun a b=>b.1 < a.1)
 | [],_ => .nil
 | x::L,h=>by
  simp only [aAo,List.nodup_cons] at h;refine am2 x _ (ahC L h.2) fun y c => ?_
  have c:y∈lY L:=c;rw [(yH L).mem_iff] at c;intro e;exact h.1 (azm.2 ⟨y,c,e⟩)
abbrev mR:=Int×Nat×List Int
def mC (x:mR):Int×AV:=(x.1,.sl x.2.1 0 x.2.2.length x.2.2.length false)
def kP:Nat→List mR→List AV
 | _,[]=>[]
 | n,x::X=>aC x.1 :: .sl n 0 x.2.2.length x.2.2.length false::kP (n+1) X
def nW (X:List mR):List (TypeId×List AV):=X.map fun x=>(3,bK x.2.2)
theorem am3 (m:aF) (k:Nat):∀ (X:List mR) (a:List (Nat×Nat)) (rows:List (TypeId×List AV)),(∀ x∈X,m.at_ x.2.1=some ⟨bK x.2.2,3,.flat,true⟩)→(X.map (·.2.1)).Nodup→(∀ x∈X,∀ i∈a,i.1≠x.2.1) →
 gP ayS m k a rows (lH (X.map mC))=some (kP rows.length X,a++X.map (fun x=>(x.2.1,0)),rows++nW X)
 | [],a,rows,_,_,_=>by
  have:lH (([]:List mR).map mC)=[]:=rfl;rw [this];cases k <;> (unfold gP;simp [kP,nW])
 | x::X,a,rows,h1,h2,h3=>by
  have h:bP ayS 3 = .flat:=by kernel_rfl
  simp only [aAo,List.nodup_cons] at h2;have e:lH ((x::X).map mC)=aC x.1 :: .sl x.2.1 0 x.2.2.length x.2.2.length false::lH (X.map mC):=rfl;have j:=h1 x (by simp);have b:a.any (fun i=>i.1 == x.2.1)=false:=by
   rw [aBr];intro i hi;simpa using h3 x (by simp) i hi
  have g:=am3 m k X (a++[(x.2.1,0)]) (rows++[(3,bK x.2.2)]) (fun y d=>h1 y (by simp [d])) h2.2 (fun y d i hi=>by
   rcases aBm.1 hi with hi | hi
   ·exact h3 y (by simp [d]) i hi
   ·simp at hi;subst hi;intro e;exact h2.1 (azm.2 ⟨y,d,e.symm⟩))
  have l:canon ayS m k a rows (aC x.1)=some (aC x.1,a,rows):=aeb _ m k a rows;have hs:canon ayS m k a rows (.sl x.2.1 0 x.2.2.length x.2.2.length false)=some (.sl rows.length 0 x.2.2.length x.2.2.length false,a++[(x.2.1,0)],rows++[(3,bK x.2.2)]):=by
   cases k <;> (unfold canon;simp only [j,b,h,aAh,if_true,aBu,azx,ne_eq,not_true_eq_false,or_self,if_false])
  rw [e];have f:∀ (c:AV) (cs:List AV) (i:List (Nat×Nat)) (r:List (TypeId×List AV)),gP ayS m k i r (c::cs)=(canon ayS m k i r c).bind fun r=>(gP ayS m k r.2.1 r.2.2 cs).map fun s=>(r.1::s.1,s.2):=by
   intro c cs i r;cases k <;> (rw [gP])
  rw [f,l,aAh];simp only;rw [f,hs,aAh];simp only;rw [g];simp [kP,nW,azT]
theorem am4 {P:Program} {rows:List (TypeId×List AV)} {d:Nat} {c:AV} {cs:List AV}:iD P rows d (c::cs)=fE P rows d c::iD P rows d cs:=by
 cases d <;> (rw [iD])
theorem am5 {P:Program} {rows:List (TypeId×List AV)} {d:Nat} {c:AV} {cs:List AV}:j7 P rows d (c::cs)=(iT P rows d c && j7 P rows d cs):=by
 cases d <;> (rw [j7])
theorem am6 (a:List (TypeId×List AV)) (d:Nat):∀ (X:List mR) (n:Nat),(∀ j x,X[j]? = some x→a[n+j]? = some (3,bK x.2.2))→iD ayS a d (kP n X)=X.flatMap (fun x=>[aC x.1,.tree x.2.2.length x.2.2.length (bK x.2.2) false])∧j7 ayS a d (kP n X)=true
 | [],n,_=>by
  cases d <;> (unfold kP iD j7;exact ⟨rfl,rfl⟩)
 | x::X,n,h=>by
  have e:bP ayS 3 = .flat:=by kernel_rfl
  have c:=am6 a d X (n+1) fun j y i=>by
   have:=h (j+1) y (by simpa using i);rw [←this];congr 1;omega
  have b:=h 0 x rfl;rw [Nat.add_zero] at b;have f:a.getD n (0,[])=(3,bK x.2.2):=by rw [azp,b];rfl
  have m:fE ayS a d (aC x.1)=aC x.1:=by cases d <;> (unfold aC fE;rfl)
  have g:fE ayS a d (.sl n 0 x.2.2.length x.2.2.length false) = .tree x.2.2.length x.2.2.length (bK x.2.2) false:=by
   cases d <;> (unfold fE;simp only [f,e,if_true,aBu])
  have k:iT ayS a d (aC x.1)=true:=by cases d <;> (unfold aC iT;rfl)
  have l:iT ayS a d (.sl n 0 x.2.2.length x.2.2.length false)=true:=by
   cases d <;> (unfold iT;simp [b,e])
  constructor
  ·have:iD ayS a d (kP n (x::X))=fE ayS a d (aC x.1)::fE ayS a d (.sl n 0 x.2.2.length x.2.2.length false)::iD ayS a d (kP (n+1) X):=by
    show iD ayS a d (aC x.1 :: .sl n 0 x.2.2.length x.2.2.length false::kP (n+1) X)=_;rw [am4,am4]
   rw [this,m,g,c.1];rfl
  ·have:j7 ayS a d (kP n (x::X))=(iT ayS a d (aC x.1) && (iT ayS a d (.sl n 0 x.2.2.length x.2.2.length false) && j7 ayS a d (kP (n+1) X))):=by
    show j7 ayS a d (aC x.1 :: .sl n 0 x.2.2.length x.2.2.length false::kP (n+1) X)=_;rw [am5,am5]
   rw [this,k,l,c.2];rfl
def abw (x:mR):List mR→List mR
 | []=>[x]
 | y::l=>if y.1 < x.1 then x::y::l else y::abw x l
def aad (L:List mR):List mR:=L.foldr abw []
theorem am7 (x:mR):∀ l:List mR,wR (mC x) (l.map mC)=(abw x l).map mC
 | []=>rfl
 | y::l=>by
  have a:=am7 x l;unfold abw;show (if (mC y).1 < (mC x).1 then _ else mC y::wR (mC x) (l.map mC))=_;rw [a];show (if y.1 < x.1 then _ else _)=_;split <;> rfl
theorem ahD:∀ L:List mR,lY (L.map mC)=(aad L).map mC
 | []=>rfl
 | x::L=>by
  have a:=ahD L;show wR (mC x) (lY (L.map mC))=_;rw [a,am7];rfl
theorem am8 (x:mR):∀ l,(abw x l).Perm (x::l)
 | [] => .refl _
 | y::l=>by
  unfold abw;split
  ·exact .refl _
  ·exact ((am8 x l).cons y).trans (.swap x y l)
theorem am9:∀ L,(aad L).Perm L
 | [] => .refl _
 | x::L=>(am8 x (aad L)).trans ((am9 L).cons x)
def slB:AV→Nat
 | .sl b _ _ _ _=>b
 | _=>0
def trip (E:jK) (A:List AV) (j:Nat):mR:=((E.getD j (0,[])).1,slB (A.getD j aN),(E.getD j (0,[])).2)
theorem atA {m:aF} {g:Nat} {E:jK} {A:List AV} {hs:List (Int×Int)} {N:Nat} {S:List Nat} (T:lX m g E A) (O:EI hs N 0 E) (hN:hs.length=N) (H:S.Nodup) (k:∀ j∈S,j < E.length) (F:∀ j,j < E.length→j∈S) :
 ((S.map fun j=>((E.getD j (0,[])).1,A.getD j aN)).map (·.1)).Nodup∧(∀ x∈S.map fun j=>((E.getD j (0,[])).1,A.getD j aN),d5 x.2=true)∧∃ X:List mR,lY (S.map fun j=>((E.getD j (0,[])).1,A.getD j aN))=X.map mC∧(∀ x∈X,m.at_ x.2.1=some ⟨bK x.2.2,3,.flat,true⟩∧x.2.1 < m.next)∧(X.map (·.2.1)).Nodup∧X.map (fun x=>(x.1,x.2.2))=(gS hs).map (fun v=>(v,iN hs v N)):=by
 have t:∀ j,j < E.length→∃ q b,E[j]? = some q∧A[j]? = some (.sl b 0 q.2.length q.2.length false)∧m.at_ b=some ⟨bK q.2,3,.flat,true⟩∧b < m.next∧0 < q.1∧q.2=iN hs q.1 N∧q.2≠[]:=by
  intro j l;have D:j < A.length:=by rw [T.len];exact l
  have n:E[j]? = some E[j]:=azj l;have hi:=O.is _ (az5 n);have U:kO hs E[j].1 N 0=iN hs E[j].1 N:=by
   unfold kO;rw [List.getElem?_eq_none (by omega)];simp
  rw [U] at hi;obtain ⟨b,G,o,M⟩:=(T.own j _ _ n (azj D)).sl (List.length_pos_iff.2 hi.2.2);exact ⟨E[j],b,n,by rw [azj D,G],o,M,hi.1,hi.2.1,hi.2.2⟩
 have K:∀ j,j < E.length→((E.getD j (0,[])).1,A.getD j aN)=mC (trip E A j):=by
  intro j l;obtain ⟨q,b,r,o,_⟩:=t j l;simp only [trip,mC,azp,r,o,aAB,slB]
 have Q:(S.map fun j=>((E.getD j (0,[])).1,A.getD j aN))=(S.map (trip E A)).map mC:=by
  rw [aBv];exact aAt fun j l=>K j (k j l)
 have p:((S.map fun j=>((E.getD j (0,[])).1,A.getD j aN)).map (·.1)).Nodup:=by
  rw [aBv];refine aBw.2 (H.imp_of_mem fun {a b} R G z n => ?_);have r:=k a R;have o:=k b G;simp only [Function.comp,azp,azj r,azj o,aAB] at n;have Z:=aBs.1 O.nd;rcases Nat.lt_trichotomy a b with f | f | f
  ·exact Z a b (by simpa using r) (by simpa using o) f (by simpa using n)
  ·exact z f
  ·exact Z b a (by simpa using o) (by simpa using r) f (by simpa using n.symm)
 have u:=ahC _ p;have d:=am9 (S.map (trip E A));have hX:∀ x∈aad (S.map (trip E A)),∃ j,j < E.length∧x=trip E A j:=by
  intro x h;rw [d.mem_iff,azm] at h;obtain ⟨j,l,rfl⟩:=h;exact ⟨j,k j l,rfl⟩
 have s:∀ x∈aad (S.map (trip E A)),m.at_ x.2.1=some ⟨bK x.2.2,3,.flat,true⟩∧x.2.1 < m.next∧0 < x.1∧x.2.2=iN hs x.1 N∧x.2.2≠[]:=by
  intro x h;obtain ⟨j,l,rfl⟩:=hX x h;obtain ⟨q,b,r,o,M,h4,J,P,I⟩:=t j l;simp only [trip,azp,r,o,aAB,slB];exact ⟨M,h4,J,P,I⟩
 refine ⟨p,fun x h => ?_,aad (S.map (trip E A)),by rw [Q,ahD],fun x h=>⟨(s x h).1,(s x h).2.1⟩, ?_, ?_⟩
 ·rw [Q,azm] at h;obtain ⟨y,_,rfl⟩:=h;rfl
 ·refine (d.map (·.2.1)).nodup_iff.2 ?_;rw [aBv];refine aBw.2 (H.imp_of_mem fun {a b} R G z n => ?_);obtain ⟨q,b1,r,o,_⟩:=t a (k a R);obtain ⟨a1,b2,a0,C,_⟩:=t b (k b G);simp only [Function.comp,trip,azp,o,C,aAB,slB] at n;exact z (T.apart a b _ _ b1 o C rfl (by rw [n];rfl))
 ·have w:(aad (S.map (trip E A))).map (·.1)=gS hs:=by
   refine amU ⟨?_,fun v => ?_⟩
   ·rw [Q,ahD] at u;rw [aBw] at u ⊢;exact u
   ·constructor
    ·intro hv;obtain ⟨x,h,rfl⟩:=azm.1 hv;obtain ⟨_,_,J,P,I⟩:=s x h;refine ⟨J,by omega, ?_⟩;rw [P] at I;obtain ⟨c,hc⟩:=List.exists_mem_of_ne_nil _ I;unfold iN at hc;obtain ⟨i,_,hi⟩:=aBx.1 hc;split at hi
     ·rename_i f;unfold qL at f;cases B:hs[i]? with
      | none=>rw [B] at f;simp at f
      | some y =>
       rw [B] at f;simp only [Bool.or_eq_true,decide_eq_true_eq] at f;exact ⟨i,y,B,f⟩
     ·cases hi
    ·rintro ⟨r,_,i,y,Y,f⟩;have a2:=(ay5.1 Y).1;have L:kO hs v N 0≠[]:=by
      have:(i:Int)∈iN hs v N:=by
       unfold iN;rw [aBx];refine ⟨i,by rw [List.mem_range];omega, ?_⟩;have:qL hs i v=true:=by
        unfold qL;rw [Y];simpa using f
       rw [if_pos this]
      intro W;unfold kO at W;rw [List.append_eq_nil_iff] at W;rw [W.1] at this;cases this
     obtain ⟨e,n,rfl⟩:=O.all v r L;obtain ⟨j,l⟩:=aBg n;have V:=(ay5.1 l).1;refine azm.2 ⟨trip E A j, ?_, ?_⟩
     ·rw [d.mem_iff];exact azm.2 ⟨j,F j V,rfl⟩
     ·simp only [trip,azp,l,aAB]
  rw [←w,aBv];exact aAt fun x h=>by
   simp only [Function.comp];rw [←(s x h).2.2.2.1]
theorem ana:∀ (X Y:List mR) (n:Nat),X.map (fun x=>(x.1,x.2.2))=Y.map (fun x=>(x.1,x.2.2))→kP n X=kP n Y∧nW X=nW Y
 | [],[],n,_=>⟨rfl,rfl⟩
 | x::X,y::Y,n,h=>by
  simp only [aAo,List.cons.injEq,Prod.mk.injEq] at h;obtain ⟨⟨e,a⟩,b⟩:=h;obtain ⟨c,d⟩:=ana X Y (n+1) b;constructor
  ·show aC x.1 :: .sl n 0 x.2.2.length x.2.2.length false::kP (n+1) X=aC y.1 :: .sl n 0 y.2.2.length y.2.2.length false::kP (n+1) Y;rw [e,a,c]
  ·show (3,bK x.2.2)::nW X=(3,bK y.2.2)::nW Y;rw [a,d]
 | [],_::_,n,h=>by simp at h
 | _::_,[],n,h=>by simp at h
def tX (hs:List (Int×Int)):List mR:=(gS hs).map fun v=>(v,0,iN hs v hs.length)
def aae (hs:List (Int×Int)):fF:=if gS hs=[] then ⟨.tup [aN,aC 0],[]⟩ else ⟨.tup [.sl (gS hs).length 0 (gS hs).length (gS hs).length false,aC 0],nW (tX hs)++[(226,kP 0 (tX hs))]⟩
def anb:Prop:=∀ (m:aF) (b:Nat) (L:List (Int×AV)),m.at_ b=some ⟨lH L,226,.var,true⟩→(L.map (·.1)).Nodup→L.length≤1000000→(∀ x∈L,d5 x.2=true)→fH ayS 322 [.sl b 0 L.length L.length false,.clo 323 []] m (fun v m'=>v=eN∧m'=m.put b (some ⟨lH (lY L),226,.var,true⟩))
def anc:Prop:=aR ayS 322 [aN,.clo 323 []] ⟨eN,[]⟩
def nD:Nat→Bool:=fun d=>d != 71
theorem lX.setM {m:aF} {g:Nat} {E:jK} {A:List AV} (h:lX m g E A) {mm:Maps} (d:mm.maps g=m.mm.maps g):lX (m.setM mm) g E A:=⟨by rw [←h.mp];exact d,h.len,fun j e a c b=>(h.own j e a c b).setM _,h.apart⟩
theorem lX.keep {m m':aF} {g:Nat} {E:jK} {A:List AV} (h:lX m g E A) (f:m'.mm=m.mm) (q:m.next≤m'.next) (i:∀ j k,m.at_ j=some k→j < m.next→k.kind = .flat→m'.at_ j=some k):lX m' g E A:=⟨by rw [f];exact h.mp,h.len,fun j e a n l=>by
 have:=h.own j e a n l;rcases this.form with ⟨rfl,p⟩ | ⟨b,rfl,o,c,d⟩
 ·exact ⟨.inl ⟨rfl,p⟩,this.len⟩
 ·exact ⟨.inr ⟨b,rfl,i b _ o c rfl,by omega,d⟩,this.len⟩,h.apart⟩
theorem lX.pp {m:aF} {g:Nat} {E:jK} {A:List AV} (h:lX m g E A) (x:eR) (y:Option eR):lX ((m.push x).put m.next y) g E A:=h.keep rfl (by rw [bX,bM];omega) fun j k a b _=>by rw [aO,if_neg (by omega),aT,if_neg (by omega)];exact a
theorem ane (v i:Int) (E:jK):(qN v i E).length≤E.length+1:=by
 unfold qN;split <;> simp
theorem atB (f7:anb) (e6:anc) (k r c w:Int) (v:AV) (ps:List bO) (cells:List AV) (hv:fV v ps cells) (hc:eJ k r c w ps=0):aR ayS 290 [aA k r c w,v] (aae (gC k r c w ps)):=by
 have hp:=hv.rd.plain;have hh:=amW k r c w v ps cells hv;unfold acY at hh;rw [if_pos hc] at hh;obtain ⟨_,_,_,hn⟩:=amX hc;have G:=aeV k r c w ps;generalize k3:gC k r c w ps=hs at *
 generalize hN:ps.length=N at *
 generalize O:aae hs=k5;replace O:=Hid.mk O;have e3:aZ (.tree N N (bK (mB hs)) true) N (bK (mB hs)):=⟨.inr (.inr ⟨_,true,rfl,ay7 _⟩)⟩
 replace hn:=Hid.mk hn;replace G:=Hid.mk G;refine aX Tryz.func290 nD (h:=?_);unfold Tryz.f290;simp only [↓pre,zah,vD,nD,simprocAttr,aA,bne]
 (first | refine aH (hh) (by first | rfl | simp only [aD, *]) ?_ | refine aG (hh) (by first | rfl | simp only [aA,aD, *]) (by intro k;first | rfl | simp only [ *,zaa]) ?_);simp only [↓pre,zah,nD,simprocAttr,bne]
 intro g hg;simp only [↓pre,za,vD,nD,simprocAttr,bne,e3.len'];rw [bS];refine bU (fun q e m=>∃ i E A,q+i=N∧e 8 = .val (.map (some g))∧e 26 = .tree N N (bK (mB hs)) true∧e 27=aC (N:Nat)∧e 28=aC (i:Nat)∧Hid (lX m g E A∧EI hs i 0 E∧E.length≤2*i)) N ⟨0,[],[],by omega,rfl,rfl,rfl,rfl,⟨⟨by simp [aF.setM,Maps.add];rfl,rfl,fun j e a he=>by simp at he,fun i j a b x ha=>by simp at ha⟩,atw hs,by simp⟩⟩ ?_;rintro q e m ⟨i,E,A,a3,e8,B,s,p,hJ⟩;replace a3:=Hid.mk a3;by_cases g4:i < N
 ·have M:((i:Nat):Int) < ((N:Nat):Int):=by omega
  have w1:=bY (n:=i) (by have:=hn.out;omega);have Q:i < hs.length:=by have:=G.out;omega
  obtain ⟨x,hx⟩:∃ x,hs[i]? = some x:=⟨_,azj Q⟩
  obtain ⟨h5,g3⟩:=ahA _ _ _ hx;obtain ⟨ht,d1⟩:=rL (nB (x:=[]) h5) (nB (x:=[]) g3);rw [aBi] at ht d1;replace hx:=Hid.mk hx;replace Q:=Hid.mk Q;simp only [↓pre,za,vD,nD,aM,simprocAttr,bne,aJ,B,s,p,M,e3.addr',g4,ht,d1];rw [bS];refine bU (fun q e m=>∃ kk E A,q+kk=2∧e 8 = .val (.map (some g))∧e 9=aC (i:Nat)∧e 10 = .tptr 0 [aC x.1,aC x.2]∧e 26 = .tree N N (bK (mB hs)) true∧e 27=aC (N:Nat)∧e 28=aC (i:Nat)∧e 33 = .agg [aC x.1,aC x.2]∧e 34=aC (kk:Nat)∧Hid (lX m g E A∧EI hs i kk E∧E.length≤2*i+kk)) 2 ⟨0,E,A,by omega,e8,rfl,rfl,B,s,p,rfl,rfl,⟨hJ.out.1.pp _ _,hJ.out.2⟩⟩ ?_;rintro q2 e m2 ⟨kk,E,A,d,e8,e9,T,B,s,p,H,c8,l⟩;replace d:=Hid.mk d;by_cases f6:kk < 2
  ·obtain ⟨z,hz⟩:∃ z,z=if kk=0 then x.1 else x.2:=⟨_,rfl⟩
   have o:=aty hx.out l.out.2.1 f6 hz;have k4:∀ (c:Prop) [Decidable c],True:=fun _ _=>trivial
   have K:=l.out.1;have d2:=K.look z;have b3:=K.own_look z;have u:(uI E z).length≤1000000:=by
    unfold uI;cases hj:nV z E with
    | none=>simp
    | some j =>
     obtain ⟨e,he,_⟩:=abv hj;have:=(l.out.2.1.is e (az5 he)).2.1;simp only [he,az3,aAB];rw [this];unfold kO;have R:=amR hs e.1 i;rw [hx.out];simp only [aAZ];have:=hn.out;split <;> simp <;> omega
   replace u:=Hid.mk u;replace K:=Hid.mk K;have c4:kk=0∨kk=1:=by omega
   rcases c4 with rfl | rfl
   ·have f:e 34=aC 0:=c8;simp only [if_true] at hz;subst hz;have w2:IntKind.i64.wrap (0+1)=1:=by rfl
    by_cases V:0 < x.1
    ·rw [if_pos ⟨V,.inl rfl⟩] at o;simp only [↓pre,zam,vD,nD,bE,simprocAttr,bne,e8,e9,H,f,d2,V];refine uY (kd := .flat) (sz:=1) (y:=8) (zl:=[.int .i64 0]) (by kernel_rfl) b3 (by kernel_rfl) (by kernel_rfl) (by kernel_rfl) rfl mN (by rfl) (by have:=u.out;omega) (by have:=u.out;omega) ?_;intro a' C c6 b8 I b0 b5;obtain ⟨c0,c5⟩:=K.out.upd x.1 i b8 I b0 b5 c6;simp only [↓pre,zah,nD,simprocAttr,bne,e8,e9,T,B,s,p,H,f,c0];exact ⟨q2 - 1,by have:=d.out;omega,1,_,_,by have:=d.out;omega,rfl,⟨c5,o,by have:=ane x.1 i E;have:=l.out.2.2;omega⟩⟩
    ·rw [if_neg (fun h=>V h.1)] at o;simp only [↓pre,zam,vD,nD,simprocAttr,bne,e8,e9,T,B,s,p,H,f,V];exact ⟨q2 - 1,by have:=d.out;omega,1,_,_,by have:=d.out;omega,rfl,⟨K.out,o,by have:=l.out.2.2;omega⟩⟩
   ·have f:e 34=aC 1:=c8;simp only [aBj,if_false,false_or] at hz o;subst hz;have w2:IntKind.i64.wrap (1+1)=2:=by rfl
    by_cases V:0 < x.2
    ·by_cases c2:x.2=x.1
     ·rw [if_neg (fun h=>h.2 c2)] at o;have c3:0 < x.1:=by rw [←c2];exact V
      simp only [↓pre,zam,vD,nD,simprocAttr,bne,e8,e9,T,B,s,p,H,f,c3,c2];exact ⟨q2 - 1,by have:=d.out;omega,2,_,_,by have:=d.out;omega,rfl,⟨K.out,o,by have:=l.out.2.2;omega⟩⟩
     ·rw [if_pos ⟨V,c2⟩] at o;simp only [↓pre,zam,vD,nD,bE,simprocAttr,bne,e8,e9,T,H,f,d2,V,c2];refine uY (kd := .flat) (sz:=1) (y:=8) (zl:=[.int .i64 0]) (by kernel_rfl) b3 (by kernel_rfl) (by kernel_rfl) (by kernel_rfl) rfl mN (by rfl) (by have:=u.out;omega) (by have:=u.out;omega) ?_;intro a' C c6 b8 I b0 b5;obtain ⟨c0,c5⟩:=K.out.upd x.2 i b8 I b0 b5 c6;simp only [↓pre,zah,nD,simprocAttr,bne,e8,e9,T,B,s,p,H,f,c0];exact ⟨q2 - 1,by have:=d.out;omega,2,_,_,by have:=d.out;omega,rfl,⟨c5,o,by have:=ane x.2 i E;have:=l.out.2.2;omega⟩⟩
    ·rw [if_neg (fun h=>V h.1)] at o;simp only [↓pre,zam,vD,nD,simprocAttr,bne,e8,e9,T,B,s,p,H,f,V];exact ⟨q2 - 1,by have:=d.out;omega,2,_,_,by have:=d.out;omega,rfl,⟨K.out,o,by have:=l.out.2.2;omega⟩⟩
  ·have i3:¬ ((kk:Nat):Int) < 2:=by omega
   have:kk=2:=by have:=d.out;omega
   subst this;simp only [↓pre,zah,nD,simprocAttr,bne,e8,B,s,p,c8,w1];exact ⟨q - 1,by have:=a3.out;omega,i+1,E,A,by have:=a3.out;omega,rfl,⟨l.out.1,atx Q.out l.out.2.1,by have:=l.out.2.2;omega⟩⟩
 ·have M:¬ ((i:Nat):Int) < ((N:Nat):Int):=by omega
  have g2:i=N:=by have:=a3.out;omega
  subst g2;simp only [↓pre,zah,nD,simprocAttr,bne,e8,s,p,M];have K:=hJ.out.1;have hE:=hJ.out.2.1;have a6:E.length≤32:=by have:=hJ.out.2.2;have:=hn.out;omega
  replace a6:=Hid.mk a6;refine ⟨(g,kN E A),by rw [aeX];rfl,by simp only [rA,K.mp,az3], ?_⟩;intro Y k2;simp only [↓pre,simprocAttr];rw [bS];refine bU (fun q e m=>∃ S lv,q+S.length=E.length∧e 13=lv∧e 61 = .val (.pointer (some ⟨Y,0,none⟩))∧m.mm.iters Y=some (g,S)∧Hid (lX m g E A∧S.Nodup∧(∀ j∈S,j < E.length)∧cG .var m 226 2 lv S.length (lH (S.map fun j=>((E.getD j (0,[])).1,A.getD j aN))))) E.length ⟨[],aN,by simp,rfl,rfl,by simp [aF.setM,Maps.walk],⟨K.setM rfl,List.nodup_nil,fun j h=>(by cases h),fC⟩⟩ ?_;rintro q e C ⟨S,lv,hq,a2,c7,i1,D⟩;replace hq:=Hid.mk hq;replace K:=Hid.mk K;replace hE:=Hid.mk hE;simp only [↓pre,zah,nD,simprocAttr,bne,c7];have U:=D.out.1;have d3:=D.out.2.2.2;have g5:(kN E A).length=E.length:=by unfold kN;rw [List.length_zipWith,U.len];omega
  refine ⟨(Y,(g,S),kN E A),by simp only [aaJ,i1,U.mp,aAh,az3],fun a0 => ?_,fun j kv hj b7 => ?_⟩
  ·simp only at a0;simp only [g5] at a0;obtain ⟨g0,c4,X,b1,e5,f2,a9⟩:=atA U hE.out G.out D.out.2.1 D.out.2.2.1 a0;have J:(S.map fun j=>((E.getD j (0,[])).1,A.getD j aN)).length=S.length:=by simp
   generalize f0:(S.map fun j=>((E.getD j (0,[])).1,A.getD j aN))=L at *
   have a1:X.length=L.length:=by
    have:=(yH L).length_eq;rw [b1,List.length_map] at this;exact this
   have a5:X.length=(gS hs).length:=by
    have:=congrArg List.length a9;simpa using this
   have b9:S.length≤32:=by have:=a6.out;have:=hq.out;omega
   replace b1:=Hid.mk b1;replace a9:=Hid.mk a9;replace f0:=Hid.mk f0;replace a5:=Hid.mk a5;replace a1:=Hid.mk a1;replace J:=Hid.mk J;replace b9:=Hid.mk b9;rcases d3.form with ⟨rfl,h0,_⟩ | ⟨b,rfl,hb,b0,j1⟩
   ·have i2:gS hs=[]:=List.eq_nil_of_length_eq_zero (by have:=a5.out;have:=a1.out;have:=J.out;omega);simp only [↓pre,zah,nD,simprocAttr,bne,a2]
    (first | refine aH (e6) (by first | rfl | simp only [aA,aD, *]) ?_ | refine aG (e6) (by first | rfl | simp only [aA,aD, *]) (by intro k;first | rfl | simp only [ *,zaa]) ?_);simp only [↓pre,simprocAttr,sx,a2,aN]
    rw [←O.out];unfold aae;rw [if_pos i2];rfl
   ·have f4:¬ gS hs=[]:=by
     intro h;have R:=a5.out;rw [h,aAD] at R;have h2:=a1.out;have h3:=J.out;omega
    have a4:=f7 C b L hb g0 (by have:=J.out;have:=b9.out;omega) c4;rw [J.out] at a4;have f1:∀ x∈X,(C.put b (some ⟨lH (lY L),226,.var,true⟩)).at_ x.2.1=some ⟨bK x.2.2,3,.flat,true⟩:=by
     intro x hx;have R:=(e5 x hx).1;rw [aO,if_neg ?_]
     ·exact R
     ·intro e;rw [e,hb] at R;have h2:=congrArg eR.kind (aAR R);cases h2
    have e7:=am3 (C.put b (some ⟨lH (lY L),226,.var,true⟩)) 2 X [] [] f1 f2 (fun x hx i hi=>by cases hi);rw [←b1.out,aAD,aBq,aBq] at e7;have d4:(X.map (fun x=>(x.2.1,0))).any (fun i:Nat×Nat=>i.1 == b)=false:=by
     rw [aBr];intro i hi;obtain ⟨x,hx,rfl⟩:=azm.1 hi;have R:=(e5 x hx).1;intro e;have e:x.2.1=b:=by simpa using e
     rw [e,hb] at R;have h2:=congrArg eR.kind (aAR R);cases h2
    have e0:canon ayS (C.put b (some ⟨lH (lY L),226,.var,true⟩)) 3 [] [] (.sl b 0 S.length S.length false)=some (.sl X.length 0 S.length S.length false,X.map (fun x=>(x.2.1,0))++[(b,0)],nW X++[(226,kP 0 X)]):=by
     have k9:bP ayS 226 = .var:=by kernel_rfl
     have i0:(nW X).length=X.length:=by simp [nW]
     unfold canon;simp only [aO,if_true,aAh,k9,and_self,aBu,e7,d4,azx,if_false,i0]
    simp only [↓pre,zah,nD,simprocAttr,bne,a2];refine .inr (.inr (.inl ⟨_,_,a4, ?_⟩));simp only [↓pre,simprocAttr,sx,a2,e0];rw [←O.out];unfold aae;rw [if_neg f4];obtain ⟨V,c2⟩:=ana X (tX hs) 0 (by rw [a9.out];unfold tX;rw [aBv,G.out];rfl);have R:=a5.out;have h2:=a1.out;have h3:=J.out;have h4:S.length=(gS hs).length:=by omega
    rw [R,h4,V,c2];rfl
  ·simp only at hj b7;obtain ⟨F,W,hj⟩:=ayQ (acZ (E:=E) (A:=A) j ▸ hj);obtain ⟨av,d0,rfl⟩:=ayR hj;have h6:=U.own j F av W d0;have h9:=hE.out.is F (az5 W);obtain ⟨b',rfl,k1,M⟩:=h6.sl (List.length_pos_iff.2 h9.2.2);have k0:j < E.length:=(ay5.1 W).1;have e4:acp (C.setM (C.mm.walk Y (g,S++[j]))) (.val (.pointer (some ⟨Y,0,none⟩)))=some (.tup [.val (.int .i64 F.1),.sl b' 0 F.2.length F.2.length false]):=by
    have R:(C.setM (C.mm.walk Y (g,S++[j]))).mm.iters Y=some (g,S++[j]):=by simp [aF.setM,Maps.walk]
    have h2:(C.setM (C.mm.walk Y (g,S++[j]))).mm.maps g=some (kN E A):=U.mp;simp only [acp,aaJ,R,h2,aAh,az3,List.getLast?_append,List.getLast?_singleton,Option.some_or,acZ,W,d0]
   have f3:S.length < E.length:=by
    have:=D.out.2.1;have h3:=D.out.2.2.1;have:(S++[j]).Nodup:=aBt.2 ⟨this,by simp,fun a ha b hb=>by simp at hb;subst hb;rintro rfl;exact b7 ha⟩;have h8:=List.Nodup.length_le_of_subset this (l₂:=aAm E.length) (fun y Z=>by
     rw [List.mem_range];rcases aBm.1 Z with Z | Z
     ·exact h3 y Z
     ·simp at Z;omega)
    simp at h8;omega
   have g6:=fun m=>arL (P:=ayS) (m:=m) (t:=223) (el:=226) (a := .int .i64 F.1) (x := .sl b' 0 F.2.length F.2.length false) (z:=[.int .i64 0,.slice none 0 0]) (by kernel_rfl) rfl rfl rfl (by kernel_rfl) (by kernel_rfl) (by kernel_rfl) rfl
   simp only [↓pre,zah,vD,nD,bE,simprocAttr,bne,a2,c7,e4,g6];have b4:cG .var ((C.setM (C.mm.walk Y (g,S++[j]))).push ⟨[.val (.int .i64 F.1),.sl b' 0 F.2.length F.2.length false],226,.var,true⟩) 226 2 lv S.length _:=(d3.setM _).push _;refine uY (kd := .var) (sz:=2) (y:=32) (zl:=[.int .i64 0,.slice none 0 0]) (by kernel_rfl) b4 (by kernel_rfl) (by kernel_rfl) (by kernel_rfl) rfl (arD (by kernel_rfl) rfl) (by rfl) (by have:=a6.out;omega) (by have:=a6.out;omega) ?_;intro h7 m5 f5 f8 a7 j0 b2;simp only [↓pre,simprocAttr,sx,c7];refine ⟨q - 1,by have:=hq.out;omega,S++[j],h7,by have:=hq.out;simp;omega,rfl, ?_,⟨?_, ?_, ?_, ?_⟩⟩
   ·rw [b2];simp [aF.push,aF.setM,Maps.walk]
   ·have g1:lX ((C.setM (C.mm.walk Y (g,S++[j]))).push ⟨[.val (.int .i64 F.1),.sl b' 0 F.2.length F.2.length false],226,.var,true⟩) g E A:=(U.setM (mm:=C.mm.walk Y (g,S++[j])) rfl).keep rfl (by rw [bM];omega) fun j k hj hl _=>by rw [aT,if_neg (by omega)];exact hj
    exact g1.keep b2 f8 fun j k hj hl hk=>a7 j k hj hl (b4.ne_kind hj (by rw [hk];intro h;cases h))
   ·exact aBt.2 ⟨D.out.2.1,by simp,fun a ha b hb=>by simp at hb;subst hb;rintro rfl;exact b7 ha⟩
   ·intro y Z;rcases aBm.1 Z with Z | Z
    ·exact D.out.2.2.1 y Z
    ·simp at Z;omega
   ·have e1:(E.getD j (0,[])).1=F.1:=by rw [azp,W];rfl
    have e2:A.getD j aN = .sl b' 0 F.2.length F.2.length false:=by rw [azp,d0];rfl
    rw [aAZ,aBp,atz,aAo,aAp,e1,e2];exact f5
end Go.Proofs.YtaekhhlgnbhnpaaGreat