import Derived.Test.YtaekhhlgnbhnpaaGreatQmcG15
set_option linter.unusedVariables false
set_option linter.unusedSimpArgs false
set_option maxRecDepth 10000
open Go.Proofs.Tryz
open Bool renaming true_and→aBk,and_eq_true→aAq,false_eq_true→azA
open Go.Proofs.Tryz renaming prog→ayU
open Go.Value renaming int→azD
open List renaming getElem?_eq_some_iff→ay8,drop_eq_getElem_cons→aBh,getElem?_eq_getElem→azm,all_eq_false→aBi,mem_of_getElem?→az8,all_eq_true→aAu,getElem?_of_mem→aBj,append_nil→aBl,range→aAp,pairwise_singleton→aBn,mem_singleton→aBo,mem_append→aBp,pairwise_cons→aBq,mem_cons→az7,length_append→aA2,length_cons→aAF,length_nil→aAG,replicate→aBr,take_add_one→aA9,map_append→aBs,map_cons→aAr,map_nil→aAs,append_assoc→azW,nil_append→aBt,any_eq_false→aBu,size_toArray→azY,ext_getElem?→aAi,getElem?_set→aAn,pairwise_iff_getElem→aBv,nodup_append→aBw,mem_map→azp,getD_eq_getElem?_getD→azs,getElem?_append_left→azg,getElem?_append_right→azh,drop_zero→aBx,map_map→aBy,map_congr_left→aAw,pairwise_map→aBz,mem_filterMap→aBA
open Nat renaming le_refl→aza,mul_one→azG,one_ne_zero→aBm,add_assoc→ay3
open Option renaming bind_some→aAk,map_some→az6,map_eq_some_iff→ay1,getD_some→aAE
open Option.some renaming inj→aAU
namespace Go.Proofs.YtaekhhlgnbhnpaaGreat
open Go Go.Tw Go.Proofs
abbrev aO:=List UInt8×List UInt8
structure dG (v:AV) (ps:List aO) (cells:List AV):Prop where
 rd:aT v ps.length cells
 at_:∀ i p,ps[i]? = some p→∃ a b xa xb,cells[i*2]? = some a∧cells[i*2+1]? = some b∧aT a p.1.length (aJ p.1++xa)∧aT b p.2.length (aJ p.2++xb)
theorem qX {cells:List AV} {i:Nat} {a b:AV} (h:cells[i]? = some a) (f:cells[i+1]? = some b):(cells.drop i).take 2=[a,b]∧i+2≤cells.length:=by
 have c:=(ay8.1 f)
 obtain ⟨c,g⟩:=c;obtain ⟨e,d⟩:=ay8.1 h;refine ⟨?_,by omega⟩;rw [aBh e,aBh c,d,g];rfl
def dE (k r c:Int) (ps:List aO):Bool:=decide ((ps.length:Int)=k+r) && ps.all (fun p=>kD k r c p.1.length p.2.length)
theorem atJ (k r c w:Int) (v:AV) (ps:List aO) (cells:List AV) (z:dG v ps cells) (F:bG k r c w=true):aQ ayU 197 [aC k r c w,v] ⟨aZ (dE k r c ps),[]⟩:=by
 have M:=z.rd.plain;have C:=fG F;have E:=vS k r c w F;by_cases D:(ps.length:Int)=k+r
 ·have s:ps.length≤16:=by omega
  have o:dE k r c ps=ps.all (fun p=>kD k r c p.1.length p.2.length):=by unfold dE;rw [decide_eq_true D];rfl
  rw [o];replace C:=aA.mk C;replace s:=aA.mk s;replace o:=aA.mk o;refine aV Tryz.func197 aD (h:=?_);unfold Tryz.f197;simp only [↓pre,zai,aeZ,simprocAttr,aC,z.rd.len']
  (first | refine aI (E) (by first | rfl | simp only [aC,aE, *]) ?_ | refine aH (E) (by first | rfl | simp only [aC,aE, *]) (by intro k;first | rfl | simp only [ *,zaa]) ?_);simp only [↓pre,zab,simprocAttr,D]
  rw [bS];refine bU (fun q e m=>∃ i,q+i=ps.length∧e 1=v∧e 2 = .tptr 0 [aB k,aB r,aB c,aB w]∧e 5=aB (i:Nat)∧∀ j p,j < i→ps[j]? = some p→kD k r c p.1.length p.2.length=true) ps.length ⟨0,by omega,rfl,rfl,rfl,fun j p h=>by omega⟩ ?_;rintro q e m ⟨i,hi,K,L,J,d⟩;replace d:=aA.mk d;by_cases B:i < ps.length
  ·have g:((i:Nat):Int) < ((ps.length:Nat):Int):=by omega
   obtain ⟨p,f⟩:∃ p,ps[i]? = some p:=⟨_,azm B⟩
   obtain ⟨a,b,R,U,N,P,A,x⟩:=z.at_ i p f;obtain ⟨Q,I⟩:=qX N P;have T:=A.plain;have S:=x.plain;have t:=atH k r c w a b p.1.length p.2.length _ _ A x F;have w1:=cB (n:=i) (by have:=s.out;omega);replace f:=aA.mk f;simp only [↓pre,zai,aeZ,simprocAttr,K,L,J,z.rd.len',g,z.rd.addr',B,Q,I];cases u:kD k r c p.1.length p.2.length with
   | true =>
    (first | refine aI (t) (by first | rfl | simp only [aC,aE, *]) ?_ | refine aH (t) (by first | rfl | simp only [aE, *]) (by intro k;first | rfl | simp only [ *,zaa]) ?_);simp only [↓pre,zab,aZ,gH,simprocAttr,K,L,J,u,w1]
    refine ⟨q - 1,by omega,i+1,by omega,rfl,fun j O G y => ?_⟩;by_cases H:j=i
    ·subst H;rw [f.out] at y;cases y;exact u
    ·exact d.out j O (by omega) y
   | false =>
    have l:ps.all (fun p=>kD k r c p.1.length p.2.length)=false:=by
     rw [aBi];exact ⟨p,az8 f.out,by rw [u];decide⟩
    (first | refine aI (t) (by first | rfl | simp only [aC,aE, *]) ?_ | refine aH (t) (by first | rfl | simp only [aE, *]) (by intro k;first | rfl | simp only [ *,zaa]) ?_);simp only [↓pre,zab,aZ,jP,simprocAttr,u,l]
  ·have g:¬ ((i:Nat):Int) < ((ps.length:Nat):Int):=by omega
   have l:ps.all (fun p=>kD k r c p.1.length p.2.length)=true:=by
    rw [aAu];intro p M;obtain ⟨j,G⟩:=aBj M;have:=(ay8.1 G).1;exact d.out j p (by omega) G
   simp only [↓pre,zai,aeZ,gH,aZ,simprocAttr,K,J,z.rd.len',g,l]
 ·have o:dE k r c ps=false:=by unfold dE;rw [decide_eq_false D];rfl
  rw [o];refine aV Tryz.func197 aD (h:=?_);unfold Tryz.f197;simp only [↓pre,zai,aeZ,simprocAttr,aC,z.rd.len']
  (first | refine aI (E) (by first | rfl | simp only [aC,aE, *]) ?_ | refine aH (E) (by first | rfl | simp only [aC,aE, *]) (by intro k;first | rfl | simp only [ *,zaa]) ?_);simp only [↓pre,zab,aZ,simprocAttr,D]
def cS (k r c w:Int) (ps:List aO):Int:=if bG k r c w=true then (if dE k r c ps=true then 0 else 120) else 2
theorem ahM (k r c w:Int) (v:AV) (ps:List aO) (cells:List AV) (f:dG v ps cells):aQ ayU 111 [aC k r c w,v] ⟨aB (cS k r c w ps),[]⟩:=by
 have g:=f.rd.plain;have a:=adr k r c w;unfold cS;cases d:bG k r c w with
 | false =>
  rw [d] at a;rw [if_neg (by decide)];refine aV Tryz.func111 aD (h:=?_);unfold Tryz.f111;simp only [↓pre,zab,ade,simprocAttr,aC]
  (first | refine aI (a) (by first | rfl | simp only [aC,aE, *]) ?_ | refine aH (a) (by first | rfl | simp only [aC,aE, *]) (by intro k;first | rfl | simp only [ *,zaa]) ?_);simp only [↓pre,zab,aZ,jP,simprocAttr]
 | true =>
  rw [d] at a;have b:=atJ k r c w v ps cells f d;rw [if_pos rfl];cases e:dE k r c ps with
  | false =>
   rw [e] at b;rw [if_neg (by decide)];refine aV Tryz.func111 aD (h:=?_);unfold Tryz.f111;simp only [↓pre,zab,ade,simprocAttr,aC]
   (first | refine aI (a) (by first | rfl | simp only [aC,aE, *]) ?_ | refine aH (a) (by first | rfl | simp only [aC,aE, *]) (by intro k;first | rfl | simp only [ *,zaa]) ?_);simp only [↓pre,zab,ade,aZ,gH,simprocAttr];(first | refine aI (b) (by first | rfl | simp only [aE, *]) ?_ | refine aH (b) (by first | rfl | simp only [aC,aE, *]) (by intro k;first | rfl | simp only [ *,zaa]) ?_);simp only [↓pre,zab,aZ,jP,simprocAttr]
  | true =>
   rw [e] at b;rw [if_pos rfl];refine aV Tryz.func111 aD (h:=?_);unfold Tryz.f111;simp only [↓pre,zab,ade,simprocAttr,aC]
   (first | refine aI (a) (by first | rfl | simp only [aC,aE, *]) ?_ | refine aH (a) (by first | rfl | simp only [aC,aE, *]) (by intro k;first | rfl | simp only [ *,zaa]) ?_);simp only [↓pre,zab,ade,aZ,gH,simprocAttr];(first | refine aI (b) (by first | rfl | simp only [aE, *]) ?_ | refine aH (b) (by first | rfl | simp only [aC,aE, *]) (by intro k;first | rfl | simp only [ *,zaa]) ?_);simp only [↓pre,zab,aZ,gH,simprocAttr]
def acg (k r c w:Int) (bs:List UInt8) (ix:Int):Bool:=eF k r c w bs ix && (decide ((bN k r bs).kd=2) && (bN k r bs).vec.all (fun n=>decide (n=(bN k r bs).ce)))
def kY (k r c w:Int) (bs:List UInt8) (ix:Int):Int:=if acg k r c w bs ix=true then (bN k r bs).ce else 0
theorem ahN (k r c w ix:Int) (v:AV) (bs:List UInt8) (x:List AV) (G:aT v bs.length (aJ bs++x)) (F:bG k r c w=true):aQ ayU 255 [aC k r c w,v,aB ix] ⟨aB (kY k r c w bs ix),[]⟩:=by
 have I:=G.plain;have y:=fG F;have f:=am7 k r c w ix v bs x G F;have o:(bN k r bs).vec.length≤16:=by have:=ace bs (k+r).toNat;simp only [bN];omega
 replace y:=aA.mk y;unfold kY acg;cases hs:eF k r c w bs ix with
 | false =>
  rw [hs] at f;rw [if_neg (by decide)] at f;rw [Bool.false_and,if_neg (by decide)];unfold nV kK at f;refine aV Tryz.func255 aD (h:=?_);unfold Tryz.f255;simp only [↓pre,zab,yJ,simprocAttr,aC,eq_self]
  (first | refine aI (f) (by first | rfl | simp only [aE, *]) ?_ | refine aH (f) (by first | rfl | simp only [aC,aE, *]) (by intro k;first | rfl | simp only [ *,zaa]) ?_);simp only [↓pre,zai,yJ,aZ,bD,simprocAttr,aW,aS,eq_self]
 | true =>
  rw [hs] at f;rw [if_pos rfl] at f;rw [aBk];generalize bN k r bs=s at *
  unfold jK.v kK at f;by_cases u:s.kd=2
  ·rw [decide_eq_true u,aBk];have d:aT (.tree s.vec.length s.vec.length (bJ s.vec) false) s.vec.length (bJ s.vec++[]):=⟨.inr (.inr ⟨_,false,by rw [aBl],aza _⟩)⟩
   replace o:=aA.mk o;refine aV Tryz.func255 aD (h:=?_);unfold Tryz.f255;simp only [↓pre,zab,yJ,simprocAttr,aC,eq_self]
   (first | refine aI (f) (by first | rfl | simp only [aE, *]) ?_ | refine aH (f) (by first | rfl | simp only [aC,aE, *]) (by intro k;first | rfl | simp only [ *,zaa]) ?_);simp only [↓pre,zai,yJ,aZ,bD,simprocAttr,aS,eq_self,u]
   rw [bS];refine bU (fun q e m=>∃ i,q+i=s.vec.length∧e 7 = .tptr 0 [.val (.int .u8 2),aB s.ix,aB s.ce,aB s.st,.tree s.vec.length s.vec.length (bJ s.vec) false,.tree s.data.length s.data.length (aJ s.data) false]∧e 9=aB (i:Nat)∧∀ j n,j < i→s.vec[j]? = some n→n=s.ce) s.vec.length ⟨0,by omega,by rw [←u];rfl,rfl,fun j n h=>by omega⟩ ?_;rintro q e m ⟨i,hi,B,D,b⟩;replace b:=aA.mk b;by_cases t:i < s.vec.length
   ·have a:((i:Nat):Int) < ((s.vec.length:Nat):Int):=by omega
    obtain ⟨n,l⟩:∃ n,s.vec[i]? = some n:=⟨_,azm t⟩
    have C:=nU (x:=[]) l;rw [aBl] at C d;have w1:=cB (n:=i) (by have:=o.out;omega);by_cases E:n=s.ce
    ·replace l:=aA.mk l;subst E;simp only [↓pre,zai,yJ,azG,gH,simprocAttr,B,D,d.len',d.addr',t,a,C,w1,eq_self];refine ⟨q - 1,by omega,i+1,by omega,rfl,fun j H z p => ?_⟩;by_cases A:j=i
     ·subst A;rw [l.out] at p;cases p;rfl
     ·exact b.out j H (by omega) p
    ·have g:(s.vec.all (fun n=>decide (n=s.ce)))=false:=by
      rw [aBi];exact ⟨n,az8 l,by simpa using E⟩
     rw [g,if_neg (by decide)];replace l:=aA.mk l;simp only [↓pre,zai,yJ,azG,jP,simprocAttr,B,D,d.len',d.addr',t,a,C,E]
   ·have a:¬ ((i:Nat):Int) < ((s.vec.length:Nat):Int):=by omega
    have g:(s.vec.all (fun n=>decide (n=s.ce)))=true:=by
     rw [aAu];intro n l;obtain ⟨j,z⟩:=aBj l;have:=(ay8.1 z).1;rw [decide_eq_true_eq];exact b.out j n (by omega) z
    rw [g,if_pos rfl];simp only [↓pre,zai,yJ,gH,simprocAttr,B,D,d.len',a]
  ·rw [decide_eq_false u,Bool.false_and,if_neg (by decide)];refine aV Tryz.func255 aD (h:=?_);unfold Tryz.f255;simp only [↓pre,zab,yJ,simprocAttr,aC,eq_self]
   (first | refine aI (f) (by first | rfl | simp only [aE, *]) ?_ | refine aH (f) (by first | rfl | simp only [aC,aE, *]) (by intro k;first | rfl | simp only [ *,zaa]) ?_);simp only [↓pre,zai,yJ,aZ,bD,simprocAttr,aS,eq_self,u]
def eW (k r c w:Int) (ps:List aO):List (Int×Int):=ps.mapIdx fun i p=>(kY k r c w p.1 i,kY k r c w p.2 i)
def inH (hs:List (Int×Int)) (v:Int):Prop:=∃ (i:Nat) (x:Int×Int),hs[i]? = some x∧(x.1=v∨x.2=v)
def kZ (hs:List (Int×Int)) (i:Nat) (v:Int):Bool:=match hs[i]? with
 | some x=>decide (x.1=v) || decide (x.2=v)
 | none=>false
def iS (hs:List (Int×Int)) (v:Int) (n:Nat):List Int:=(aAp n).filterMap fun i=>if kZ hs i v=true then some (i:Int) else none
theorem am8 (hs:List (Int×Int)) (v:Int) (n:Nat):iS hs v (n+1)=iS hs v n++(if kZ hs n v=true then [(n:Int)] else []):=by
 unfold iS;rw [List.range_succ,List.filterMap_append];cases h:kZ hs n v <;> simp [h]
theorem am9 (hs:List (Int×Int)) (v:Int) (n:Nat):(iS hs v n).length≤n:=by
 have:=List.length_filterMap_le (fun i:Nat=>if kZ hs i v=true then some (i:Int) else none) (aAp n);rw [List.length_range] at this;exact this
def xE (hs:List (Int×Int)) (top:Int) (i a:Nat) (b:Int):Prop:=(b=0∨(0 < b∧b < top∧inH hs b)) ∧
 ∀ j x,hs[j]? = some x→(j < i∨(j=i∧1≤a)→x.1 < top→x.1≤b)∧(j < i∨(j=i∧2≤a)→x.2 < top→x.2≤b)
theorem atK (hs:List (Int×Int)) (top:Int):xE hs top 0 0 0:=⟨.inl rfl,fun j x _=>⟨fun h=>by omega,fun h=>by omega⟩⟩
theorem atL {hs:List (Int×Int)} {top b:Int} {i:Nat} (h:xE hs top i 2 b):xE hs top (i+1) 0 b :=
 ⟨h.1,fun j x a=>⟨fun c=>(h.2 j x a).1 (by omega),fun c=>(h.2 j x a).2 (by omega)⟩⟩
theorem atM {hs:List (Int×Int)} {top b z:Int} {i a:Nat} {x:Int×Int} (h:xE hs top i a b) (r:a < 2) (k:hs[i]? = some x) (e:z=if a=0 then x.1 else x.2):xE hs top i (a+1) (if z < top∧b < z then z else b):=by
 obtain ⟨l,o⟩:=h;have n:inH hs z:=by
  refine ⟨i,x,k, ?_⟩;split at e
  ·exact .inl e.symm
  ·exact .inr e.symm
 have q:0≤b:=by rcases l with l | l <;> omega
 split
 ·rename_i p;refine ⟨.inr ⟨by omega,p.1,n⟩,fun j y c => ?_⟩;have:=o j y c;constructor
  ·intro m d;by_cases g:j < i∨j=i∧1≤a
   ·have:=this.1 g d;omega
   ·have f:j=i∧a=0:=by omega
    obtain ⟨rfl,rfl⟩:=f;rw [k] at c;cases c;simp only [if_true] at e;omega
  ·intro m d;by_cases g:j < i∨j=i∧2≤a
   ·have:=this.2 g d;omega
   ·have f:j=i∧a=1:=by omega
    obtain ⟨rfl,rfl⟩:=f;rw [k] at c;cases c;simp only [aBm,if_false] at e;omega
 ·rename_i p;refine ⟨l,fun j y c => ?_⟩;have:=o j y c;constructor
  ·intro m d;by_cases g:j < i∨j=i∧1≤a
   ·exact this.1 g d
   ·have f:j=i∧a=0:=by omega
    obtain ⟨rfl,rfl⟩:=f;rw [k] at c;cases c;simp only [if_true] at e;omega
  ·intro m d;by_cases g:j < i∨j=i∧2≤a
   ·exact this.2 g d
   ·have f:j=i∧a=1:=by omega
    obtain ⟨rfl,rfl⟩:=f;rw [k] at c;cases c;simp only [aBm,if_false] at e;omega
theorem ana {hs:List (Int×Int)} {top b:Int} (h:xE hs top hs.length 0 b) {v:Int} (d:inH hs v) (c:v < top):v≤b:=by
 obtain ⟨i,x,a,e⟩:=d;have f:=(ay8.1 a).1;have:=h.2 i x a;rcases e with rfl | rfl
 ·exact this.1 (by omega) c
 ·exact this.2 (by omega) c
structure aak (hs:List (Int×Int)) (top:Int) (T:List Int):Prop where
 pw:T.Pairwise (· > ·)
 mem:∀ v,v∈T↔0 < v∧top≤v∧inH hs v
theorem atN {hs:List (Int×Int)} {top:Int} (h:∀ v,inH hs v→v < top):aak hs top []:=⟨.nil,fun v=>⟨fun h=>(by cases h),fun ⟨a,h2,h3⟩=>by have:=h v h3;omega⟩⟩
theorem atO {hs:List (Int×Int)} {top b:Int} {T:List Int} (h:aak hs top T) (f:xE hs top hs.length 0 b) (l:¬ b=0):aak hs b (T++[b])∧b < top∧0 < b:=by
 rcases f.1 with e | ⟨e,k,j⟩
 ·omega
 refine ⟨⟨?_,fun v => ?_⟩,k,e⟩
 ·rw [List.pairwise_append];refine ⟨h.pw,aBn _ _,fun a i c m => ?_⟩;have:=(h.mem a).1 i;rw [aBo] at m;omega
 ·rw [aBp,aBo,h.mem];constructor
  ·rintro (d | rfl)
   ·exact ⟨d.1,by omega,d.2.2⟩
   ·exact ⟨e,by omega,j⟩
  ·rintro ⟨d,o,g⟩;by_cases n:top≤v
   ·exact .inl ⟨d,n,g⟩
   ·have:=ana f g (by omega);exact .inr (by omega)
theorem atP {hs:List (Int×Int)} {top:Int} {T:List Int} (h:aak hs top T) (e:xE hs top hs.length 0 0):aak hs 1 T:=⟨h.pw,fun v=>by
 rw [h.mem];constructor
 ·rintro ⟨b,d,a⟩;exact ⟨b,by omega,a⟩
 ·rintro ⟨b,d,a⟩;refine ⟨b, ?_,a⟩;by_cases c:top≤v
  ·exact c
  ·have:=ana e a (by omega);omega⟩
theorem ahO {hs:List (Int×Int)} {top:Int}:∀ {T g:List Int},T.Pairwise (· > ·)→g.Pairwise (· > ·)→(∀ v,v∈T↔v∈g)→T=g
 | [],[],_,_,_=>rfl
 | [],b::g,_,_,h=>by have:=(h b).2 (by simp);cases this
 | a::T,[],_,_,h=>by have:=(h a).1 (by simp);cases this
 | a::T,b::g,h1,h2,h=>by
  rw [aBq] at h1 h2;have i:a=b:=by
   have c:=(h a).1 (by simp);have d:=(h b).2 (by simp);rw [az7] at c d;rcases c with c | c
   ·exact c
   ·rcases d with d | d
    ·exact d.symm
    ·have:=h1.1 b d;have:=h2.1 a c;omega
  subst i;rw [ahO (hs:=hs) (top:=top) h1.2 h2.2 fun v => ?_];have:=h v;rw [az7,az7] at this;constructor
  ·intro f;rcases this.1 (.inr f) with e | e
   ·have:=h1.1 v f;omega
   ·exact e
  ·intro f;rcases this.2 (.inr f) with e | e
   ·have:=h2.1 v f;omega
   ·exact e
def uJ (v:Int):List Int→List Int
 | []=>[v]
 | a::l=>if a < v then v::a::l else if v < a then a::uJ v l else a::l
theorem ahP (v:Int):∀ (l:List Int) (x:Int),x∈uJ v l↔x=v∨x∈l
 | [],x=>by simp [uJ]
 | a::l,x=>by
  unfold uJ;split
  ·simp
  ·split
   ·simp only [az7,ahP v l x];constructor
    ·rintro (h | h | h) <;> simp [h]
    ·rintro (h | h | h) <;> simp [h]
   ·rename_i c b;have:v=a:=by omega
    subst this;simp
theorem anb (v:Int):∀ (l:List Int),l.Pairwise (· > ·)→(uJ v l).Pairwise (· > ·)
 | [],_=>aBn _ _
 | a::l,h=>by
  unfold uJ;split
  ·rename_i c;rw [aBq];refine ⟨fun x b => ?_,h⟩;rw [az7] at b;rcases b with rfl | b
   ·exact c
   ·have:=(aBq.1 h).1 x b;omega
  ·split
   ·rename_i c d;rw [aBq] at h ⊢;refine ⟨fun x b => ?_,anb v l h.2⟩;rw [ahP] at b;rcases b with rfl | b
    ·exact d
    ·exact h.1 x b
   ·exact h
def gP (hs:List (Int×Int)):List Int:=hs.foldr (fun x l=>(if 0 < x.1 then uJ x.1 else id) ((if 0 < x.2 then uJ x.2 else id) l)) []
theorem aa0:∀ (hs:List (Int×Int)),aak hs 1 (gP hs)
 | []=>⟨.nil,fun v=>⟨fun h=>(by cases h),fun ⟨_,_,i,x,h,_⟩=>by simp at h⟩⟩
 | x::hs=>by
  have j:=aa0 hs;have e:gP (x::hs)=(if 0 < x.1 then uJ x.1 else id) ((if 0 < x.2 then uJ x.2 else id) (gP hs)):=rfl;have d:∀ v,inH (x::hs) v↔(x.1=v∨x.2=v)∨inH hs v:=by
   intro v;constructor
   ·rintro ⟨i,y,h,b⟩;cases i with
    | zero=>simp at h;subst h;exact .inl b
    | succ i=>exact .inr ⟨i,y,by simpa using h,b⟩
   ·rintro (h | ⟨i,y,h,b⟩)
    ·exact ⟨0,x,rfl,h⟩
    ·exact ⟨i+1,y,by simpa using h,b⟩
  have one:∀ (z:Int) (l:List Int),l.Pairwise (· > ·)→(((if 0 < z then uJ z else id) l).Pairwise (· > ·))∧∀ v,v∈(if 0 < z then uJ z else id) l↔(0 < z∧v=z)∨v∈l:=by
   intro z l g;split
   ·rename_i f;exact ⟨anb z l g,fun v=>by rw [ahP];simp [f]⟩
   ·rename_i f;exact ⟨g,fun v=>by simp [f]⟩
  rw [e];obtain ⟨m,n⟩:=one x.2 _ j.pw;obtain ⟨o,k⟩:=one x.1 _ m;refine ⟨o,fun v => ?_⟩;rw [k,n,j.mem,d];constructor
  ·rintro (⟨a,rfl⟩ | ⟨a,rfl⟩ | a)
   ·exact ⟨a,by omega,.inl (.inl rfl)⟩
   ·exact ⟨a,by omega,.inl (.inr rfl)⟩
   ·exact ⟨a.1,a.2.1,.inr a.2.2⟩
  ·rintro ⟨a,b,(c | c) | c⟩
   ·exact .inl ⟨by omega,c.symm⟩
   ·exact .inr (.inl ⟨by omega,c.symm⟩)
   ·exact .inr (.inr ⟨a,b,c⟩)
theorem anc {hs:List (Int×Int)} {T:List Int} (h:aak hs 1 T):T=gP hs:=ahO (hs:=hs) (top:=1) h.pw (aa0 hs).pw fun v=>by rw [h.mem,(aa0 hs).mem]
def ach (hs:List (Int×Int)) (v:Int):AV:=bE (iS hs v hs.length).length (bJ (iS hs v hs.length))
def jL (hs:List (Int×Int)) (T:List Int):List AV:=T.flatMap fun v=>[aB v,ach hs v]
theorem atQ (hs:List (Int×Int)) (T a:List Int):jL hs (T++a)=jL hs T++jL hs a:=by simp [jL]
theorem ahQ (hs:List (Int×Int)):∀ (T:List Int) (i:Nat) (v:Int),T[i]? = some v→(jL hs T)[i*2]? = some (aB v)∧(jL hs T)[i*2+1]? = some (ach hs v)
 | [],i,v,h=>by simp at h
 | a::T,0,v,h=>by
  simp at h;subst h;exact ⟨rfl,rfl⟩
 | a::T,i+1,v,h=>by
  have b:=ahQ hs T i v (by simpa using h);have e:jL hs (a::T)=aB a::ach hs a::jL hs T:=rfl;rw [e,show (i+1)*2=i*2+1+1 by omega];simpa using b
theorem atR {k r c w:Int} {l:List Int} (h:iX k r c w l=0):∀ n∈l,1≤n∧n≤1073741824:=by
 unfold iX at h;split at h
 ·split at h
  ·split at h
   ·omega
   ·rename_i b;intro n d;have e:eL n=true:=by
     cases a:eL n with
     | true=>rfl
     | false=>exact absurd (List.any_eq_true.2 ⟨n,d,by simp [a]⟩) b
    simpa [eL] using e
  ·omega
 ·omega
theorem ane (k r c w:Int) (bs:List UInt8) (ix:Int):kY k r c w bs ix=0∨(1≤kY k r c w bs ix∧kY k r c w bs ix≤1073741824):=by
 unfold kY;split
 ·rename_i h;right;unfold acg eF dP tA dS at h;simp only [aAq,decide_eq_true_eq] at h;obtain ⟨⟨⟨_,_,_,a,f,e,d,b,g⟩,_⟩,_⟩:=h;exact atR a _ (az8 b)
 ·exact .inl rfl
theorem adw {k r c w:Int} {ps:List aO} {i:Nat} {p:aO} (h:ps[i]? = some p):(eW k r c w ps)[i]? = some (kY k r c w p.1 i,kY k r c w p.2 i):=by
 unfold eW;rw [List.getElem?_mapIdx,h];rfl
theorem aci (k r c w:Int) (ps:List aO):(eW k r c w ps).length=ps.length:=by simp [eW]
theorem ahR {k r c w:Int} {ps:List aO}:∀ v,inH (eW k r c w ps) v→v < 1073741825:=by
 rintro v ⟨i,x,a,d⟩;have b:=(ay8.1 a).1;rw [aci] at b;have:=adw (k:=k) (r:=r) (c:=c) (w:=w) (azm b);rw [this] at a;cases a;have f:=ane k r c w (ps[i].1) i;have e:=ane k r c w (ps[i].2) i;simp only at d;rcases d with rfl | rfl <;> omega
theorem atS {k r c w:Int} {ps:List aO} {i:Nat} {p:aO} (h:ps[i]? = some p) (v:Int):kZ (eW k r c w ps) i v=(decide (kY k r c w p.1 i=v) || decide (kY k r c w p.2 i=v)):=by
 unfold kZ;rw [adw h]
theorem atT (k r c w ver:Int) (v:AV) (ps:List aO) (cells:List AV) (i:Nat) (f:dG v ps cells) (m:bG k r c w=true) (hi:i < ps.length) (z:ps.length≤1000000):aQ ayU 256 [aC k r c w,v,aB (i:Nat),aB ver] ⟨aZ (kZ (eW k r c w ps) i ver),[]⟩:=by
 have y:=f.rd.plain;obtain ⟨p,d⟩:∃ p,ps[i]? = some p:=⟨_,azm hi⟩
 obtain ⟨a,b,q,s,n,t,g,e⟩:=f.at_ i p d;have x:=g.plain;have u:=e.plain;have j:=ahN k r c w i a p.1 q g m;have o:=ahN k r c w i b p.2 s e m;rw [atS d];replace d:=aA.mk d;by_cases l:kY k r c w p.1 i=ver
 ·rw [decide_eq_true l];refine aV Tryz.func256 aD (h:=?_);unfold Tryz.f256;simp only [↓pre,zai,ahy,bH,simprocAttr,aC,f.rd.addr',hi,n]
  (first | refine aI (j) (by first | rfl | simp only [aC,aE, *]) ?_ | refine aH (j) (by first | rfl | simp only [aE, *]) (by intro k;first | rfl | simp only [ *,zaa]) ?_);simp only [↓pre,zab,aZ,simprocAttr,l]
  rfl
 ·rw [decide_eq_false l];refine aV Tryz.func256 aD (h:=?_);unfold Tryz.f256;simp only [↓pre,zai,ahy,bH,simprocAttr,aC,f.rd.addr',hi,n]
  (first | refine aI (j) (by first | rfl | simp only [aC,aE, *]) ?_ | refine aH (j) (by first | rfl | simp only [aE, *]) (by intro k;first | rfl | simp only [ *,zaa]) ?_);simp only [↓pre,zai,ahy,bH,aZ,simprocAttr,f.rd.addr',hi,t,l];(first | refine aI (o) (by first | rfl | simp only [aC,aE, *]) ?_ | refine aH (o) (by first | rfl | simp only [aE, *]) (by intro k;first | rfl | simp only [ *,zaa]) ?_);simp only [↓pre,zab,simprocAttr]
  rfl
theorem atU {P:Program} (hs:List (Int×Int)) (T:List Int):∀ x∈jL hs T,zV P x:=by
 intro x a;unfold jL at a;rw [List.mem_flatMap] at a;obtain ⟨v,_,a⟩:=a;rw [az7,aBo] at a;rcases a with rfl | rfl
 ·exact aev _
 ·exact asl _ _
def oW:Nat→Bool:=fun d=>d != 11
theorem atV (k r c w:Int) (v:AV) (ps:List aO) (cells:List AV) (S:dG v ps cells) (hm:bG k r c w=true) (hn:ps.length≤1000000):aQ ayU 198 [aC k r c w,v] (jC 226 (gP (eW k r c w ps)).length (jL (eW k r c w ps) (gP (eW k r c w ps)))):=by
 have hp:=S.rd.plain;have V:=ahR (k:=k) (r:=r) (c:=c) (w:=w) (ps:=ps);have D:=aci k r c w ps;generalize a1:eW k r c w ps=hs at *
 generalize b8:jC 226 (gP hs).length (jL hs (gP hs))=d2;replace V:=aA.mk V;replace a1:=aA.mk a1;replace D:=aA.mk D;replace hn:=aA.mk hn;refine aV Tryz.func198 oW (h:=?_);unfold Tryz.f198;simp only [↓pre,zad,vR,oW,simprocAttr,aC,bne];rw [bS];refine bU (fun q e m=>∃ top T X,q=top.toNat∧e 1=v∧e 2 = .tptr 0 [aB k,aB r,aB c,aB w]∧e 5=X∧e 6=aB top∧aA (0 < top∧aak hs top T∧T.length+top≤1073741825∧bY .var m 226 2 X T.length (jL hs T))) 1073741825 ⟨1073741825,[],aW,rfl,rfl,rfl,rfl,rfl,⟨by omega,atN V.out,by simp,gK⟩⟩ ?_;rintro q e m ⟨top,T,X,hq,f,o,G,e6,hI⟩;replace hq:=aA.mk hq;simp only [↓pre,simprocAttr,sx];rw [bS];refine bU (fun q e m'=>∃ i b,q+i=ps.length∧e 1=v∧e 2 = .tptr 0 [aB k,aB r,aB c,aB w]∧e 5=X∧e 6=aB top∧e 7=aB b∧e 8=aB (i:Nat)∧m'=m∧aA (xE hs top i 0 b)) ps.length ⟨0,0,by omega,f,o,G,e6,rfl,rfl,rfl,⟨atK hs top⟩⟩ ?_;rintro q1 e m' ⟨i,b,Q,f,o,G,e6,F,M,rfl,hb⟩;replace Q:=aA.mk Q;by_cases K:i < ps.length
 ·have a:((i:Nat):Int) < ((ps.length:Nat):Int):=by omega
  obtain ⟨p,Y⟩:∃ p,ps[i]? = some p:=⟨_,azm K⟩
  obtain ⟨ua,ub,xa,xb,ha,c6,c7,c4⟩:=S.at_ i p Y;have a2:=adw (k:=k) (r:=r) (c:=c) (w:=w) Y;rw [a1.out] at a2;have w1:=cB (n:=i) (by have:=hn.out;omega);replace Y:=aA.mk Y;replace a2:=aA.mk a2;simp only [↓pre,za,vR,oW,simprocAttr,bne,f,M,S.rd.len',a];rw [bS];refine bU (fun q e m2=>∃ C b,q+C=2∧e 1=v∧e 2 = .tptr 0 [aB k,aB r,aB c,aB w]∧e 5=X∧e 6=aB top∧e 7=aB b∧e 8=aB (i:Nat)∧e 9=aB (C:Nat)∧m2=m'∧aA (xE hs top i C b)) 2 ⟨0,b,by omega,f,o,G,e6,F,M,rfl,rfl,hb⟩ ?_;rintro q2 e m2 ⟨C,b,l,f,o,G,e6,F,M,e9,rfl,hb⟩;replace l:=aA.mk l;by_cases R:C < 2
  ·have E:((C:Nat):Int) < 2:=by omega
   have w2:=cB (n:=C) (by omega);obtain ⟨u,bu,xu,z,hu,b7,hz,a5⟩:∃ u bu xu z,cells[i*2+C]? = some u∧aT u bu.length (aJ bu++xu)∧kY k r c w bu i=z∧z=(if C=0 then (kY k r c w p.1 i,kY k r c w p.2 i).1 else (kY k r c w p.1 i,kY k r c w p.2 i).2):=by
    match C,R with
    | 0,_=>exact ⟨ua,p.1,xa,_,ha,c7,rfl,rfl⟩
    | 1,_=>exact ⟨ub,p.2,xb,_,c6,c4,rfl,rfl⟩
   have d:=atM hb.out R a2.out a5;have pu:=b7.plain;have A:=ahN k r c w i u bu xu b7 hm;rw [hz] at A;replace a5:=aA.mk a5;by_cases c1:z < top
   ·by_cases c2:b < z
    ·rw [if_pos ⟨c1,c2⟩] at d;replace d:=aA.mk d;simp only [↓pre,zaj,vR,oW,simprocAttr,bne,f,o,M,e9,E,R,S.rd.addr',K,hu]
     (first | refine aI (A) (by first | rfl | simp only [aC,aE, *]) ?_ | refine aH (A) (by first | rfl | simp only [aE, *]) (by intro k;first | rfl | simp only [ *,zaa]) ?_);simp only [↓pre,zad,oW,simprocAttr,bne,f,o,G,e6,F,M,e9,c1,c2,w2]
     exact ⟨q2 - 1,by have:=l.out;omega,C+1,z,by have:=l.out;omega,rfl,rfl,⟨d.out⟩⟩
    ·rw [if_neg (fun h=>c2 h.2)] at d;replace d:=aA.mk d;simp only [↓pre,zaj,vR,oW,simprocAttr,bne,f,o,M,e9,E,R,S.rd.addr',K,hu]
     (first | refine aI (A) (by first | rfl | simp only [aC,aE, *]) ?_ | refine aH (A) (by first | rfl | simp only [aE, *]) (by intro k;first | rfl | simp only [ *,zaa]) ?_);simp only [↓pre,zad,oW,simprocAttr,bne,f,o,G,e6,F,M,e9,c1,c2,w2]
     exact ⟨q2 - 1,by have:=l.out;omega,C+1,b,by have:=l.out;omega,rfl,rfl,⟨d.out⟩⟩
   ·rw [if_neg (fun h=>c1 h.1)] at d;replace d:=aA.mk d;simp only [↓pre,zaj,vR,oW,simprocAttr,bne,f,o,M,e9,E,R,S.rd.addr',K,hu]
    (first | refine aI (A) (by first | rfl | simp only [aC,aE, *]) ?_ | refine aH (A) (by first | rfl | simp only [aE, *]) (by intro k;first | rfl | simp only [ *,zaa]) ?_);simp only [↓pre,zad,oW,simprocAttr,bne,f,o,G,e6,F,M,e9,c1,w2]
    exact ⟨q2 - 1,by have:=l.out;omega,C+1,b,by have:=l.out;omega,rfl,rfl,⟨d.out⟩⟩
  ·have E:¬ ((C:Nat):Int) < 2:=by omega
   have:C=2:=by have:=l.out;omega
   subst this;simp only [↓pre,zad,oW,simprocAttr,bne,f,o,G,e6,F,M,e9,w1];exact ⟨q1 - 1,by have:=Q.out;omega,i+1,b,by have:=Q.out;omega,rfl,rfl,⟨atL hb.out⟩⟩
 ·have a:¬ ((i:Nat):Int) < ((ps.length:Nat):Int):=by omega
  have a6:i=hs.length:=by have:=Q.out;have:=D.out;omega
  subst a6;by_cases a4:b=0
  ·subst a4;have hT:=anc (atP hI.out.2.1 hb.out);obtain ⟨d5,b0⟩:=al8 (P:=ayU) (by kernel_rfl) hI.out.2.2.2 (fun x hx=>atU hs T x hx);simp only [↓pre,za,vR,oW,simprocAttr,bne,f,G,F,M,S.rd.len',a,b0];rw [←b8,hT]
  ·obtain ⟨hf,L,J⟩:=atO hI.out.2.1 hb.out a4;replace hf:=aA.mk hf;replace L:=aA.mk L;replace J:=aA.mk J;simp only [↓pre,za,vR,oW,bD,simprocAttr,bne,aS,f,F,M,S.rd.len',a,a4];rw [bS];obtain ⟨d3,_,d7,a9⟩:=hI.out;have b4:cG X≠some m'.next:=by
    rcases a9.form with ⟨rfl,_⟩ | ⟨b',rfl,_,h,_⟩
    ·intro h;cases h
    ·intro h';injection h' with h';omega
   have g:∃ s,s=m'.next:=⟨_,rfl⟩
   obtain ⟨s,g⟩:=g;refine bU (fun q e m2=>∃ i cv,q+i=ps.length∧e 1=v∧e 2 = .tptr 0 [aB k,aB r,aB c,aB w]∧e 5=X∧e 7=aB b∧e 11 = .ptr s 0∧e 12=aB (i:Nat)∧m2.at_ s=some ⟨[aB b,cv],226,.var,true⟩∧aA (s < m2.next∧Own m2 3 1 cv (iS hs b i).length (bJ (iS hs b i))∧bY .var m2 226 2 X T.length (jL hs T)∧cG X≠some s)) ps.length ⟨0,aW,by omega,f,o,G,F,by rw [g];rfl,rfl, ?_,⟨?_,gK, ?_,by rw [g];exact b4⟩⟩ ?_
   ·rw [g,cI,if_pos rfl];rfl
   ·rw [g,fC,cQ];omega
   ·exact a9.pp _ _
   ·rintro q3 e m2 ⟨i,cv,B,f,o,G,F,a0,N,W,hJ⟩;replace B:=aA.mk B;by_cases K:i < ps.length
    ·have a:((i:Nat):Int) < ((ps.length:Nat):Int):=by omega
     have w1:=cB (n:=i) (by have:=hn.out;omega);have A:=atT k r c w b v ps cells i S hm K hn.out;rw [a1.out] at A;have I:=am8 hs b i;have Z:=am9 hs b i;replace I:=aA.mk I;replace Z:=aA.mk Z;simp only [↓pre,za,vR,oW,simprocAttr,bne,f,o,F,N,S.rd.len',a];cases b3:kZ hs i b with
     | false =>
      rw [b3] at A I
      (first | refine aI (A) (by first | rfl | simp only [aE, *]) ?_ | refine aH (A) (by first | rfl | simp only [aC,aE, *]) (by intro k;first | rfl | simp only [ *,zaa]) ?_);simp only [↓pre,zad,oW,simprocAttr,bne,f,o,G,F,a0,N,w1,W]
      refine ⟨q3 - 1,by have:=B.out;omega,i+1,cv,by have:=B.out;omega,rfl,rfl,⟨?_⟩⟩;rw [I.out];simpa using hJ.out
     | true =>
      rw [b3] at A I;obtain ⟨a8,H,U,a7⟩:=hJ.out
      (first | refine aI (A) (by first | rfl | simp only [aE, *]) ?_ | refine aH (A) (by first | rfl | simp only [aC,aE, *]) (by intro k;first | rfl | simp only [ *,zaa]) ?_);simp only [↓pre,zad,vR,oW,cO,simprocAttr,bne,a0,N,W]
      refine zU (kd := .flat) (sz:=1) (y:=8) (zl:=[.int .i64 0]) (by kernel_rfl) H (by kernel_rfl) (by kernel_rfl) (by kernel_rfl) rfl lV (by rfl) (by have:=Z.out;have:=hn.out;omega) (by have:=Z.out;have:=hn.out;omega) ?_;intro d4 m3 b2 b1 O d6;have a3:=O s _ W a8 (H.ne_kind W (fun h=>by cases h));have b6:=U.other H (fun h=>by cases h) b1 O;obtain ⟨b',rfl,d8,a⟩:=b2.sl (by omega);simp only [↓pre,za,vR,oW,simprocAttr,bne,aS,f,o,G,F,a0,N,a3,w1];refine ⟨q3 - 1,by have:=B.out;omega,i+1,_,by have:=B.out;omega,rfl,rfl,⟨by omega, ?_,b6.put_ne a7,a7⟩⟩;rw [I.out,if_pos rfl,aA2,acf];exact b2.put_kind a3 (fun h=>by cases h)
    ·have a:¬ ((i:Nat):Int) < ((ps.length:Nat):Int):=by omega
     have a6:i=hs.length:=by have:=B.out;have:=D.out;omega
     subst a6;obtain ⟨a8,H,U,a7⟩:=hJ.out;obtain ⟨m4,c3,b9,c5⟩:=asm (P:=ayU) (t:=223) (el:=226) (x := .int .i64 b) (z:=[.int .i64 0,.slice none 0 0]) H rfl (by kernel_rfl) (by kernel_rfl) (by kernel_rfl) rfl;simp only [↓pre,za,vR,oW,cO,simprocAttr,bne,f,G,a0,N,S.rd.len',a,W,c3];have b5:=U.other H (fun h=>by cases h) (Nat.le_of_eq b9.symm) (fun j k' h1 h2 h3=>by rw [c5 j h3];exact h1);refine zU (kd := .var) (sz:=2) (y:=32) (zl:=[.int .i64 0,.slice none 0 0]) (by kernel_rfl) b5 (by kernel_rfl) (by kernel_rfl) (by kernel_rfl) rfl aet (by rfl) (by have:=J.out;have:=L.out;omega) (by have:=J.out;have:=L.out;omega) ?_;intro c8 m5 c9 d0 c0 d1;simp only [↓pre,simprocAttr,sx,f,o,F];refine ⟨b.toNat,by have:=hq.out;have:=L.out;have:=J.out;omega,b,T++[b],c8,rfl,rfl,rfl,⟨J.out,hf.out,by rw [aA2];have:=L.out;simp only [zak];omega, ?_⟩⟩;rw [aA2,atQ];exact c9
def mN (hs:List (Int×Int)):List Int:=hs.flatMap fun x=>[x.1,x.2]
theorem atW (hs:List (Int×Int)):(mN hs).length=hs.length*2:=by
 induction hs with
 | nil=>rfl
 | cons a hs b=>simp only [mN,zak,List.flatMap_cons,aA2] at b ⊢;omega
theorem ahS:∀ (hs:List (Int×Int)) (i:Nat) (x:Int×Int),hs[i]? = some x→(mN hs)[i*2]? = some x.1∧(mN hs)[i*2+1]? = some x.2
 | [],i,x,h=>by simp at h
 | a::hs,0,x,h=>by simp at h;subst h;exact ⟨rfl,rfl⟩
 | a::hs,i+1,x,h=>by
  have b:=ahS hs i x (by simpa using h);have e:mN (a::hs)=a.1::a.2::mN hs:=rfl;rw [e,show (i+1)*2=i*2+1+1 by omega];simpa using b
def rV (l:List Int) (p:Nat):List AV:=bJ (l.take p)++aBr (l.length - p) (.val (.int .i64 0))
theorem atX (l:List Int) (p:Nat) (h:p≤l.length):(rV l p).length=l.length:=by simp [rV,bJ];omega
theorem atY (l:List Int) (p:Nat) (h:l[p]? = some 0):rV l (p+1)=rV l p:=by
 have a:=(ay8.1 h).1;unfold rV;rw [aA9,h];simp only [Option.toList_some,bJ,aBs,aAr,aAs,azW];rw [show l.length - p=(l.length - (p+1))+1 by omega,List.replicate_succ];rfl
theorem atZ (l:List Int) (p:Nat) (z:Int) (h:l[p]? = some z):cH (rV l p) p [.val (.int .i64 z)]=rV l (p+1):=by
 have b:=(ay8.1 h).1;have a:(bJ (l.take p)).length=p:=by simp [bJ];omega
 unfold cH rV;rw [List.take_left' a,aA9,h];rw [List.drop_append,List.drop_of_length_le (by rw [a];omega),a];simp only [Option.toList_some,zak,bJ,aBs,aAr,aAs,aBt,List.drop_replicate];rw [show l.length - p - (p+(0+1) - p)=l.length - (p+1) by omega];rfl
theorem at0 (l:List Int):rV l l.length=bJ l:=by simp [rV]
theorem at1 (n:Nat):iJ ayU 136 n=some (aBr (n*2) (.val (.int .i64 0))):=by
 have a:bX ayU 136=some 2:=by kernel_rfl
 have b:gF ayU 136=some [.int .i64 0,.int .i64 0]:=by kernel_rfl
 by_cases h:n*2=0
 ·have:n=0:=by omega
  subst this;simp [iJ,a]
 ·simp only [iJ,a,aAk,b,if_neg h];rw [if_pos (show [azD .i64 0,azD .i64 0].length=2 from rfl)];congr 1;apply List.ext_getElem
  ·simp
  ·intro i a b;simp only [List.getElem_map,List.getElem_range,List.getElem_replicate];have:i % 2=0∨i % 2=1:=by omega
   rcases this with e | e <;> rw [e] <;> rfl
theorem at2 (m:aF) (n:Nat) (e:n≤1000000):nK ayU m 132 n n=some ⟨.sl m.next 0 n n true,m.push ⟨aBr (n*2) (.val (.int .i64 0)),136,.flat,true⟩,none⟩:=by
 have d:bO ayU 132=some 136:=by kernel_rfl
 have c:bX ayU 136=some 2:=by kernel_rfl
 have b:jN ayU 136=some 16:=by kernel_rfl
 have a:bK ayU 136 = .flat:=by kernel_rfl
 simp only [nK,d,c,b,a,at1,aAk];rw [if_pos (by omega)];simp [bI]
def xF (k r c w:Int) (ps:List aO):fA:=if cS k r c w ps=0 then ⟨.tup [.sl 0 0 ps.length ps.length true,aB 0],[(136,bJ (mN (eW k r c w ps)))]⟩ else ⟨.tup [aW,aB (cS k r c w ps)],[]⟩
def adx (k r c w:Int) (ps:List aO):AV:=if cS k r c w ps=0 then .tup [.tree ps.length ps.length (bJ (mN (eW k r c w ps))) true,aB 0] else .tup [aW,aB (cS k r c w ps)]
theorem at3 (k r c w:Int) (v:AV) (ps:List aO) (cells:List AV) (hv:dG v ps cells):aQ ayU 94 [aC k r c w,v] (xF k r c w ps):=by
 have hp:=hv.rd.plain;have hd:=qB k r c w;cases hm:bG k r c w with
 | false =>
  have hc:cS k r c w ps=2:=by unfold cS;rw [hm];rfl
  unfold xF;rw [hc,if_neg (by decide)];simp only [hm,azA,if_false] at hd;refine aV Tryz.func94 aD (h:=?_);unfold Tryz.f94;simp only [↓pre,zab,mL,simprocAttr,aC]
  (first | refine aI (hd) (by first | rfl | simp only [aC,aE, *]) ?_ | refine aH (hd) (by first | rfl | simp only [aC,aE, *]) (by intro k;first | rfl | simp only [ *,zaa]) ?_);simp only [↓pre,zab,simprocAttr,aW]
 | true =>
  have b0:=fG hm;simp only [hm,if_true] at hd;by_cases hl:(ps.length:Int)=k+r
  ·obtain ⟨N,hN⟩:∃ N:Nat,k+r=(N:Int):=⟨(k+r).toNat,by omega⟩
   have S:ps.length=N:=by omega
   have W:N≤16:=by omega
   have b4:(mN (eW k r c w ps)).length=N*2:=by rw [atW,aci,S]
   have b2:=at2 aF.empty N (by omega);have f0:aBr (N*2) (AV.val (.int .i64 0))=rV (mN (eW k r c w ps)) 0:=by simp [rV,b4,bJ]
   rw [f0] at b2;generalize a2:eW k r c w ps=hs at *
   generalize P:xF k r c w ps=b7;replace a2:=aA.mk a2;replace b0:=aA.mk b0;replace W:=aA.mk W;replace S:=aA.mk S;replace P:=aA.mk P;refine aV Tryz.func94 aD (h:=?_);unfold Tryz.f94;simp only [↓pre,zab,mL,simprocAttr,aC]
   (first | refine aI (hd) (by first | rfl | simp only [aC,aE, *]) ?_ | refine aH (hd) (by first | rfl | simp only [aC,aE, *]) (by intro k;first | rfl | simp only [ *,zaa]) ?_);simp only [↓pre,zai,mL,simprocAttr,hv.rd.len',hl,hN,b2]
   rw [bS];refine bU (fun q e m=>∃ i,q+i=N∧e 2 = .tptr 0 [aB k,aB r,aB c,aB w]∧e 8 = .sl 0 0 N N true∧e 30=v∧e 31=aB (N:Nat)∧e 32=aB (i:Nat)∧m.at_ 0=some ⟨rV (mN hs) (i*2),136,.flat,true⟩∧aA (0 < m.next∧∀ j p,j < i→ps[j]? = some p→kD k r c p.1.length p.2.length=true)) N ⟨0,by omega,rfl,rfl,rfl,rfl,rfl,rfl,⟨Nat.lt_succ_self 0,fun j p h=>by omega⟩⟩ ?_;rintro q e m ⟨i,V,O,e8,H,C,D,F,hJ⟩;have K:¬ 0=m.next:=by have:=hJ.out.1;omega
   replace V:=aA.mk V;by_cases b8:i < N
   ·have X:((i:Nat):Int) < ((N:Nat):Int):=by omega
    have a0:i < ps.length:=by have:=S.out;omega
    have a5:i < ps.length:=a0;obtain ⟨p,T⟩:∃ p,ps[i]? = some p:=⟨_,azm a0⟩
    obtain ⟨ua,ub,xa,xb,ha,c1,a9,a7⟩:=hv.at_ i p T;obtain ⟨ht,b6⟩:=qX ha c1;have a4:=adw (k:=k) (r:=r) (c:=c) (w:=w) T;rw [a2.out] at a4;obtain ⟨c8,c4⟩:=ahS _ _ _ a4;have w1:=cB (n:=i) (by have:=W.out;omega);have f1:=bW a9;have f2:=bW a7;have o1:=bR a9;have o2:=bR a7;replace T:=aA.mk T;replace a4:=aA.mk a4;replace a5:=aA.mk a5;simp only [↓pre,zai,mL,bD,simprocAttr,aS,eq_self,H,C,D,X,hv.rd.addr',a0,ht,b6,f1,f2];rw [bS];refine bU (fun q e m=>∃ f,q+f=2∧e 2 = .tptr 0 [aB k,aB r,aB c,aB w]∧e 8 = .sl 0 0 N N true∧e 9=aB (i:Nat)∧e 30=v∧e 31=aB (N:Nat)∧e 32=aB (i:Nat)∧e 37 = .agg [ua,ub]∧e 38=aB (f:Nat)∧m.at_ 0=some ⟨rV (mN hs) (i*2+f),136,.flat,true⟩∧aA (0 < m.next∧(1≤f→iY k r c p.1.length=true)∧(2≤f→iY k r c p.2.length=true))) 2 ⟨0,by omega,O,e8,rfl,H,C,D,rfl,rfl, ?_,⟨?_,by omega,by omega⟩⟩ ?_
    ·rw [cI,if_neg K,cF,if_neg K];exact F
    ·rw [fC,cQ];omega
    rintro q2 e m2 ⟨f,d,O,e8,e9,H,C,D,x,o,F,Y⟩;replace d:=aA.mk d;have K:¬ 0=m2.next:=by have:=Y.out.1;omega
    by_cases L:f < 2
    ·have y:((f:Nat):Int) < 2:=by omega
     have w2:=cB (n:=f) (by omega);obtain ⟨u,A,xu,z,hu,b1,hz,I,a3⟩:∃ u A xu z,[ua,ub][f]? = some u∧aT u A.length (aJ A++xu)∧kY k r c w A i=z∧(mN hs)[i*2+f]? = some z∧A=(if f=0 then p.1 else p.2):=by
      match f,L with
      | 0,_=>exact ⟨ua,p.1,xa,_,rfl,a9,rfl,c8,rfl⟩
      | 1,_=>exact ⟨ub,p.2,xb,_,rfl,a7,rfl,c4,rfl⟩
     have ou:=bR b1;have pu:=b1.plain;have a:=am6 k r c w u A xu b1;have b3:=atZ _ _ _ I;have Q:=atY (mN hs) (i*2+f);have b9:=atX (mN hs) (i*2+f) (by have:=(ay8.1 I).1;omega);replace a3:=aA.mk a3;replace hz:=aA.mk hz;replace I:=aA.mk I;replace Q:=aA.mk Q;have a1:iY k r c A.length=true→(1≤f+1→iY k r c p.1.length=true)∧(2≤f+1→iY k r c p.2.length=true):=by
      intro h;have h1:=a3.out;constructor
      ·intro _;by_cases h0:f=0
       ·rw [if_pos h0] at h1;rw [←h1];exact h
       ·exact Y.out.2.1 (by omega)
      ·intro h2;rw [if_neg (by omega)] at h1;rw [←h1];exact h
     replace a1:=aA.mk a1;cases J:dP k r c w A with
     | false =>
      have c5:z=0:=by
       rw [←hz.out];unfold kY acg eF;rw [J];rfl
      subst c5;cases g:iY k r c A.length with
      | false =>
       have Z:qW k r c w A = .tup [nV,aZ false,aB 100]:=by
        unfold iY at g;simp only [Bool.or_eq_false_iff,decide_eq_false_iff_not] at g;unfold qW;rw [J,hm,if_neg (by rintro ⟨_,h⟩;cases h),if_neg (by decide),if_neg g.1,if_neg g.2]
       have c9:dE k r c ps=false:=by
        have:kD k r c p.1.length p.2.length=false:=by
         unfold kD;have h1:=a3.out;split at h1
         ·rw [←h1,g];rfl
         ·rw [←h1,g,Bool.and_false]
        unfold dE;rw [Bool.and_eq_false_iff];right;rw [aBi];exact ⟨p,az8 T.out,by rw [this];decide⟩
       have a8:cS k r c w ps=120:=by unfold cS;rw [hm,c9];rfl
       have c3:b7=⟨.tup [aW,aB 120],[]⟩:=by
        rw [←P.out];unfold xF;rw [a8,if_neg (by decide)]
       rw [Z] at a;unfold nV kK at a;simp only [↓pre,zai,mL,bH,azG,simprocAttr,eq_self,O,x,o,y,L,hu]
       (first | refine aI (a) (by first | rfl | simp only [aE, *]) ?_ | refine aH (a) (by first | rfl | simp only [aC,aE, *]) (by intro k;first | rfl | simp only [ *,zaa]) ?_);simp only [↓pre,zai,mL,bD,aZ,simprocAttr,aS,eq_self,aW]
       rw [c3];rfl
      | true =>
       have Z:qW k r c w A = .tup [nV,aZ false,aB 0]:=by
        unfold iY at g;simp only [Bool.or_eq_true,decide_eq_true_eq] at g;unfold qW;rw [J,hm,if_neg (by rintro ⟨_,h⟩;cases h),if_neg (by decide)];rcases g with h | h
        ·rw [if_pos h]
        ·split
         ·rfl
         ·first | rfl | rw [if_pos h]
       obtain ⟨B,E⟩:=a1.out g;replace B:=aA.mk B;replace E:=aA.mk E;rw [Z] at a;unfold nV kK at a;simp only [↓pre,zai,mL,bH,azG,simprocAttr,eq_self,O,x,o,y,L,hu]
       (first | refine aI (a) (by first | rfl | simp only [aE, *]) ?_ | refine aH (a) (by first | rfl | simp only [aC,aE, *]) (by intro k;first | rfl | simp only [ *,zaa]) ?_);simp only [↓pre,zai,mL,bD,aZ,simprocAttr,aS,eq_self,K,O,e8,e9,H,C,D,x,o,aW,w2]
       exact ⟨q2 - 1,by have:=d.out;omega,f+1,by have:=d.out;omega,rfl,by rw [←ay3,Q.out I.out];exact F,⟨by omega,B.out,E.out⟩⟩
     | true =>
      have g:iY k r c A.length=true:=by
       unfold dP at J;simp only [aAq] at J;unfold iY;rw [J.1,Bool.or_true]
      obtain ⟨B,E⟩:=a1.out g;replace B:=aA.mk B;replace E:=aA.mk E;have Z:qW k r c w A = .tup [(bN k r A).v,aZ true,aB 0]:=by
       unfold qW;rw [if_pos ⟨hm,J⟩]
      rw [Z] at a;have l:z=if (decide ((bN k r A).ix=(i:Int)) && (decide ((bN k r A).kd=2) && (bN k r A).vec.all (fun n=>decide (n=(bN k r A).ce))))=true then (bN k r A).ce else 0:=by
       rw [←hz.out];unfold kY acg eF;rw [J,aBk]
      have d0:(bN k r A).vec.length≤16:=by have h1:=ace A (k+r).toNat;have:=b0.out;simp only [bN];omega
      generalize bN k r A=s at *
      have b5:aT (.tree s.vec.length s.vec.length (bJ s.vec) false) s.vec.length (bJ s.vec++[]):=⟨.inr (.inr ⟨_,false,by rw [aBl],aza _⟩)⟩
      have M:=am2 _ s.vec [] 175 [.tptr 0 [.val (.int .u8 s.kd),aB s.ix,aB s.ce,aB s.st,.tree s.vec.length s.vec.length (bJ s.vec) false,.tree s.data.length s.data.length (aJ s.data) false]] (fun n => !decide (n=s.ce)) b5 (by omega) rfl (fun n _=>atx n s.kd s.ix s.ce s.st _ _);unfold jK.v kK at a;by_cases R:s.kd=2
      ·by_cases U:s.ix=(i:Int)
       ·cases b:s.vec.all (fun n=>decide (n=s.ce)) with
        | true =>
         have t:s.vec.any (fun n => !decide (n=s.ce))=false:=by
          rw [aBu];intro n hn;have:=aAu.1 b n hn;rw [this];decide
         have G:z=s.ce:=by rw [l,decide_eq_true U,decide_eq_true R,b];rfl
         rw [t] at M;replace l:=aA.mk l;replace b:=aA.mk b;replace t:=aA.mk t;rw [G] at b3;replace G:=aA.mk G;simp only [↓pre,zai,mL,bH,azG,simprocAttr,eq_self,O,x,o,y,L,hu];rw [R,U] at a M;have c2:i*2+f+1≤(mN hs).length:=(ay8.1 I.out).1
         (first | refine aI (a) (by first | rfl | simp only [aE, *]) ?_ | refine aH (a) (by first | rfl | simp only [aC,aE, *]) (by intro k;first | rfl | simp only [ *,zaa]) ?_);simp only [↓pre,zai,mL,bD,aZ,simprocAttr,aS,eq_self,e9,azY];(first | refine aI (M) (by first | rfl | simp only [aC,aE, *]) ?_ | refine aH (M) (by first | rfl | simp only [aC,aE, *]) (by intro k;first | rfl | simp only [ *,zaa]) ?_);simp only [↓pre,zai,mL,bH,aZ,simprocAttr,eq_self,e8,e9]
         simp only [↓pre,zai,mL,bH,azG,simprocAttr,aS,eq_self,K,b8,L,F,b9,c2];refine cX (by kernel_rfl) ?_;simp only [↓pre,zai,simprocAttr,eq_self,O,e8,e9,H,C,D,x,o,w2];refine ⟨q2 - 1,by have:=d.out;omega,f+1,by have:=d.out;omega,rfl, ?_,⟨by omega,B.out,E.out⟩⟩;rw [←ay3,←b3];rfl
        | false =>
         have t:s.vec.any (fun n => !decide (n=s.ce))=true:=by
          rw [aBi] at b;obtain ⟨n,hn,h⟩:=b;rw [List.any_eq_true];exact ⟨n,hn,by simpa using h⟩
         have G:z=0:=by rw [l,b];simp
         rw [t] at M;subst G;replace l:=aA.mk l;replace b:=aA.mk b;replace t:=aA.mk t;simp only [↓pre,zai,mL,bH,azG,simprocAttr,eq_self,O,x,o,y,L,hu];rw [R,U] at a M
         (first | refine aI (a) (by first | rfl | simp only [aE, *]) ?_ | refine aH (a) (by first | rfl | simp only [aC,aE, *]) (by intro k;first | rfl | simp only [ *,zaa]) ?_);simp only [↓pre,zai,mL,bD,aZ,simprocAttr,aS,eq_self,e9,azY];(first | refine aI (M) (by first | rfl | simp only [aC,aE, *]) ?_ | refine aH (M) (by first | rfl | simp only [aC,aE, *]) (by intro k;first | rfl | simp only [ *,zaa]) ?_);simp only [↓pre,zai,aZ,simprocAttr,eq_self,K,O,e8,e9,H,C,D,x,o,w2]
         exact ⟨q2 - 1,by have:=d.out;omega,f+1,by have:=d.out;omega,rfl,by rw [←ay3,Q.out I.out];exact F,⟨by omega,B.out,E.out⟩⟩
       ·have G:z=0:=by rw [l,decide_eq_false U];rfl
        subst G;replace l:=aA.mk l;simp only [↓pre,zai,mL,bH,azG,simprocAttr,eq_self,O,x,o,y,L,hu];rw [R] at a
        (first | refine aI (a) (by first | rfl | simp only [aE, *]) ?_ | refine aH (a) (by first | rfl | simp only [aC,aE, *]) (by intro k;first | rfl | simp only [ *,zaa]) ?_);simp only [↓pre,zai,mL,bD,aZ,simprocAttr,aS,eq_self,K,O,e8,e9,H,C,D,x,o,w2,U]
        exact ⟨q2 - 1,by have:=d.out;omega,f+1,by have:=d.out;omega,rfl,by rw [←ay3,Q.out I.out];exact F,⟨by omega,B.out,E.out⟩⟩
      ·have G:z=0:=by rw [l,decide_eq_false R];simp
       subst G;replace l:=aA.mk l;simp only [↓pre,zai,mL,bH,azG,simprocAttr,eq_self,O,x,o,y,L,hu]
       (first | refine aI (a) (by first | rfl | simp only [aE, *]) ?_ | refine aH (a) (by first | rfl | simp only [aC,aE, *]) (by intro k;first | rfl | simp only [ *,zaa]) ?_);simp only [↓pre,zai,mL,bD,aZ,simprocAttr,aS,eq_self,K,O,e8,e9,H,C,D,x,o,w2,R]
       exact ⟨q2 - 1,by have:=d.out;omega,f+1,by have:=d.out;omega,rfl,by rw [←ay3,Q.out I.out];exact F,⟨by omega,B.out,E.out⟩⟩
    ·have y:¬ ((f:Nat):Int) < 2:=by omega
     have:f=2:=by have:=d.out;omega
     subst this;simp only [↓pre,zab,gH,simprocAttr,eq_self,O,e8,H,C,D,o,w1];refine ⟨q - 1,by have:=V.out;omega,i+1,by have:=V.out;omega,rfl,by rw [show (i+1)*2=i*2+2 by omega];exact F,⟨Y.out.1,fun j p' hj a6 => ?_⟩⟩;by_cases c7:j=i
     ·subst c7;rw [T.out] at a6;cases a6;unfold kD;rw [Y.out.2.1 (by omega),Y.out.2.2 (by omega)];rfl
     ·exact hJ.out.2 j p' (by omega) a6
   ·have X:¬ ((i:Nat):Int) < ((N:Nat):Int):=by omega
    have c6:i=N:=by have:=V.out;omega
    subst c6;have c0:dE k r c ps=true:=by
     unfold dE;rw [decide_eq_true hl,aBk,aAu];intro p hp;obtain ⟨j,hj⟩:=aBj hp;have:=(ay8.1 hj).1;have:=S.out;exact hJ.out.2 j p (by omega) hj
    have a8:cS k r c w ps=0:=by unfold cS;rw [hm,c0];rfl
    rw [←b4,at0] at F;simp only [↓pre,zab,gH,simprocAttr,e8,C,D,X];have k9:bK ayU 136 = .flat:=by kernel_rfl
    simp only [F,k9,aAk,if_true,List.any_nil,azA,not_true_eq_false,or_self,if_false,az6];rw [←P.out];unfold xF;rw [if_pos a8,S.out,a2.out];rfl
  ·have hr:dE k r c ps=false:=by unfold dE;rw [decide_eq_false hl];rfl
   have hc:cS k r c w ps=120:=by unfold cS;rw [hm,hr];rfl
   unfold xF;rw [hc,if_neg (by decide)];refine aV Tryz.func94 aD (h:=?_);unfold Tryz.f94;simp only [↓pre,zab,mL,simprocAttr,aC]
   (first | refine aI (hd) (by first | rfl | simp only [aC,aE, *]) ?_ | refine aH (hd) (by first | rfl | simp only [aC,aE, *]) (by intro k;first | rfl | simp only [ *,zaa]) ?_);simp only [↓pre,zai,mL,simprocAttr,aW,hv.rd.len',hl]
theorem anf (k r c w:Int) (v:AV) (ps:List aO) (cells:List AV) (d:dG v ps cells):aQ ayU 94 [aC k r c w,v] ⟨adx k r c w ps,[]⟩:=by
 have h:=at3 k r c w v ps cells d;have a:bK ayU 136 = .flat:=by kernel_rfl
 have b:=aaP 1 h (by unfold xF;split <;> simp [jH,kV,aW,aB,a]);have e:fZ ayU (xF k r c w ps).rows 1 (xF k r c w ps).v=adx k r c w ps:=by
  unfold xF adx;split <;> simp [fZ,iP,aW,aB,a]
 rw [e] at b;exact b
def aa1 (el:TypeId) (n:Nat) (cells:List AV) (e:Int):fA:=⟨.tup [(jC el n cells).v,aB e],(jC el n cells).rows⟩
theorem at4 {f:FuncId} {args:List AV} {el:TypeId} {n:Nat} {cells:List AV} {e:Int} (b:bK ayU el = .flat) (h:aQ ayU f args (aa1 el n cells e)):aQ ayU f args ⟨.tup [bE n cells,aB e],[]⟩:=by
 have a:=aaP 1 h (by unfold aa1 jC;split <;> simp [jH,kV,aW,aB,b]);have c:fZ ayU (aa1 el n cells e).rows 1 (aa1 el n cells e).v = .tup [bE n cells,aB e]:=by
  unfold aa1 jC bE;split <;> simp [fZ,iP,aW,aB,b]
 rw [c] at a;exact a
def at5 (hs:List (Int×Int)) (v:Int) (n:Nat):List Int:=(aAp n).filterMap fun i=>if kZ hs i v=true then none else some (i:Int)
def ang (k r c w ver:Int) (ps:List aO):Int:=if cS k r c w ps=0 then (if 1≤ver∧ver≤1073741824 then 0 else 2) else cS k r c w ps
def at6 (k r c w ver:Int) (ps:List aO):List Int:=if ang k r c w ver ps=0 then at5 (eW k r c w ps) ver ps.length else []
theorem anh {k r c w:Int} {ps:List aO} (h:cS k r c w ps=0):bG k r c w=true∧dE k r c ps=true∧(ps.length:Int)=k+r∧ps.length≤16:=by
 unfold cS at h;cases b:bG k r c w with
 | false=>rw [b] at h;simp at h
 | true =>
  rw [b] at h;cases a:dE k r c ps with
  | false=>rw [a] at h;simp at h
  | true =>
   have d:=fG b;have:(ps.length:Int)=k+r:=by
    unfold dE at a;simp only [aAq,decide_eq_true_eq] at a;exact a.1
   exact ⟨rfl,rfl,this,by omega⟩
abbrev jT:=List (Int×List Int)
def lA (E:jT) (A:List AV):List (Value×AV):=List.zipWith (fun e a=>(azD .i64 e.1,a)) E A
def oX (v:Int):jT→Option Nat
 | []=>none
 | e::E=>if v=e.1 then some 0 else (oX v E).map (·+1)
theorem afk (v:Int):∀ (E:jT) (A:List AV),A.length=E.length→vE (.int .i64) (.int .i64 v) (lA E A)=some (oX v E)
 | [],A,h=>by cases A <;> rfl
 | e::E,[],h=>by simp at h
 | e::E,a::A,h=>by
  have f:=afk v E A (by simpa using h);have c:lA (e::E) (a::A)=(azD .i64 e.1,a)::lA E A:=rfl;rw [c];unfold vE oX;by_cases b:v=e.1
  ·simp [Instr.sameNow,b]
  ·have d:(v == e.1)=false:=by simpa using b
   simp [Instr.sameNow,b,f,d]
theorem acj {v:Int}:∀ {E:jT} {j:Nat},oX v E=some j→∃ e,E[j]? = some e∧e.1=v
 | [],j,h=>by simp [oX] at h
 | e::E,j,h=>by
  unfold oX at h;split at h
  ·rename_i c;cases h;exact ⟨e,rfl,c.symm⟩
  ·obtain ⟨i,hi,rfl⟩:=ayT h;obtain ⟨e',b,a⟩:=acj hi;exact ⟨e',by simpa using b,a⟩
theorem ani {v:Int}:∀ {E:jT},oX v E=none→∀ e∈E,e.1≠v
 | [],_,e,h=>by cases h
 | e::E,h,e',a=>by
  unfold oX at h;split at h
  ·cases h
  ·rename_i b;rw [Option.map_eq_none_iff] at h;rcases az7.1 a with rfl | a
   ·exact fun c=>b c.symm
   ·exact ani h e' a
def rW (v i:Int) (E:jT):jT:=match oX v E with
 | some j=>E.set j (v,((E[j]?).map (·.2)).getD []++[i])
 | none=>E++[(v,[i])]
def lB (hs:List (Int×Int)) (v:Int) (i a:Nat):List Int:=iS hs v i++(match hs[i]? with
 | some x=>if (1≤a∧x.1=v)∨(2≤a∧x.2=v) then [(i:Int)] else []
 | none=>[])
structure EI (hs:List (Int×Int)) (i kk:Nat) (E:jT):Prop where
 nd:(E.map (·.1)).Nodup
 is:∀ e∈E,0 < e.1∧e.2=lB hs e.1 i kk∧e.2≠[]
 all:∀ v,0 < v→lB hs v i kk≠[]→∃ e∈E,e.1=v
theorem at7 (hs:List (Int×Int)):EI hs 0 0 []:=⟨List.nodup_nil,fun e h=>(by cases h),fun v b a=>by
 exfalso;apply a;unfold lB;have:iS hs v 0=[]:=rfl;rw [this];cases h:hs[0]? with
 | none=>rfl
 | some x=>simp⟩
theorem anj {hs:List (Int×Int)} {v:Int} {i:Nat} (hi:i < hs.length):lB hs v i 2=lB hs v (i+1) 0:=by
 have a:lB hs v (i+1) 0=iS hs v (i+1):=by
  unfold lB;cases h:hs[i+1]? with
  | none=>simp
  | some x=>simp
 rw [a,am8];unfold lB kZ;rw [azm hi];simp
theorem at8 {hs:List (Int×Int)} {i:Nat} {E:jT} (hi:i < hs.length) (h:EI hs i 2 E):EI hs (i+1) 0 E :=
 ⟨h.nd,fun e a=>by rw [←anj hi];exact h.is e a,fun v c b=>h.all v c (by rw [anj hi];exact b)⟩
theorem ank {hs:List (Int×Int)} {i a:Nat} {E:jT} {x:Int×Int} (g:hs[i]? = some x) (h:EI hs i a E) (j:a < 2) (b:∀ v,0 < v→lB hs v i (a+1)=lB hs v i a):EI hs i (a+1) E :=
 ⟨h.nd,fun e d=>by have:=h.is e d;exact ⟨this.1,by rw [b _ this.1];exact this.2.1,this.2.2⟩,fun v c f=>h.all v c (by rw [←b v c];exact f)⟩
theorem anl {hs:List (Int×Int)} {i r:Nat} {E:jT} {z:Int} (h:EI hs i r E) (D:0 < z) (H:lB hs z i (r+1)=lB hs z i r++[(i:Int)]) (B:∀ v,v≠z→lB hs v i (r+1)=lB hs v i r):EI hs i (r+1) (rW z i E):=by
 unfold rW;cases G:oX z E with
 | some j =>
  obtain ⟨e,p,d⟩:=acj G;have m:=(ay8.1 p).1;have u:=az8 p;have s:(E.set j (z,((E[j]?).map (·.2)).getD []++[(i:Int)])).map (·.1)=E.map (·.1):=by
   rw [List.map_set];apply aAi;intro k;rw [aAn];split
   ·rename_i g;subst g;have C:E[j]=e:=(ay8.1 p).2;simp [m,C,d]
   ·rfl
  refine ⟨by simp only;rw [s];exact h.nd,fun e' c => ?_,fun v F n => ?_⟩
  ·simp only at c;obtain ⟨k,g⟩:=aBj c;rw [aAn] at g;split at g
   ·rename_i l;subst l
    first | rw [if_pos m] at g | skip
    cases g;rw [p];simp only [az6,aAE];have:=h.is e u;refine ⟨D, ?_,by simp⟩;rw [this.2.1,d,H]
   ·rename_i l;have M:=az8 g;have:=h.is e' M;have n:e'.1≠z:=by
     intro L;obtain ⟨x,y⟩:=ay8.1 g;obtain ⟨_,A⟩:=ay8.1 p;have I:=aBv.1 h.nd;rcases Nat.lt_trichotomy j k with o | o | o
     ·have:=I j k (by simpa using m) (by simpa using x) o;simp [y,A,d,L] at this
     ·exact l o
     ·have:=I k j (by simpa using x) (by simpa using m) o;simp [y,A,d,L] at this
    exact ⟨this.1,by rw [B _ n];exact this.2.1,this.2.2⟩
  ·simp only;by_cases f:v=z
   ·subst f;exact ⟨_,az8 (i:=j) (by rw [aAn];simp [m];rfl),rfl⟩
   ·obtain ⟨e',c,q⟩:=h.all v F (by rw [←B v f];exact n);refine ⟨e', ?_,q⟩;obtain ⟨k,g⟩:=aBj c;have l:j≠k:=by
     rintro rfl;rw [p] at g;cases g;exact f (q.symm.trans d)
    exact az8 (i:=k) (by rw [aAn,if_neg l];exact g)
 | none =>
  have t:=ani G;have w:lB hs z i r=[]:=by
   by_cases J:lB hs z i r=[]
   ·exact J
   ·obtain ⟨e,p,d⟩:=h.all z D J;exact absurd d (t e p)
  refine ⟨?_,fun e' c => ?_,fun v F n => ?_⟩
  ·simp only [aBs,aAr,aAs];rw [aBw];refine ⟨h.nd,by simp,fun a N b K => ?_⟩;simp at K;subst K;obtain ⟨e,p,rfl⟩:=azp.1 N;exact t e p
  ·rcases aBp.1 c with c | c
   ·have:=h.is e' c;exact ⟨this.1,by rw [B _ (t e' c)];exact this.2.1,this.2.2⟩
   ·simp at c;subst c;exact ⟨D,by simp only;rw [H,w];rfl,by simp⟩
  ·by_cases f:v=z
   ·subst f;exact ⟨(v,[(i:Int)]),by simp,rfl⟩
   ·obtain ⟨e',c,q⟩:=h.all v F (by rw [←B v f];exact n);exact ⟨e',List.mem_append_left _ c,q⟩
theorem at9 {hs:List (Int×Int)} {i c:Nat} {E:jT} {x:Int×Int} {z:Int} (f:hs[i]? = some x) (h:EI hs i c E) (l:c < 2) (e:z=if c=0 then x.1 else x.2):EI hs i (c+1) (if 0 < z∧(c=0∨z≠x.1) then rW z i E else E):=by
 have a:∀ v k,lB hs v i k=iS hs v i++(if (1≤k∧x.1=v)∨(2≤k∧x.2=v) then [(i:Int)] else []):=fun v k=>by unfold lB;rw [f]
 have g:c=0∨c=1:=by omega
 rcases g with rfl | rfl
 ·simp only [if_true] at e;subst e;by_cases b:0 < x.1
  ·rw [if_pos ⟨b,.inl rfl⟩];refine anl h b ?_ fun v d => ?_
   ·rw [a,a];simp
   ·rw [a,a];have:¬ x.1=v:=fun h=>d h.symm
    simp [this]
  ·rw [if_neg (fun h=>b h.1)];refine ank f h l fun v d => ?_
   rw [a,a];have:¬ x.1=v:=by omega
   simp [this]
 ·simp only [aBm,if_false,false_or] at e ⊢;subst e;by_cases b:0 < x.2∧x.2≠x.1
  ·rw [if_pos b];refine anl h b.1 ?_ fun v d => ?_
   ·rw [a,a];have:¬ x.1=x.2:=fun h=>b.2 h.symm
    simp [this]
   ·rw [a,a];have:¬ x.2=v:=fun h=>d h.symm
    simp [this]
  ·rw [if_neg b];refine ank f h l fun v d => ?_
   rw [a,a];by_cases j:x.1=v
   ·simp [j]
   ·have:¬ x.2=v:=by omega
    simp [j,this]
structure mA (m:aF) (g:Nat) (E:jT) (A:List AV):Prop where
 mp:m.mm.maps g=some (lA E A)
 len:A.length=E.length
 own:∀ (j:Nat) (e:Int×List Int) (a:AV),E[j]? = some e→A[j]? = some a→Own m 3 1 a e.2.length (bJ e.2)
 apart:∀ (i j:Nat) (a b:AV) (x:Nat),A[i]? = some a→A[j]? = some b→cG a=some x→cG b=some x→i=j
def vT (E:jT) (A:List AV) (v:Int):AV:=match oX v E with
 | some j=>A.getD j aW
 | none=>aW
def vU (E:jT) (v:Int):List Int:=match oX v E with
 | some j=>((E[j]?).map (·.2)).getD []
 | none=>[]
def yO (E:jT) (A:List AV) (v:Int) (a:AV):List AV:=match oX v E with
 | some j=>A.set j a
 | none=>A++[a]
theorem afl:zN ayU 331=some (.int .i64,aW):=by kernel_rfl
theorem ady {E:jT} {A:List AV} (j:Nat):(lA E A)[j]? = (E[j]?).bind fun e=>(A[j]?).map fun a=>(azD .i64 e.1,a):=by
 unfold lA;rw [List.getElem?_zipWith];cases E[j]? <;> cases A[j]? <;> rfl
theorem mA.look {m:aF} {g:Nat} {E:jT} {A:List AV} (h:mA m g E A) (v:Int):xY ayU m 331 (.val (.map (some g))) (.val (.int .i64 v))=some (vT E A v):=by
 refine ary ?_;simp only [abA,afl,sU,h.mp,jO,aAk,az6,afk v E A h.len];unfold vT;cases d:oX v E with
 | none=>rfl
 | some j =>
  obtain ⟨e,b,_⟩:=acj d;have c:=(ay8.1 b).1;have a:j < A.length:=by rw [h.len];exact c
  have f:A[j]? = some A[j]:=azm a;simp only [ady,b,f,aAk,az6,azs,aAE]
theorem mA.own_look {m:aF} {g:Nat} {E:jT} {A:List AV} (h:mA m g E A) (v:Int):Own m 3 1 (vT E A v) (vU E v).length (bJ (vU E v)):=by
 unfold vT vU;cases f:oX v E with
 | none=>exact gK
 | some j =>
  obtain ⟨e,a,_⟩:=acj f;have d:=(ay8.1 a).1;have b:j < A.length:=by rw [h.len];exact d
  have c:A[j]? = some A[j]:=azm b;have:=h.own j e _ a c;simpa only [a,az6,aAE,azs,c] using this
theorem mA.upd {m m':aF} {g:Nat} {E:jT} {A:List AV} (h:mA m g E A) (v i:Int) {a:AV} (hn:m.next≤m'.next) (o:∀ j k,m.at_ j=some k→j < m.next→cG (vT E A v)≠some j→m'.at_ j=some k) (w:∀ j,cG a=some j→j=m.next∨cG (vT E A v)=some j) (Z:m'.mm=m.mm) (W:Own m' 3 1 a ((vU E v).length+1) (bJ (vU E v)++[aB i])) :
 vG ayU m' 331 (.val (.map (some g))) (.val (.int .i64 v)) a=some ⟨eI,m'.setM (m'.mm.set g (lA (rW v i E) (yO E A v a))),none⟩∧mA (m'.setM (m'.mm.set g (lA (rW v i E) (yO E A v a)))) g (rW v i E) (yO E A v a):=by
 have S:m'.mm.maps g=some (lA E A):=by rw [Z];exact h.mp
 have a2:(m'.setM (m'.mm.set g (lA (rW v i E) (yO E A v a)))).mm.maps g=some (lA (rW v i E) (yO E A v a)):=by simp [aF.setM,Maps.set]
 have p:∀ (j:Nat) (e:Int×List Int) (b:AV),E[j]? = some e→A[j]? = some b→(∀ x,cG b=some x→cG (vT E A v)≠some x)→Own m' 3 1 b e.2.length (bJ e.2):=fun j e b q l C=>by
  have:=h.own j e b q l;refine this.keep hn fun x k d B=>o x k B ?_ (C x d)
  rcases this.form with ⟨rfl,_⟩ | ⟨z,rfl,_,r,_⟩
  ·cases d
  ·injection d with d;omega
 have r:∀ (j:Nat) (b:AV) (x:Nat),A[j]? = some b→cG b=some x→x < m.next:=fun j b x l C=>by
  have L:=(ay8.1 l).1;have a0:j < E.length:=by rw [←h.len];exact L
  rcases (h.own j E[j] b (azm a0) l).form with ⟨rfl,_⟩ | ⟨z,rfl,_,r,_⟩
  ·cases C
  ·injection C with C;omega
 cases t:oX v E with
 | none =>
  have hL:vT E A v=aW:=by unfold vT;rw [t]
  have P:vU E v=[]:=by unfold vU;rw [t]
  have I:yO E A v a=A++[a]:=by unfold yO;rw [t]
  have M:rW v i E=E++[(v,[i])]:=by unfold rW;rw [t]
  rw [hL] at w p o;rw [P] at W;have Q:∀ x,cG a=some x→x=m.next:=fun x C=>by
   rcases w x C with h | h
   ·exact h
   ·cases h
  rw [I,M] at *
  have hz:lA (E++[(v,[i])]) (A++[a])=lA E A++[(azD .i64 v,a)]:=by
   unfold lA;rw [List.zipWith_append (by rw [h.len])];rfl
  refine ⟨?_,by simp [aF.setM,Maps.set],by simp [h.len],fun j e b q l => ?_,fun H j G z x K N n d => ?_⟩
  ·refine ajT ?_;simp only [zO,afl,sU,S,jO,aAk,az6,afk v E A h.len,t,hz];rfl
  ·by_cases R:j < E.length
   ·rw [azg R] at q;rw [azg (by rw [h.len];exact R)] at l;exact (p j e b q l (fun x _ h=>by cases h)).setM _
   ·rw [azh (by omega)] at q;rw [azh (by rw [h.len];omega)] at l;have U:j - E.length=0:=by
     have:=(ay8.1 q).1;simp at this;omega
    have Y:j - A.length=0:=by rw [h.len];exact U
    rw [U] at q;rw [Y] at l;cases q;cases l;exact W.setM _
  ·have u:∀ (k:Nat) (c:AV),(A++[a])[k]? = some c→A[k]? = some c∨(k=A.length∧c=a):=fun k c s=>by
    by_cases B:k < A.length
    ·rw [azg B] at s;exact .inl s
    ·rw [azh (by omega)] at s;have:=(ay8.1 s).1;simp at this;have X:k - A.length=0:=by omega
     rw [X] at s;cases s;exact .inr ⟨by omega,rfl⟩
   rcases u H G K with F | ⟨F,rfl⟩ <;> rcases u j z N with y | ⟨y,rfl⟩
   ·exact h.apart H j G z x F y n d
   ·have:=r H G x F n;have:=Q x d;omega
   ·have:=r j z x y d;have:=Q x n;omega
   ·omega
 | some f =>
  obtain ⟨T,J,a3⟩:=acj t;have L:=(ay8.1 J).1;have a1:f < A.length:=by rw [h.len];exact L
  have D:A[f]? = some A[f]:=azm a1;have hL:vT E A v=A[f]:=by unfold vT;simp only [t,azs,D,aAE]
  have P:vU E v=T.2:=by unfold vU;simp only [t,J,az6,aAE]
  have I:yO E A v a=A.set f a:=by unfold yO;rw [t]
  have M:rW v i E=E.set f (v,T.2++[i]):=by unfold rW;simp only [t,J,az6,aAE]
  rw [hL] at w p o;rw [P] at W;rw [I,M] at *
  have hz:lA (E.set f (v,T.2++[i])) (A.set f a)=(lA E A).set f (azD .i64 v,a):=by
   apply aAi;intro k;rw [ady,aAn,aAn,aAn,ady];by_cases B:f=k
   ·subst B;have h3:f < (lA E A).length:=by unfold lA;rw [List.length_zipWith];omega
    simp [L,h.len,h3]
   ·simp [B]
  refine ⟨?_,by simp [aF.setM,Maps.set],by simp [h.len],fun j e b q l => ?_,fun H j G z x K N n d => ?_⟩
  ·refine ajT ?_;simp only [zO,afl,sU,S,jO,aAk,az6,afk v E A h.len,t,hz];rfl
  ·rw [aAn] at q l;by_cases O:f=j
   ·subst O;simp [L] at q;simp [h.len,L] at l;subst q;subst l;have:Own m' 3 1 a (T.2++[i]).length (bJ (T.2++[i])):=by
     rw [aA2,acf];exact W
    exact this.setM _
   ·rw [if_neg O] at q l;refine (p j e b q l (fun x C y => ?_)).setM _;exact O (h.apart f j _ b x D l y C)
  ·have u:∀ (k:Nat) (c:AV),(A.set f a)[k]? = some c→(k≠f∧A[k]? = some c)∨(k=f∧c=a):=fun k c s=>by
    rw [aAn] at s;by_cases B:f=k
    ·subst B;simp [h.len,L] at s;exact .inr ⟨rfl,s.symm⟩
    ·rw [if_neg B] at s;exact .inl ⟨fun h=>B h.symm,s⟩
   rcases u H G K with ⟨h0,F⟩ | ⟨F,rfl⟩ <;> rcases u j z N with ⟨h3,y⟩ | ⟨y,rfl⟩
   ·exact h.apart H j G z x F y n d
   ·exfalso;rcases w x d with V | V
    ·have:=r H G x F n;omega
    ·exact h0 (h.apart H f G _ x F D n V)
   ·exfalso;rcases w x n with V | V
    ·have:=r j z x y d;omega
    ·exact h3 (h.apart j f z _ x y D d V)
   ·omega
def lN (L:List (Int×AV)):List AV:=L.flatMap fun x=>[aB x.1,x.2]
theorem aua (a b:List (Int×AV)):lN (a++b)=lN a++lN b:=by simp [lN]
def yP (x:Int×AV):List (Int×AV)→List (Int×AV)
 | []=>[x]
 | y::l=>if y.1 < x.1 then x::y::l else y::yP x l
def mB (L:List (Int×AV)):List (Int×AV):=L.foldr yP []
theorem ahT (x:Int×AV):∀ l,(yP x l).Perm (x::l)
 | [] => .refl _
 | y::l=>by
  unfold yP;split
  ·exact .refl _
  ·exact ((ahT x l).cons y).trans (.swap x y l)
theorem aal:∀ L,(mB L).Perm L
 | [] => .refl _
 | x::L=>(ahT x (mB L)).trans ((aal L).cons x)
theorem anm (x:Int×AV):∀ l,l.Pairwise (fun a b=>b.1 < a.1)→(∀ y∈l,y.1≠x.1)→(yP x l).Pairwise (fun a b=>b.1 < a.1)
 | [],_,_=>aBn _ _
 | y::l,h,hn=>by
  unfold yP;rw [aBq] at h;split
  ·rename_i d;rw [aBq];refine ⟨fun z c => ?_,aBq.2 h⟩;rcases az7.1 c with rfl | c
   ·exact d
   ·have:=h.1 z c;omega
  ·rename_i d;rw [aBq];refine ⟨fun z c => ?_,anm x l h.2 fun z c=>hn z (by simp [c])⟩;rw [(ahT x l).mem_iff,az7] at c;rcases c with rfl | c
   ·have:=hn y (by simp);omega
   ·exact h.1 z c
theorem ahU:∀ L:List (Int×AV),(L.map (·.1)).Nodup→(mB L).Pairwise (fun a b=>b.1 < a.1)
 | [],_ => .nil
 | x::L,h=>by
  simp only [aAr,List.nodup_cons] at h;refine anm x _ (ahU L h.2) fun y c => ?_
  have c:y∈mB L:=c;rw [(aal L).mem_iff] at c;intro e;exact h.1 (azp.2 ⟨y,c,e⟩)
abbrev mY:=Int×Nat×List Int
def mO (x:mY):Int×AV:=(x.1,.sl x.2.1 0 x.2.2.length x.2.2.length false)
def lC:Nat→List mY→List AV
 | _,[]=>[]
 | n,x::X=>aB x.1 :: .sl n 0 x.2.2.length x.2.2.length false::lC (n+1) X
def oY (X:List mY):List (TypeId×List AV):=X.map fun x=>(3,bJ x.2.2)
theorem ann (m:aF) (k:Nat):∀ (X:List mY) (a:List (Nat×Nat)) (rows:List (TypeId×List AV)),(∀ x∈X,m.at_ x.2.1=some ⟨bJ x.2.2,3,.flat,true⟩)→(X.map (·.2.1)).Nodup→(∀ x∈X,∀ i∈a,i.1≠x.2.1) →
 fN ayU m k a rows (lN (X.map mO))=some (lC rows.length X,a++X.map (fun x=>(x.2.1,0)),rows++oY X)
 | [],a,rows,_,_,_=>by
  have:lN (([]:List mY).map mO)=[]:=rfl;rw [this];cases k <;> (unfold fN;simp [lC,oY])
 | x::X,a,rows,h1,h2,h3=>by
  have j:bK ayU 3 = .flat:=by kernel_rfl
  simp only [aAr,List.nodup_cons] at h2;have e:lN ((x::X).map mO)=aB x.1 :: .sl x.2.1 0 x.2.2.length x.2.2.length false::lN (X.map mO):=rfl;have h:=h1 x (by simp);have b:a.any (fun i=>i.1 == x.2.1)=false:=by
   rw [aBu];intro i hi;simpa using h3 x (by simp) i hi
  have g:=ann m k X (a++[(x.2.1,0)]) (rows++[(3,bJ x.2.2)]) (fun y d=>h1 y (by simp [d])) h2.2 (fun y d i hi=>by
   rcases aBp.1 hi with hi | hi
   ·exact h3 y (by simp [d]) i hi
   ·simp at hi;subst hi;intro e;exact h2.1 (azp.2 ⟨y,d,e.symm⟩))
  have l:canon ayU m k a rows (aB x.1)=some (aB x.1,a,rows):=aev _ m k a rows;have hs:canon ayU m k a rows (.sl x.2.1 0 x.2.2.length x.2.2.length false)=some (.sl rows.length 0 x.2.2.length x.2.2.length false,a++[(x.2.1,0)],rows++[(3,bJ x.2.2)]):=by
   cases k <;> (unfold canon;simp only [h,b,j,aAk,if_true,aBx,azA,ne_eq,not_true_eq_false,or_self,if_false])
  rw [e];have f:∀ (c:AV) (cs:List AV) (i:List (Nat×Nat)) (r:List (TypeId×List AV)),fN ayU m k i r (c::cs)=(canon ayU m k i r c).bind fun r=>(fN ayU m k r.2.1 r.2.2 cs).map fun s=>(r.1::s.1,s.2):=by
   intro c cs i r;cases k <;> (rw [fN])
  rw [f,l,aAk];simp only;rw [f,hs,aAk];simp only;rw [g];simp [lC,oY,azW]
theorem ano {P:Program} {rows:List (TypeId×List AV)} {d:Nat} {c:AV} {cs:List AV}:iP P rows d (c::cs)=fZ P rows d c::iP P rows d cs:=by
 cases d <;> (rw [iP])
theorem anp {P:Program} {rows:List (TypeId×List AV)} {d:Nat} {c:AV} {cs:List AV}:kV P rows d (c::cs)=(jH P rows d c && kV P rows d cs):=by
 cases d <;> (rw [kV])
theorem anq (a:List (TypeId×List AV)) (d:Nat):∀ (X:List mY) (n:Nat),(∀ j x,X[j]? = some x→a[n+j]? = some (3,bJ x.2.2))→iP ayU a d (lC n X)=X.flatMap (fun x=>[aB x.1,.tree x.2.2.length x.2.2.length (bJ x.2.2) false])∧kV ayU a d (lC n X)=true
 | [],n,_=>by
  cases d <;> (unfold lC iP kV;exact ⟨rfl,rfl⟩)
 | x::X,n,h=>by
  have e:bK ayU 3 = .flat:=by kernel_rfl
  have c:=anq a d X (n+1) fun j y f=>by
   have:=h (j+1) y (by simpa using f);rw [←this];congr 1;omega
  have b:=h 0 x rfl;rw [Nat.add_zero] at b;have g:a.getD n (0,[])=(3,bJ x.2.2):=by rw [azs,b];rfl
  have l:fZ ayU a d (aB x.1)=aB x.1:=by cases d <;> (unfold aB fZ;rfl)
  have m:fZ ayU a d (.sl n 0 x.2.2.length x.2.2.length false) = .tree x.2.2.length x.2.2.length (bJ x.2.2) false:=by
   cases d <;> (unfold fZ;simp only [g,e,if_true,aBx])
  have i:jH ayU a d (aB x.1)=true:=by cases d <;> (unfold aB jH;rfl)
  have k:jH ayU a d (.sl n 0 x.2.2.length x.2.2.length false)=true:=by
   cases d <;> (unfold jH;simp [b,e])
  constructor
  ·have:iP ayU a d (lC n (x::X))=fZ ayU a d (aB x.1)::fZ ayU a d (.sl n 0 x.2.2.length x.2.2.length false)::iP ayU a d (lC (n+1) X):=by
    show iP ayU a d (aB x.1 :: .sl n 0 x.2.2.length x.2.2.length false::lC (n+1) X)=_;rw [ano,ano]
   rw [this,l,m,c.1];rfl
  ·have:kV ayU a d (lC n (x::X))=(jH ayU a d (aB x.1) && (jH ayU a d (.sl n 0 x.2.2.length x.2.2.length false) && kV ayU a d (lC (n+1) X))):=by
    show kV ayU a d (aB x.1 :: .sl n 0 x.2.2.length x.2.2.length false::lC (n+1) X)=_;rw [anp,anp]
   rw [this,i,k,c.2];rfl
def ack (x:mY):List mY→List mY
 | []=>[x]
 | y::l=>if y.1 < x.1 then x::y::l else y::ack x l
def aa2 (L:List mY):List mY:=L.foldr ack []
theorem anr (x:mY):∀ l:List mY,yP (mO x) (l.map mO)=(ack x l).map mO
 | []=>rfl
 | y::l=>by
  have a:=anr x l;unfold ack;show (if (mO y).1 < (mO x).1 then _ else mO y::yP (mO x) (l.map mO))=_;rw [a];show (if y.1 < x.1 then _ else _)=_;split <;> rfl
theorem ahV:∀ L:List mY,mB (L.map mO)=(aa2 L).map mO
 | []=>rfl
 | x::L=>by
  have a:=ahV L;show yP (mO x) (mB (L.map mO))=_;rw [a,anr];rfl
theorem ans (x:mY):∀ l,(ack x l).Perm (x::l)
 | [] => .refl _
 | y::l=>by
  unfold ack;split
  ·exact .refl _
  ·exact ((ans x l).cons y).trans (.swap x y l)
theorem ant:∀ L,(aa2 L).Perm L
 | [] => .refl _
 | x::L=>(ans x (aa2 L)).trans ((ant L).cons x)
def slB:AV→Nat
 | .sl b _ _ _ _=>b
 | _=>0
def trip (E:jT) (A:List AV) (j:Nat):mY:=((E.getD j (0,[])).1,slB (A.getD j aW),(E.getD j (0,[])).2)
theorem aub {m:aF} {g:Nat} {E:jT} {A:List AV} {hs:List (Int×Int)} {N:Nat} {S:List Nat} (W:mA m g E A) (U:EI hs N 0 E) (hN:hs.length=N) (H:S.Nodup) (l:∀ j∈S,j < E.length) (F:∀ j,j < E.length→j∈S) :
 ((S.map fun j=>((E.getD j (0,[])).1,A.getD j aW)).map (·.1)).Nodup∧(∀ x∈S.map fun j=>((E.getD j (0,[])).1,A.getD j aW),dL x.2=true)∧∃ X:List mY,mB (S.map fun j=>((E.getD j (0,[])).1,A.getD j aW))=X.map mO∧(∀ x∈X,m.at_ x.2.1=some ⟨bJ x.2.2,3,.flat,true⟩∧x.2.1 < m.next)∧(X.map (·.2.1)).Nodup∧X.map (fun x=>(x.1,x.2.2))=(gP hs).map (fun v=>(v,iS hs v N)):=by
 have t:∀ j,j < E.length→∃ q b,E[j]? = some q∧A[j]? = some (.sl b 0 q.2.length q.2.length false)∧m.at_ b=some ⟨bJ q.2,3,.flat,true⟩∧b < m.next∧0 < q.1∧q.2=iS hs q.1 N∧q.2≠[]:=by
  intro j k;have C:j < A.length:=by rw [W.len];exact k
  have o:E[j]? = some E[j]:=azm k;have hi:=U.is _ (az8 o);have V:lB hs E[j].1 N 0=iS hs E[j].1 N:=by
   unfold lB;rw [List.getElem?_eq_none (by omega)];simp
  rw [V] at hi;obtain ⟨b,G,n,O⟩:=(W.own j _ _ o (azm C)).sl (List.length_pos_iff.2 hi.2.2);exact ⟨E[j],b,o,by rw [azm C,G],n,O,hi.1,hi.2.1,hi.2.2⟩
 have T:∀ j,j < E.length→((E.getD j (0,[])).1,A.getD j aW)=mO (trip E A j):=by
  intro j k;obtain ⟨q,b,r,n,_⟩:=t j k;simp only [trip,mO,azs,r,n,aAE,slB]
 have Q:(S.map fun j=>((E.getD j (0,[])).1,A.getD j aW))=(S.map (trip E A)).map mO:=by
  rw [aBy];exact aAw fun j k=>T j (l j k)
 have p:((S.map fun j=>((E.getD j (0,[])).1,A.getD j aW)).map (·.1)).Nodup:=by
  rw [aBy];refine aBz.2 (H.imp_of_mem fun {a b} J G u o => ?_);have r:=l a J;have n:=l b G;simp only [Function.comp,azs,azm r,azm n,aAE] at o;have Z:=aBv.1 U.nd;rcases Nat.lt_trichotomy a b with h | h | h
  ·exact Z a b (by simpa using r) (by simpa using n) h (by simpa using o)
  ·exact u h
  ·exact Z b a (by simpa using n) (by simpa using r) h (by simpa using o.symm)
 have B:=ahU _ p;have d:=ant (S.map (trip E A));have hX:∀ x∈aa2 (S.map (trip E A)),∃ j,j < E.length∧x=trip E A j:=by
  intro x f;rw [d.mem_iff,azp] at f;obtain ⟨j,k,rfl⟩:=f;exact ⟨j,l j k,rfl⟩
 have s:∀ x∈aa2 (S.map (trip E A)),m.at_ x.2.1=some ⟨bJ x.2.2,3,.flat,true⟩∧x.2.1 < m.next∧0 < x.1∧x.2.2=iS hs x.1 N∧x.2.2≠[]:=by
  intro x f;obtain ⟨j,k,rfl⟩:=hX x f;obtain ⟨q,b,r,n,O,h4,M,L,I⟩:=t j k;simp only [trip,azs,r,n,aAE,slB];exact ⟨O,h4,M,L,I⟩
 refine ⟨p,fun x f => ?_,aa2 (S.map (trip E A)),by rw [Q,ahV],fun x f=>⟨(s x f).1,(s x f).2.1⟩, ?_, ?_⟩
 ·rw [Q,azp] at f;obtain ⟨y,_,rfl⟩:=f;rfl
 ·refine (d.map (·.2.1)).nodup_iff.2 ?_;rw [aBy];refine aBz.2 (H.imp_of_mem fun {a b} J G u o => ?_);obtain ⟨q,b1,r,n,_⟩:=t a (l a J);obtain ⟨a2,b2,a0,D,_⟩:=t b (l b G);simp only [Function.comp,trip,azs,n,D,aAE,slB] at o;exact u (W.apart a b _ _ b1 n D rfl (by rw [o];rfl))
 ·have w:(aa2 (S.map (trip E A))).map (·.1)=gP hs:=by
   refine anc ⟨?_,fun v => ?_⟩
   ·rw [Q,ahV] at B;rw [aBz] at B ⊢;exact B
   ·constructor
    ·intro hv;obtain ⟨x,f,rfl⟩:=azp.1 hv;obtain ⟨_,_,M,L,I⟩:=s x f;refine ⟨M,by omega, ?_⟩;rw [L] at I;obtain ⟨c,hc⟩:=List.exists_mem_of_ne_nil _ I;unfold iS at hc;obtain ⟨i,_,hi⟩:=aBA.1 hc;split at hi
     ·rename_i h;unfold kZ at h;cases z:hs[i]? with
      | none=>rw [z] at h;simp at h
      | some y =>
       rw [z] at h;simp only [Bool.or_eq_true,decide_eq_true_eq] at h;exact ⟨i,y,z,h⟩
     ·cases hi
    ·rintro ⟨r,_,i,y,Y,h⟩;have a1:=(ay8.1 Y).1;have R:lB hs v N 0≠[]:=by
      have:(i:Int)∈iS hs v N:=by
       unfold iS;rw [aBA];refine ⟨i,by rw [List.mem_range];omega, ?_⟩;have:kZ hs i v=true:=by
        unfold kZ;rw [Y];simpa using h
       rw [if_pos this]
      intro K;unfold lB at K;rw [List.append_eq_nil_iff] at K;rw [K.1] at this;cases this
     obtain ⟨e,o,rfl⟩:=U.all v r R;obtain ⟨j,k⟩:=aBj o;have P:=(ay8.1 k).1;refine azp.2 ⟨trip E A j, ?_, ?_⟩
     ·rw [d.mem_iff];exact azp.2 ⟨j,F j P,rfl⟩
     ·simp only [trip,azs,k,aAE]
  rw [←w,aBy];exact aAw fun x f=>by
   simp only [Function.comp];rw [←(s x f).2.2.2.1]
theorem anu:∀ (X Y:List mY) (n:Nat),X.map (fun x=>(x.1,x.2.2))=Y.map (fun x=>(x.1,x.2.2))→lC n X=lC n Y∧oY X=oY Y
 | [],[],n,_=>⟨rfl,rfl⟩
 | x::X,y::Y,n,h=>by
  simp only [aAr,List.cons.injEq,Prod.mk.injEq] at h;obtain ⟨⟨c,a⟩,b⟩:=h;obtain ⟨e,d⟩:=anu X Y (n+1) b;constructor
  ·show aB x.1 :: .sl n 0 x.2.2.length x.2.2.length false::lC (n+1) X=aB y.1 :: .sl n 0 y.2.2.length y.2.2.length false::lC (n+1) Y;rw [c,a,e]
  ·show (3,bJ x.2.2)::oY X=(3,bJ y.2.2)::oY Y;rw [a,d]
 | [],_::_,n,h=>by simp at h
 | _::_,[],n,h=>by simp at h
def tX (hs:List (Int×Int)):List mY:=(gP hs).map fun v=>(v,0,iS hs v hs.length)
def aa3 (hs:List (Int×Int)):fA:=if gP hs=[] then ⟨.tup [aW,aB 0],[]⟩ else ⟨.tup [.sl (gP hs).length 0 (gP hs).length (gP hs).length false,aB 0],oY (tX hs)++[(226,lC 0 (tX hs))]⟩
def anv:Prop:=∀ (m:aF) (b:Nat) (L:List (Int×AV)),m.at_ b=some ⟨lN L,226,.var,true⟩→(L.map (·.1)).Nodup→L.length≤1000000→(∀ x∈L,dL x.2=true)→dV ayU 322 [.sl b 0 L.length L.length false,.clo 323 []] m (fun v m'=>v=eI∧m'=m.put b (some ⟨lN (mB L),226,.var,true⟩))
def anw:Prop:=aQ ayU 322 [aW,.clo 323 []] ⟨eI,[]⟩
def nW:Nat→Bool:=fun d=>d != 71
theorem mA.setM {m:aF} {g:Nat} {E:jT} {A:List AV} (h:mA m g E A) {mm:Maps} (d:mm.maps g=m.mm.maps g):mA (m.setM mm) g E A:=⟨by rw [←h.mp];exact d,h.len,fun j e a c b=>(h.own j e a c b).setM _,h.apart⟩
theorem mA.keep {m m':aF} {g:Nat} {E:jT} {A:List AV} (h:mA m g E A) (f:m'.mm=m.mm) (q:m.next≤m'.next) (p:∀ j k,m.at_ j=some k→j < m.next→k.kind = .flat→m'.at_ j=some k):mA m' g E A:=⟨by rw [f];exact h.mp,h.len,fun j e a c l=>by
 have:=h.own j e a c l;rcases this.form with ⟨rfl,o⟩ | ⟨b,rfl,n,i,d⟩
 ·exact ⟨.inl ⟨rfl,o⟩,this.len⟩
 ·exact ⟨.inr ⟨b,rfl,p b _ n i rfl,by omega,d⟩,this.len⟩,h.apart⟩
theorem mA.pp {m:aF} {g:Nat} {E:jT} {A:List AV} (h:mA m g E A) (x:eZ) (y:Option eZ):mA ((m.push x).put m.next y) g E A:=h.keep rfl (by rw [fC,cQ];omega) fun j k a b _=>by rw [cI,if_neg (by omega),cF,if_neg (by omega)];exact a
theorem anx (v i:Int) (E:jT):(rW v i E).length≤E.length+1:=by
 unfold rW;split <;> simp
theorem auc (g0:anv) (d0:anw) (k r c w:Int) (v:AV) (ps:List aO) (cells:List AV) (hv:dG v ps cells) (hc:cS k r c w ps=0):aQ ayU 290 [aC k r c w,v] (aa3 (eW k r c w ps)):=by
 have hp:=hv.rd.plain;have hh:=anf k r c w v ps cells hv;unfold adx at hh;rw [if_pos hc] at hh;obtain ⟨_,_,_,hn⟩:=anh hc;have C:=aci k r c w ps;generalize h6:eW k r c w ps=hs at *
 generalize hN:ps.length=N at *
 generalize Q:aa3 hs=h5;replace Q:=aA.mk Q;have d8:aT (.tree N N (bJ (mN hs)) true) N (bJ (mN hs)):=⟨.inr (.inr ⟨_,true,rfl,aza _⟩)⟩
 replace hn:=aA.mk hn;replace C:=aA.mk C;refine aV Tryz.func290 nW (h:=?_);unfold Tryz.f290;simp only [↓pre,zad,xC,nW,simprocAttr,aC,bne]
 (first | refine aI (hh) (by first | rfl | simp only [aE, *]) ?_ | refine aH (hh) (by first | rfl | simp only [aC,aE, *]) (by intro k;first | rfl | simp only [ *,zaa]) ?_);simp only [↓pre,zad,nW,simprocAttr,bne]
 intro g hg;simp only [↓pre,za,xC,nW,simprocAttr,bne,d8.len'];rw [bS];refine bU (fun q e m=>∃ i E A,q+i=N∧e 8 = .val (.map (some g))∧e 26 = .tree N N (bJ (mN hs)) true∧e 27=aB (N:Nat)∧e 28=aB (i:Nat)∧aA (mA m g E A∧EI hs i 0 E∧E.length≤2*i)) N ⟨0,[],[],by omega,rfl,rfl,rfl,rfl,⟨⟨by simp [aF.setM,Maps.add];rfl,rfl,fun j e a he=>by simp at he,fun i j a b x ha=>by simp at ha⟩,at7 hs,by simp⟩⟩ ?_;rintro q e m ⟨i,E,A,a3,e8,B,s,p,hJ⟩;replace a3:=aA.mk a3;by_cases e3:i < N
 ·have K:((i:Nat):Int) < ((N:Nat):Int):=by omega
  have w1:=cB (n:=i) (by have:=hn.out;omega);have M:i < hs.length:=by have:=C.out;omega
  obtain ⟨x,hx⟩:∃ x,hs[i]? = some x:=⟨_,azm M⟩
  obtain ⟨g2,f3⟩:=ahS _ _ _ hx;obtain ⟨ht,d3⟩:=qX (nU (x:=[]) g2) (nU (x:=[]) f3);rw [aBl] at ht d3;replace hx:=aA.mk hx;replace M:=aA.mk M;simp only [↓pre,za,xC,nW,bD,simprocAttr,bne,aS,B,s,p,K,d8.addr',e3,ht,d3];rw [bS];refine bU (fun q e m=>∃ kk E A,q+kk=2∧e 8 = .val (.map (some g))∧e 9=aB (i:Nat)∧e 10 = .tptr 0 [aB x.1,aB x.2]∧e 26 = .tree N N (bJ (mN hs)) true∧e 27=aB (N:Nat)∧e 28=aB (i:Nat)∧e 33 = .agg [aB x.1,aB x.2]∧e 34=aB (kk:Nat)∧aA (mA m g E A∧EI hs i kk E∧E.length≤2*i+kk)) 2 ⟨0,E,A,by omega,e8,rfl,rfl,B,s,p,rfl,rfl,⟨hJ.out.1.pp _ _,hJ.out.2⟩⟩ ?_;rintro q2 e m2 ⟨kk,E,A,d,e8,e9,T,B,s,p,J,b5,l⟩;replace d:=aA.mk d;by_cases e4:kk < 2
  ·obtain ⟨z,hz⟩:∃ z,z=if kk=0 then x.1 else x.2:=⟨_,rfl⟩
   have o:=at9 hx.out l.out.2.1 e4 hz;have h9:∀ (c:Prop) [Decidable c],True:=fun _ _=>trivial
   have O:=l.out.1;have d6:=O.look z;have b1:=O.own_look z;have u:(vU E z).length≤1000000:=by
    unfold vU;cases Y:oX z E with
    | none=>simp
    | some j =>
     obtain ⟨e,he,_⟩:=acj Y;have:=(l.out.2.1.is e (az8 he)).2.1;simp only [he,az6,aAE];rw [this];unfold lB;have U:=am9 hs e.1 i;rw [hx.out];simp only [aA2];have:=hn.out;split <;> simp <;> omega
   replace u:=aA.mk u;replace O:=aA.mk O;have b9:kk=0∨kk=1:=by omega
   rcases b9 with rfl | rfl
   ·have f:e 34=aB 0:=b5;simp only [if_true] at hz;subst hz;have w2:IntKind.i64.wrap (0+1)=1:=by rfl
    by_cases V:0 < x.1
    ·rw [if_pos ⟨V,.inl rfl⟩] at o;simp only [↓pre,zaj,xC,nW,cO,simprocAttr,bne,e8,e9,J,f,d6,V];refine vN (kd := .flat) (sz:=1) (y:=8) (zl:=[.int .i64 0]) (by kernel_rfl) b1 (by kernel_rfl) (by kernel_rfl) (by kernel_rfl) rfl lV (by rfl) (by have:=u.out;omega) (by have:=u.out;omega) ?_;intro a' F b8 c5 I a9 b7;obtain ⟨b6,b4⟩:=O.out.upd x.1 i c5 I a9 b7 b8;simp only [↓pre,zad,nW,simprocAttr,bne,e8,e9,T,B,s,p,J,f,b6];exact ⟨q2 - 1,by have:=d.out;omega,1,_,_,by have:=d.out;omega,rfl,⟨b4,o,by have:=anx x.1 i E;have:=l.out.2.2;omega⟩⟩
    ·rw [if_neg (fun h=>V h.1)] at o;simp only [↓pre,zaj,xC,nW,simprocAttr,bne,e8,e9,T,B,s,p,J,f,V];exact ⟨q2 - 1,by have:=d.out;omega,1,_,_,by have:=d.out;omega,rfl,⟨O.out,o,by have:=l.out.2.2;omega⟩⟩
   ·have f:e 34=aB 1:=b5;simp only [aBm,if_false,false_or] at hz o;subst hz;have w2:IntKind.i64.wrap (1+1)=2:=by rfl
    by_cases V:0 < x.2
    ·by_cases c2:x.2=x.1
     ·rw [if_neg (fun h=>h.2 c2)] at o;have c3:0 < x.1:=by rw [←c2];exact V
      simp only [↓pre,zaj,xC,nW,simprocAttr,bne,e8,e9,T,B,s,p,J,f,c3,c2];exact ⟨q2 - 1,by have:=d.out;omega,2,_,_,by have:=d.out;omega,rfl,⟨O.out,o,by have:=l.out.2.2;omega⟩⟩
     ·rw [if_pos ⟨V,c2⟩] at o;simp only [↓pre,zaj,xC,nW,cO,simprocAttr,bne,e8,e9,T,J,f,d6,V,c2];refine vN (kd := .flat) (sz:=1) (y:=8) (zl:=[.int .i64 0]) (by kernel_rfl) b1 (by kernel_rfl) (by kernel_rfl) (by kernel_rfl) rfl lV (by rfl) (by have:=u.out;omega) (by have:=u.out;omega) ?_;intro a' F b8 c5 I a9 b7;obtain ⟨b6,b4⟩:=O.out.upd x.2 i c5 I a9 b7 b8;simp only [↓pre,zad,nW,simprocAttr,bne,e8,e9,T,B,s,p,J,f,b6];exact ⟨q2 - 1,by have:=d.out;omega,2,_,_,by have:=d.out;omega,rfl,⟨b4,o,by have:=anx x.2 i E;have:=l.out.2.2;omega⟩⟩
    ·rw [if_neg (fun h=>V h.1)] at o;simp only [↓pre,zaj,xC,nW,simprocAttr,bne,e8,e9,T,B,s,p,J,f,V];exact ⟨q2 - 1,by have:=d.out;omega,2,_,_,by have:=d.out;omega,rfl,⟨O.out,o,by have:=l.out.2.2;omega⟩⟩
  ·have g7:¬ ((kk:Nat):Int) < 2:=by omega
   have:kk=2:=by have:=d.out;omega
   subst this;simp only [↓pre,zad,nW,simprocAttr,bne,e8,B,s,p,b5,w1];exact ⟨q - 1,by have:=a3.out;omega,i+1,E,A,by have:=a3.out;omega,rfl,⟨l.out.1,at8 M.out l.out.2.1,by have:=l.out.2.2;omega⟩⟩
 ·have K:¬ ((i:Nat):Int) < ((N:Nat):Int):=by omega
  have f7:i=N:=by have:=a3.out;omega
  subst f7;simp only [↓pre,zad,nW,simprocAttr,bne,e8,s,p,K];have O:=hJ.out.1;have hE:=hJ.out.2.1;have W:E.length≤32:=by have:=hJ.out.2.2;have:=hn.out;omega
  replace W:=aA.mk W;refine ⟨(g,lA E A),by rw [afl];rfl,by simp only [sU,O.mp,az6], ?_⟩;intro Z g9;simp only [↓pre,simprocAttr];rw [bS];refine bU (fun q e m=>∃ S lv,q+S.length=E.length∧e 13=lv∧e 61 = .val (.pointer (some ⟨Z,0,none⟩))∧m.mm.iters Z=some (g,S)∧aA (mA m g E A∧S.Nodup∧(∀ j∈S,j < E.length)∧bY .var m 226 2 lv S.length (lN (S.map fun j=>((E.getD j (0,[])).1,A.getD j aW))))) E.length ⟨[],aW,by simp,rfl,rfl,by simp [aF.setM,Maps.walk],⟨O.setM rfl,List.nodup_nil,fun j h=>(by cases h),gK⟩⟩ ?_;rintro q e F ⟨S,lv,hq,a4,c0,f0,D⟩;replace hq:=aA.mk hq;replace O:=aA.mk O;replace hE:=aA.mk hE;simp only [↓pre,zad,nW,simprocAttr,bne,c0];have R:=D.out.1;have d2:=D.out.2.2.2;have f9:(lA E A).length=E.length:=by unfold lA;rw [List.length_zipWith,R.len];omega
  refine ⟨(Z,(g,S),lA E A),by simp only [abB,f0,R.mp,aAk,az6],fun a0 => ?_,fun j kv Y c4 => ?_⟩
  ·simp only at a0;simp only [f9] at a0;obtain ⟨f8,b9,X,b0,d1,d9,a7⟩:=aub R hE.out C.out D.out.2.1 D.out.2.2.1 a0;have H:(S.map fun j=>((E.getD j (0,[])).1,A.getD j aW)).length=S.length:=by simp
   generalize d7:(S.map fun j=>((E.getD j (0,[])).1,A.getD j aW))=L at *
   have a1:X.length=L.length:=by
    have:=(aal L).length_eq;rw [b0,List.length_map] at this;exact this
   have a5:X.length=(gP hs).length:=by
    have:=congrArg List.length a7;simpa using this
   have c7:S.length≤32:=by have:=W.out;have:=hq.out;omega
   replace b0:=aA.mk b0;replace a7:=aA.mk a7;replace d7:=aA.mk d7;replace a5:=aA.mk a5;replace a1:=aA.mk a1;replace H:=aA.mk H;replace c7:=aA.mk c7;rcases d2.form with ⟨rfl,h0,_⟩ | ⟨b,rfl,hb,a9,g6⟩
   ·have f5:gP hs=[]:=List.eq_nil_of_length_eq_zero (by have:=a5.out;have:=a1.out;have:=H.out;omega);simp only [↓pre,zad,nW,simprocAttr,bne,a4]
    (first | refine aI (d0) (by first | rfl | simp only [aC,aE, *]) ?_ | refine aH (d0) (by first | rfl | simp only [aC,aE, *]) (by intro k;first | rfl | simp only [ *,zaa]) ?_);simp only [↓pre,simprocAttr,sx,a4,aW]
    rw [←Q.out];unfold aa3;rw [if_pos f5];rfl
   ·have f6:¬ gP hs=[]:=by
     intro h;have U:=a5.out;rw [h,aAG] at U;have h2:=a1.out;have h3:=H.out;omega
    have a6:=g0 F b L hb f8 (by have:=H.out;have:=c7.out;omega) b9;rw [H.out] at a6;have e6:∀ x∈X,(F.put b (some ⟨lN (mB L),226,.var,true⟩)).at_ x.2.1=some ⟨bJ x.2.2,3,.flat,true⟩:=by
     intro x hx;have U:=(d1 x hx).1;rw [cI,if_neg ?_]
     ·exact U
     ·intro e;rw [e,hb] at U;have h2:=congrArg eZ.kind (aAU U);cases h2
    have c8:=ann (F.put b (some ⟨lN (mB L),226,.var,true⟩)) 2 X [] [] e6 d9 (fun x hx i hi=>by cases hi);rw [←b0.out,aAG,aBt,aBt] at c8;have c9:(X.map (fun x=>(x.2.1,0))).any (fun i:Nat×Nat=>i.1 == b)=false:=by
     rw [aBu];intro i hi;obtain ⟨x,hx,rfl⟩:=azp.1 hi;have U:=(d1 x hx).1;intro e;have e:x.2.1=b:=by simpa using e
     rw [e,hb] at U;have h2:=congrArg eZ.kind (aAU U);cases h2
    have d4:canon ayU (F.put b (some ⟨lN (mB L),226,.var,true⟩)) 3 [] [] (.sl b 0 S.length S.length false)=some (.sl X.length 0 S.length S.length false,X.map (fun x=>(x.2.1,0))++[(b,0)],oY X++[(226,lC 0 X)]):=by
     have k9:bK ayU 226 = .var:=by kernel_rfl
     have f1:(oY X).length=X.length:=by simp [oY]
     unfold canon;simp only [cI,if_true,aAk,k9,and_self,aBx,c8,c9,azA,if_false,f1]
    simp only [↓pre,zad,nW,simprocAttr,bne,a4];refine .inr (.inr (.inl ⟨_,_,a6, ?_⟩));simp only [↓pre,simprocAttr,sx,a4,d4];rw [←Q.out];unfold aa3;rw [if_neg f6];obtain ⟨V,c2⟩:=anu X (tX hs) 0 (by rw [a7.out];unfold tX;rw [aBy,C.out];rfl);have U:=a5.out;have h2:=a1.out;have h3:=H.out;have h4:S.length=(gP hs).length:=by omega
    rw [U,h4,V,c2];rfl
  ·simp only at Y c4;obtain ⟨G,a2,Y⟩:=ayS (ady (E:=E) (A:=A) j ▸ Y);obtain ⟨av,c6,rfl⟩:=ayT Y;have g5:=R.own j G av a2 c6;have f4:=hE.out.is G (az8 a2);obtain ⟨b',rfl,h7,K⟩:=g5.sl (List.length_pos_iff.2 f4.2.2);have h8:j < E.length:=(ay8.1 a2).1;have d5:ac0 (F.setM (F.mm.walk Z (g,S++[j]))) (.val (.pointer (some ⟨Z,0,none⟩)))=some (.tup [.val (.int .i64 G.1),.sl b' 0 G.2.length G.2.length false]):=by
    have U:(F.setM (F.mm.walk Z (g,S++[j]))).mm.iters Z=some (g,S++[j]):=by simp [aF.setM,Maps.walk]
    have h2:(F.setM (F.mm.walk Z (g,S++[j]))).mm.maps g=some (lA E A):=R.mp;simp only [ac0,abB,U,h2,aAk,az6,List.getLast?_append,List.getLast?_singleton,Option.some_or,ady,a2,c6]
   have e5:S.length < E.length:=by
    have:=D.out.2.1;have h3:=D.out.2.2.1;have:(S++[j]).Nodup:=aBw.2 ⟨this,by simp,fun a ha b hb=>by simp at hb;subst hb;rintro rfl;exact c4 ha⟩;have g1:=List.Nodup.length_le_of_subset this (l₂:=aAp E.length) (fun y hy=>by
     rw [List.mem_range];rcases aBp.1 hy with hy | hy
     ·exact h3 y hy
     ·simp at hy;omega)
    simp at g1;omega
   have g3:=fun m=>asn (P:=ayU) (m:=m) (t:=223) (el:=226) (a := .int .i64 G.1) (x := .sl b' 0 G.2.length G.2.length false) (z:=[.int .i64 0,.slice none 0 0]) (by kernel_rfl) rfl rfl rfl (by kernel_rfl) (by kernel_rfl) (by kernel_rfl) rfl
   simp only [↓pre,zad,xC,nW,cO,simprocAttr,bne,a4,c0,d5,g3];have b3:bY .var ((F.setM (F.mm.walk Z (g,S++[j]))).push ⟨[.val (.int .i64 G.1),.sl b' 0 G.2.length G.2.length false],226,.var,true⟩) 226 2 lv S.length _:=(d2.setM _).push _;refine vN (kd := .var) (sz:=2) (y:=32) (zl:=[.int .i64 0,.slice none 0 0]) (by kernel_rfl) b3 (by kernel_rfl) (by kernel_rfl) (by kernel_rfl) rfl (asf (by kernel_rfl) rfl) (by rfl) (by have:=W.out;omega) (by have:=W.out;omega) ?_;intro f2 m5 g4 e0 a8 g8 b2;simp only [↓pre,simprocAttr,sx,c0];refine ⟨q - 1,by have:=hq.out;omega,S++[j],f2,by have:=hq.out;simp;omega,rfl, ?_,⟨?_, ?_, ?_, ?_⟩⟩
   ·rw [b2];simp [aF.push,aF.setM,Maps.walk]
   ·have e7:mA ((F.setM (F.mm.walk Z (g,S++[j]))).push ⟨[.val (.int .i64 G.1),.sl b' 0 G.2.length G.2.length false],226,.var,true⟩) g E A:=(R.setM (mm:=F.mm.walk Z (g,S++[j])) rfl).keep rfl (by rw [cQ];omega) fun j k Y hl _=>by rw [cF,if_neg (by omega)];exact Y
    exact e7.keep b2 e0 fun j k Y hl hk=>a8 j k Y hl (b3.ne_kind Y (by rw [hk];intro h;cases h))
   ·exact aBw.2 ⟨D.out.2.1,by simp,fun a ha b hb=>by simp at hb;subst hb;rintro rfl;exact c4 ha⟩
   ·intro y hy;rcases aBp.1 hy with hy | hy
    ·exact D.out.2.2.1 y hy
    ·simp at hy;omega
   ·have e1:(E.getD j (0,[])).1=G.1:=by rw [azs,a2];rfl
    have e2:A.getD j aW = .sl b' 0 G.2.length G.2.length false:=by rw [azs,c6];rfl
    rw [aA2,aBs,aua,aAr,aAs,e1,e2];exact g4
end Go.Proofs.YtaekhhlgnbhnpaaGreat