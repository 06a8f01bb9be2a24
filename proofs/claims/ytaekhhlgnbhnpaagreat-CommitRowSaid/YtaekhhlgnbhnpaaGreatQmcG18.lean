import Derived.Test.YtaekhhlgnbhnpaaGreatQmcG17
import Derived.Shelf.SlSortCmp.NoneTotal
set_option linter.unusedVariables false
set_option linter.unusedSimpArgs false
set_option maxRecDepth 10000
open Go.Proofs.Tryz
open Array renaming getElem?_eq_getElem→azn
open Bool renaming and_self→aAx,and_true→aAI
open Go.Proofs.Tryz renaming prog→ayU
open List renaming getElem?_eq_some_iff→ay8,flatMap_cons→aBF,getD_eq_getElem?_getD→azs,getElem?_eq_getElem→azm,take_add_one→aA9,filter_append→aBG,append_nil→aBl,mem_flatMap→aBH
open Option.some renaming injEq→ay0
namespace Go.Proofs.YtaekhhlgnbhnpaaGreat
open Go Go.Tw Go.Proofs
theorem aun:anw:=by
 refine ⟨by kernel_rfl,fun w I vs s m q => ?_⟩;have e:vs.size=2:=m;obtain ⟨t,d,p⟩:=gW q (j:=0) rfl;obtain ⟨n,c,f⟩:=gW q (j:=1) rfl;simp only [aW,VR] at p;subst p;have l:vs = #[.slice none 0 0,n]:=by
  apply Array.ext (by simpa using e);intro i f r;have:i=0∨i=1:=by simp at r;omega
  rcases this with rfl | rfl
  ·simp only [azn f,ay0] at d;simpa using d
  ·simp only [azn f,ay0] at c;simpa using c
 have a:=AnyF.slices_SortFunc_none anz none 0 n w;change Calls ayU 322 _ _ _ at a;rw [l];refine a.mono ?_;rintro x w' ⟨rfl,rfl⟩;exact ⟨.tuple #[],I,dA,rfl,by simp only [eI,VR],⟨fun b k g o h=>by simp [eB,gN,aF.empty] at h,fun b u k k' g o v h=>by simp [eB,gN,aF.empty] at h,s,kG.none⟩,cM.refl _ _ _ _⟩
theorem auo (k r c w:Int) (v:AV) (ps:List aO) (cells:List AV) (a:dG v ps cells) (b:cS k r c w ps=0):aQ ayU 290 [aC k r c w,v] (aa3 (eW k r c w ps)):=auc aum aun k r c w v ps cells a b
theorem aup (k r c w:Int) (v:AV) (ps:List aO) (cells:List AV) (d:dG v ps cells) (b:¬ cS k r c w ps=0):aQ ayU 290 [aC k r c w,v] ⟨.tup [aW,aB (cS k r c w ps)],[]⟩:=by
 have f:=d.rd.plain;have a:=anf k r c w v ps cells d;unfold adx at a;rw [if_neg b] at a;generalize cS k r c w ps=e at *
 refine aV Tryz.func290 aD (h:=?_);unfold Tryz.f290;simp only [↓pre,zab,xC,simprocAttr,aC]
 (first | refine aI (a) (by first | rfl | simp only [aE, *]) ?_ | refine aH (a) (by first | rfl | simp only [aC,aE, *]) (by intro k;first | rfl | simp only [ *,zaa]) ?_);simp only [↓pre,zab,simprocAttr,aW,b]
def kE (k r c w:Int) (ps:List aO):List Int:=if cS k r c w ps=0 then gP (eW k r c w ps) else []
theorem auq {hs:List (Int×Int)} {v:Int} (c:v∈gP hs):(iS hs v hs.length).length≠0:=by
 obtain ⟨_,_,i,y,a,e⟩:=((aa0 hs).mem v).1 c;have d:=(ay8.1 a).1;have:(i:Int)∈iS hs v hs.length:=by
  unfold iS;rw [List.mem_filterMap];refine ⟨i,by rw [List.mem_range];omega, ?_⟩;have:kZ hs i v=true:=by
   unfold kZ;rw [a];simpa using e
  rw [if_pos this]
 intro b;rw [List.length_eq_zero_iff.1 b] at this;cases this
theorem anA {α β:Type} {f g:α→List β}:∀ (l:List α),(∀ x∈l,f x=g x)→l.flatMap f=l.flatMap g
 | [],_=>rfl
 | a::l,h=>by rw [aBF,aBF,h a (by simp),anA l fun x b=>h x (by simp [b])]
theorem aur (hs:List (Int×Int)):(tX hs).flatMap (fun x=>[aB x.1,.tree x.2.2.length x.2.2.length (bJ x.2.2) false])=jL hs (gP hs):=by
 unfold tX jL;rw [List.flatMap_map];refine anA _ fun v a => ?_
 have:=auq a;simp only [ach,bE,if_neg this]
theorem aus (k r c w:Int) (v:AV) (ps:List aO) (cells:List AV) (n:dG v ps cells):aQ ayU 290 [aC k r c w,v] ⟨.tup [bE (kE k r c w ps).length (jL (eW k r c w ps) (kE k r c w ps)),aB (cS k r c w ps)],[]⟩:=by
 by_cases d:cS k r c w ps=0
 ·have h:=auo k r c w v ps cells n d;rw [d];unfold kE;rw [if_pos d];generalize eW k r c w ps=hs at *
  by_cases g:gP hs=[]
  ·unfold aa3 at h;rw [if_pos g] at h;rw [g];exact h
  ·unfold aa3 at h;rw [if_neg g] at h;have l:(tX hs).length=(gP hs).length:=by simp [tX]
   have i:(oY (tX hs)).length=(gP hs).length:=by simp [oY,l]
   have q:bK ayU 226 = .var:=by kernel_rfl
   have b:(oY (tX hs)++[(226,lC 0 (tX hs))]).getD (gP hs).length (0,[])=(226,lC 0 (tX hs)):=by
    rw [azs,List.getElem?_append_right (by omega),i,Nat.sub_self];rfl
   have f:=anq (oY (tX hs)++[(226,lC 0 (tX hs))]) 0 (tX hs) 0 fun j x o=>by
    have s:=(ay8.1 o).1;rw [Nat.zero_add,List.getElem?_append_left (by omega)];unfold oY;rw [List.getElem?_map,o];rfl
   have a:=b;rw [azs] at a;have p:=aaP 1 h (by simp [jH,kV,aB,a,f.2]);have e:fZ ayU (oY (tX hs)++[(226,lC 0 (tX hs))]) 1 (.tup [.sl (gP hs).length 0 (gP hs).length (gP hs).length false,aB 0]) = .tup [bE (gP hs).length (jL hs (gP hs)),aB 0]:=by
    have m:¬ (gP hs).length=0:=fun h=>g (List.length_eq_zero_iff.1 h)
    rw [←aur hs];simp only [fZ,iP,aB,b,q,reduceCtorEq,if_false,f.1,List.drop_zero,bE,if_neg m]
   rw [e] at p;exact p
 ·have h:=aup k r c w v ps cells n d;unfold kE;rw [if_neg d];exact h
def nX (k:Int) (hs:List (Int×Int)) (v:Int):Bool:=decide (k≤((iS hs v hs.length).length:Nat))
def jV (k:Int) (hs:List (Int×Int)) (T:List Int):List Int:=T.filter (nX k hs)
theorem anB (k r c w:Int) (ps:List aO):(kE k r c w ps).length≤1073741824:=by
 have key:∀ (T:List Int) (n:Nat),T.Pairwise (· > ·)→(∀ v∈T,1≤v∧v≤n)→T.length≤n:=by
  intro T
  induction T with
  | nil=>intro n _ _;simp
  | cons a T g =>
   intro n d f;rw [List.pairwise_cons] at d;have h:=f a (by simp);have:=g (a.toNat - 1) d.2 fun v b=>by
    have:=d.1 v b;have:=f v (by simp [b]);omega
   rw [List.length_cons];omega
 unfold kE;split
 ·have e:=aa0 (eW k r c w ps);refine key _ 1073741824 e.pw fun v b => ?_
  have:=(e.mem v).1 b;have:=ahR v this.2.2;omega
 ·simp
theorem aut (k r c w:Int) (v:AV) (ps:List aO) (cells:List AV) (U:dG v ps cells):aQ ayU 232 [aC k r c w,v] (aa1 3 (jV k (eW k r c w ps) (kE k r c w ps)).length (bJ (jV k (eW k r c w ps) (kE k r c w ps))) (cS k r c w ps)):=by
 have hp:=U.rd.plain;have A:=aus k r c w v ps cells U;by_cases N:cS k r c w ps=0
 ·rw [N] at A ⊢;have j:=anB k r c w ps;generalize kE k r c w ps=T at *
  generalize eW k r c w ps=hs at *
  generalize f:aa1 3 (jV k hs T).length (bJ (jV k hs T)) 0=a0;have x:=eQ T.length (jL hs T);have R:(if T.length=0 then (0:Int) else (0:Int))=0:=by split <;> rfl
  replace f:=aA.mk f;replace j:=aA.mk j;refine aV Tryz.func232 aD (h:=?_);unfold Tryz.f232;simp only [↓pre,zab,adl,simprocAttr,aC]
  (first | refine aI (A) (by first | rfl | simp only [cP,plain,aAx, *]) ?_ | refine aH (A) (by first | rfl | simp only [cP,plain,yE,aC,aB,aZ,aAI,aAx, *]) (by intro k;first | rfl | simp only [ *,zaa]) ?_);simp only [↓pre,zai,adl,qS,simprocAttr,x.len']
  rw [bS];refine bU (fun q e m=>∃ i G,q+i=T.length∧e 2 = .tptr 0 [aB k,aB r,aB c,aB w]∧e 8=G∧e 20=bE T.length (jL hs T)∧e 21=aB (T.length:Nat)∧e 22=aB (i:Nat)∧aA (Own m 3 1 G (jV k hs (T.take i)).length (bJ (jV k hs (T.take i))))) T.length ⟨0,aW,by omega,rfl,rfl,rfl,rfl,rfl,⟨gK⟩⟩ ?_;rintro q e m ⟨i,G,b,J,O,u,l,p,E⟩;replace b:=aA.mk b;by_cases B:i < T.length
  ·have d:((i:Nat):Int) < ((T.length:Nat):Int):=by omega
   have w1:=cB (n:=i) (by have:=j.out;omega);obtain ⟨z,F⟩:∃ z,T[i]? = some z:=⟨_,azm B⟩
   obtain ⟨Z,W⟩:=ahQ hs T i z F;obtain ⟨V,C⟩:=qX Z W;have a:aT (ach hs z) (iS hs z hs.length).length (bJ (iS hs z hs.length)):=eQ _ _;have S:=bW a;have o1:=bR a;have g:T.take (i+1)=T.take i++[z]:=by rw [aA9,F];rfl
   have s:jV k hs (T.take (i+1))=jV k hs (T.take i)++(if nX k hs z=true then [z] else []):=by
    unfold jV;rw [g,aBG];cases h:nX k hs z <;> simp [h]
   have o:(jV k hs (T.take i)).length≤1073741824:=by
    unfold jV;have:=List.length_filter_le (nX k hs) (T.take i);have:=List.length_take_le i T;have:=j.out;omega
   replace F:=aA.mk F;replace g:=aA.mk g;replace s:=aA.mk s;replace o:=aA.mk o;by_cases H:k≤((iS hs z hs.length).length:Nat)
   ·have t:nX k hs z=true:=by unfold nX;rw [decide_eq_true H]
    simp only [↓pre,zai,adl,cO,bD,jP,simprocAttr,aS,eq_self,J,O,u,l,p,d,x.addr',B,V,C,S,a.len',H];refine zU (kd := .flat) (sz:=1) (y:=8) (zl:=[.int .i64 0]) (by kernel_rfl) (E.out.pp _ _) (by kernel_rfl) (by kernel_rfl) (by kernel_rfl) rfl lV (by rfl) (by have:=o.out;omega) (by have:=o.out;omega) ?_;intro I m3 M Q K X;simp only [↓pre,zab,simprocAttr,J,u,l,p,w1];refine ⟨q - 1,by have:=b.out;omega,i+1,I,by have:=b.out;omega,rfl,rfl,⟨?_⟩⟩;rw [s.out,if_pos t,List.length_append,acf];exact M
   ·have t:nX k hs z=false:=by unfold nX;rw [decide_eq_false H]
    simp only [↓pre,zai,adl,bD,jP,gH,simprocAttr,aS,eq_self,J,O,u,l,p,d,x.addr',B,V,C,S,a.len',H,w1];refine ⟨q - 1,by have:=b.out;omega,i+1,G,by have:=b.out;omega,rfl,rfl,⟨?_⟩⟩;rw [s.out,if_neg (by rw [t];decide),aBl];exact E.out.pp _ _
  ·have d:¬ ((i:Nat):Int) < ((T.length:Nat):Int):=by omega
   have L:i=T.length:=by have:=b.out;omega
   have g:T.take i=T:=by rw [L,List.take_length]
   rw [g] at E;have D:=alO (P:=ayU) (by kernel_rfl) E.out;simp only [↓pre,zab,gH,simprocAttr,O,l,p,d,D];rw [←f.out];rfl
 ·have Y:kE k r c w ps=[]:=by unfold kE;rw [if_neg N]
  rw [Y] at A ⊢;have hn:bE ([]:List Int).length (jL (eW k r c w ps) [])=aW:=rfl;rw [hn] at A;generalize cS k r c w ps=ck at *
  refine aV Tryz.func232 aD (h:=?_);unfold Tryz.f232;simp only [↓pre,zab,adl,simprocAttr,aC]
  (first | refine aI (A) (by first | rfl | simp only [cP,plain,aAx, *]) ?_ | refine aH (A) (by first | rfl | simp only [cP,plain,yE,aC,aB,aZ,aAI,aAx, *]) (by intro k;first | rfl | simp only [ *,zaa]) ?_);simp only [↓pre,zab,simprocAttr,aW,N]
  rfl
theorem anC (k r c w:Int) (v:AV) (ps:List aO) (cells:List AV) (a:dG v ps cells):aQ ayU 232 [aC k r c w,v] ⟨.tup [bE (jV k (eW k r c w ps) (kE k r c w ps)).length (bJ (jV k (eW k r c w ps) (kE k r c w ps))),aB (cS k r c w ps)],[]⟩ :=
 at4 (by kernel_rfl) (aut k r c w v ps cells a)
def fU (k r c w:Int) (ps:List aO):List Int:=jV k (eW k r c w ps) (kE k r c w ps)
theorem anD {k r c w:Int} {ps:List aO} (h:¬ cS k r c w ps=0):fU k r c w ps=[]:=by unfold fU kE;rw [if_neg h];rfl
def afm (k r c w:Int) (ps:List aO):AV := .tup [aB ((fU k r c w ps).getD 0 0),aZ (decide (1≤(fU k r c w ps).length)),aB (cS k r c w ps)]
def afn (k r c w:Int) (ps:List aO):AV := .tup [aB ((fU k r c w ps).getD 1 0),aZ (decide (2≤(fU k r c w ps).length)),aB (cS k r c w ps)]
theorem z0:((0:Nat):Int)=0:=rfl
theorem anE (n:Nat) (l:List Int):aT (bE n (bJ l)) n (bJ l):=eQ _ _
theorem auu (k r c w:Int) (v:AV) (ps:List aO) (cells:List AV) (i:dG v ps cells):aQ ayU 157 [aC k r c w,v] ⟨afm k r c w ps,[]⟩:=by
 have u:=i.rd.plain;have d:=anC k r c w v ps cells i;have e:=anD (k:=k) (r:=r) (c:=c) (w:=w) (ps:=ps);unfold afm;change aQ _ _ _ ⟨.tup [bE (fU k r c w ps).length (bJ (fU k r c w ps)),_],[]⟩ at d;generalize fU k r c w ps=l at *
 generalize cS k r c w ps=n at *
 have b:=anE l.length l;have s:=b.plain;by_cases g:n=0
 ·subst g;cases l with
  | nil =>
   refine aV Tryz.func157 aD (h:=?_);unfold Tryz.f157;simp only [↓pre,zab,adh,simprocAttr,aC]
   (first | refine aI (d) (by first | rfl | simp only [cP,plain,aAx, *]) ?_ | refine aH (d) (by first | rfl | simp only [cP,plain,yE,aC,aB,aZ,aAI,aAx, *]) (by intro k;first | rfl | simp only [ *,zaa]) ?_);simp only [↓pre,zai,adh,qS,z0,simprocAttr]
   rfl
  | cons a l =>
   have q:¬ (((a::l).length:Nat):Int)=0:=by simp;omega
   have p:0 < (a::l).length:=by simp
   have o:(bJ (a::l))[0]? = some (.val (.int .i64 a)):=rfl;generalize f:a::l=L at *
   have m:decide (1≤L.length)=true:=by rw [decide_eq_true_eq];omega
   have t:L.getD 0 0=a:=by rw [←f];rfl
   rw [m,t];replace f:=aA.mk f;refine aV Tryz.func157 aD (h:=?_);unfold Tryz.f157;simp only [↓pre,zab,adh,simprocAttr,aC]
   (first | refine aI (d) (by first | rfl | simp only [cP,plain,aAx, *]) ?_ | refine aH (d) (by first | rfl | simp only [cP,plain,yE,aC,aB,aZ,aAI,aAx, *]) (by intro k;first | rfl | simp only [ *,zaa]) ?_);simp only [↓pre,zai,adh,qS,Nat.mul_one,simprocAttr,b.len',b.addr',q,p,o]
   rfl
 ·have j:l=[]:=e g;subst j;refine aV Tryz.func157 aD (h:=?_);unfold Tryz.f157;simp only [↓pre,zab,adh,simprocAttr,aC]
  (first | refine aI (d) (by first | rfl | simp only [cP,plain,aAx, *]) ?_ | refine aH (d) (by first | rfl | simp only [cP,plain,yE,aC,aB,aZ,aAI,aAx, *]) (by intro k;first | rfl | simp only [ *,zaa]) ?_);simp only [↓pre,zab,qS,simprocAttr,g]
  rfl
theorem auv (k r c w:Int) (v:AV) (ps:List aO) (cells:List AV) (o:dG v ps cells):aQ ayU 158 [aC k r c w,v] ⟨afn k r c w ps,[]⟩:=by
 have u:=o.rd.plain;have d:=anC k r c w v ps cells o;have e:=anD (k:=k) (r:=r) (c:=c) (w:=w) (ps:=ps);unfold afn;change aQ _ _ _ ⟨.tup [bE (fU k r c w ps).length (bJ (fU k r c w ps)),_],[]⟩ at d;generalize fU k r c w ps=l at *
 generalize cS k r c w ps=q at *
 have b:=anE l.length l;have t:=b.plain;by_cases i:q=0
 ·subst i;by_cases n:((l.length:Nat):Int) < 2
  ·have g:decide (2≤l.length)=false:=by rw [decide_eq_false_iff_not];omega
   have j:l.getD 1 0=0:=by rw [azs,List.getElem?_eq_none (by omega)];rfl
   rw [g,j];refine aV Tryz.func158 aD (h:=?_);unfold Tryz.f158;simp only [↓pre,zab,adi,simprocAttr,aC]
   (first | refine aI (d) (by first | rfl | simp only [cP,plain,aAx, *]) ?_ | refine aH (d) (by first | rfl | simp only [cP,plain,yE,aC,aB,aZ,aAI,aAx, *]) (by intro k;first | rfl | simp only [ *,zaa]) ?_);simp only [↓pre,zai,adi,qS,simprocAttr,b.len',n]
   rfl
  ·have m:1 < l.length:=by omega
   obtain ⟨a,f⟩:∃ a,l[1]? = some a:=⟨_,azm m⟩
   have s:(bJ l)[1]? = some (.val (.int .i64 a)):=by have:=nU (x:=[]) f;rwa [aBl] at this
   have g:decide (2≤l.length)=true:=by rw [decide_eq_true_eq];omega
   have j:l.getD 1 0=a:=by rw [azs,f];rfl
   rw [g,j];replace f:=aA.mk f;refine aV Tryz.func158 aD (h:=?_);unfold Tryz.f158;simp only [↓pre,zab,adi,simprocAttr,aC]
   (first | refine aI (d) (by first | rfl | simp only [cP,plain,aAx, *]) ?_ | refine aH (d) (by first | rfl | simp only [cP,plain,yE,aC,aB,aZ,aAI,aAx, *]) (by intro k;first | rfl | simp only [ *,zaa]) ?_);simp only [↓pre,zai,adi,qS,Nat.mul_one,simprocAttr,b.len',b.addr',n,m,s]
   rfl
 ·have p:l=[]:=e i;subst p;refine aV Tryz.func158 aD (h:=?_);unfold Tryz.f158;simp only [↓pre,zab,adi,simprocAttr,aC]
  (first | refine aI (d) (by first | rfl | simp only [cP,plain,aAx, *]) ?_ | refine aH (d) (by first | rfl | simp only [cP,plain,yE,aC,aB,aZ,aAI,aAx, *]) (by intro k;first | rfl | simp only [ *,zaa]) ?_);simp only [↓pre,zab,qS,simprocAttr,i]
  rfl
section
variable {k:Int} {hs:List (Int×Int)} {T:List Int}
end
def anF (l:List Bool) (i:Nat):Bool:=l.getD i false
def ahY (l:List Bool) (ps:List aO) (n:Nat):List aO:=ps.mapIdx fun i p=>if i < n∧anF l i=true then ([],[]) else p
def auw (l:List Bool) (n:Nat):Nat:=((List.range n).filter (anF l)).length
theorem ahZ (k r c w:Int) (ps:List aO):(kE k r c w ps).Pairwise (· > ·)∧∀ x∈kE k r c w ps,1≤x∧x≤1073741824:=by
 unfold kE;split
 ·refine ⟨(aa0 _).pw,fun x a => ?_⟩;have:=((aa0 _).mem x).1 a;have:=ahR x this.2.2;omega
 ·exact ⟨.nil,fun x a=>by cases a⟩
theorem aux {k r c w:Int} {ps:List aO} (h:1≤(fU k r c w ps).length):(fU k r c w ps).getD 0 0∈fU k r c w ps:=by
 cases b:fU k r c w ps with
 | nil=>rw [b] at h;simp at h
 | cons a l=>exact List.mem_cons_self
def firm:AV→Bool
 | .val _=>true
 | .tree .. => true
 | _=>false
theorem anG {P:Program} {rows:List (TypeId×List AV)} (d:Nat):∀ (cs:List AV),(∀ c∈cs,firm c=true)→iP P rows d cs=cs∧kV P rows d cs=true
 | [],_=>by unfold iP kV;exact ⟨rfl,rfl⟩
 | c::cs,h=>by
  obtain ⟨e,b⟩:=anG (P:=P) (rows:=rows) d cs fun x a=>h x (by simp [a])
  have f:=h c (by simp);unfold iP kV;rw [e,b];cases c <;> simp [firm] at f <;> (cases d <;> (unfold fZ jH;exact ⟨rfl,rfl⟩))
theorem anH {P:Program} {f:FuncId} {args:List AV} {el:TypeId} {n:Nat} {cells:List AV} (g:bK P el = .var) (i:∀ c∈cells,firm c=true) (h:aQ P f args (jC el n cells)):aQ P f args ⟨bE n cells,[]⟩:=by
 obtain ⟨b,a⟩:=anG (P:=P) (rows:=(jC el n cells).rows) 0 cells i;have e:=aaP 1 h (by
  unfold jC at a ⊢;split
  ·simp [jH,aW]
  ·rename_i d;rw [if_neg d] at a;simp only at a;simp [jH,g,a])
 have j:fZ P (jC el n cells).rows 1 (jC el n cells).v=bE n cells:=by
  unfold bE;unfold jC at b ⊢;split
  ·simp [fZ,aW]
  ·rename_i d;rw [if_neg d] at b;simp only at b;simp [fZ,g,b]
 rw [j] at e;exact e
theorem auy (n:Nat) (cs:List AV):firm (bE n cs)=true:=by unfold bE;split <;> rfl
theorem auz (hs:List (Int×Int)) (T:List Int):∀ c∈jL hs T,firm c=true:=by
 intro x a;unfold jL at a;rw [aBH] at a;obtain ⟨v,_,a⟩:=a;rw [List.mem_cons,List.mem_singleton] at a;rcases a with rfl | rfl
 ·rfl
 ·exact auy _ _
theorem auA (k r c w:Int) (v:AV) (ps:List aO) (cells:List AV) (d:dG v ps cells) (a:bG k r c w=true) (b:ps.length≤1000000):aQ ayU 198 [aC k r c w,v] ⟨bE (gP (eW k r c w ps)).length (jL (eW k r c w ps) (gP (eW k r c w ps))),[]⟩ :=
 anH (by kernel_rfl) (auz _ _) (atV k r c w v ps cells d a b)
theorem auB {k r c w:Int} {v:AV} {ps:List aO} {cells:List AV} (e:dG v ps cells) (a:cS k r c w ps=0):aQ ayU 198 [aC k r c w,v] ⟨bE (kE k r c w ps).length (jL (eW k r c w ps) (kE k r c w ps)),[]⟩:=by
 obtain ⟨b,_,_,d⟩:=anh a;have h:=auA k r c w v ps cells e b (by omega);have:kE k r c w ps=gP (eW k r c w ps):=by unfold kE;rw [if_pos a]
 rw [this];exact h
def auC (l:List Int) (W:Int):Prop:=(l=[]∧W=0)∨(l=[W]∧0 < W)
theorem ah0 (k r c w:Int) (v:AV) (ps:List aO) (cells:List AV) (N:dG v ps cells) (G:cS k r c w ps=0):aQ ayU 112 [aC k r c w,v] ⟨.tup [aB ((fU k r c w ps).getD 0 0),aB ((fU k r c w ps).getD 1 0)],[]⟩:=by
 have R:=N.rd.plain;have I:=auB N G;have t:=anB k r c w ps;obtain ⟨A,u⟩:=ahZ k r c w ps;unfold fU;generalize kE k r c w ps=T at *
 generalize eW k r c w ps=hs at *
 have f:=eQ T.length (jL hs T);replace A:=aA.mk A;replace u:=aA.mk u;replace t:=aA.mk t;replace G:=aA.mk G;refine aV Tryz.func112 aD (h:=?_);unfold Tryz.f112;simp only [↓pre,zab,adf,simprocAttr,aC]
 (first | refine aI (I) (by first | rfl | simp only [cP,plain,aAx, *]) ?_ | refine aH (I) (by first | rfl | simp only [cP,plain,yE,aC,aB,aZ,aAI,aAx, *]) (by intro k;first | rfl | simp only [ *,zaa]) ?_);simp only [↓pre,simprocAttr,sx,qS]
 rw [bS];refine bU (fun q e m=>∃ i W,q+i=T.length∧e 1=v∧e 2 = .tptr 0 [aB k,aB r,aB c,aB w]∧e 6=bE T.length (jL hs T)∧e 7=aB W∧e 8=aB (i:Nat)∧aA (auC (jV k hs (T.take i)) W)) T.length ⟨0,0,by omega,rfl,rfl,rfl,rfl,rfl,⟨.inl ⟨rfl,rfl⟩⟩⟩ ?_;rintro q e m ⟨i,W,g,M,F,C,B,D,x⟩;replace g:=aA.mk g;by_cases s:i < T.length
 ·have b:((i:Nat):Int) < ((T.length:Nat):Int):=by omega
  have w1:=cB (n:=i) (by have:=t.out;omega);obtain ⟨z,y⟩:∃ z,T[i]? = some z:=⟨_,azm s⟩
  obtain ⟨K,E⟩:=ahQ hs T i z y;have Q:=u.out z (List.mem_of_getElem? y);have d:aT (ach hs z) (iS hs z hs.length).length (bJ (iS hs z hs.length)):=eQ _ _;have j:T.take (i+1)=T.take i++[z]:=by rw [aA9,y];rfl
  have a:jV k hs T=jV k hs (T.take i)++((if nX k hs z=true then [z] else [])++jV k hs (T.drop (i+1))):=by
   conv=>lhs;rw [←List.take_append_drop (i+1) T,j]
   unfold jV;rw [aBG,aBG,List.append_assoc];cases h:nX k hs z <;> simp [h]
  have p:jV k hs (T.take (i+1))=jV k hs (T.take i)++(if nX k hs z=true then [z] else []):=by
   unfold jV;rw [j,aBG];cases h:nX k hs z <;> simp [h]
  replace y:=aA.mk y;replace j:=aA.mk j;replace p:=aA.mk p;replace a:=aA.mk a;by_cases H:((iS hs z hs.length).length:Nat) < k
  ·have o:nX k hs z=false:=by unfold nX;rw [decide_eq_false (by omega)]
   simp only [↓pre,zae,adf,simprocAttr,M,F,C,B,D,b,f.len',f.addr',s,E,d.len',H,w1];refine ⟨q - 1,by have:=g.out;omega,i+1,W,by have:=g.out;omega,rfl,rfl,⟨?_⟩⟩;rw [p.out,if_neg (by rw [o];decide),aBl];exact x.out
  ·have o:nX k hs z=true:=by unfold nX;rw [decide_eq_true (by omega)]
   by_cases J:0 < W
   ·have P:jV k hs T=W::z::jV k hs (T.drop (i+1)):=by
     rcases x.out with ⟨_,l⟩ | ⟨l,_⟩
     ·omega
     ·rw [a.out,l,if_pos o];rfl
    rw [P];simp only [↓pre,zae,adf,simprocAttr,F,C,B,D,b,f.len',f.addr',s,K,E,d.len',H,J];rfl
   ·simp only [↓pre,zae,adf,simprocAttr,M,F,C,B,D,b,f.len',f.addr',s,K,E,d.len',H,J,w1];refine ⟨q - 1,by have:=g.out;omega,i+1,z,by have:=g.out;omega,rfl,rfl,⟨?_⟩⟩;rw [p.out,if_pos o];rcases x.out with ⟨l,_⟩ | ⟨_,l⟩
    ·rw [l];exact .inr ⟨rfl,by omega⟩
    ·omega
 ·have b:¬ ((i:Nat):Int) < ((T.length:Nat):Int):=by omega
  have j:T.take i=T:=by rw [List.take_of_length_le (by omega)]
  rw [j] at x;have L:(jV k hs T).getD 0 0=W∧(jV k hs T).getD 1 0=0:=by
   rcases x.out with ⟨l,O⟩ | ⟨l,_⟩
   ·rw [l,O];exact ⟨rfl,rfl⟩
   ·rw [l];exact ⟨rfl,rfl⟩
  rw [L.1,L.2];simp only [↓pre,zae,adf,simprocAttr,C,B,D,b,f.len']
theorem auD {P:Program} {d c:Bool} {m:aF} {src dst:TypeId} {v:AV} {n:Nat} {cs:List AV} (h:aT v n cs) (b:bO P dst=none):pU P d c m src dst v=nJ P m src dst v:=by
 rcases h.form with ⟨rfl,_⟩ | ⟨a,f,rfl,_⟩ | ⟨a,f,rfl,_⟩
 ·unfold aW;rw [agZ,ac9 b]
 ·have:pU P d c m src dst (.emp a f)=nL P c m src dst (.emp a f):=by cases c <;> cases d <;> rfl
  rw [this,ac9 b]
 ·exact ag0 b
def uK (bs:List UInt8):AV := .val (.string ⟨bs.toArray⟩)
theorem vW {d c:Bool} {m:aF} {v:AV} {bs:List UInt8} {x:List AV} (h:aT v bs.length (aJ bs++x)):pU ayU d c m 52 9 v=some ⟨uK bs,m,none⟩:=by
 rw [auD h (by kernel_rfl)];exact aT.str (el:=5) h (by kernel_rfl) (by kernel_rfl) (by kernel_rfl) (by kernel_rfl)
def aa4 (bs:List UInt8):AV := .tree bs.length bs.length (aJ bs) false
theorem auE {d:Bool} {m:aF} {bs:List UInt8}:pU ayU d true m 9 52 (uK bs)=some ⟨.tree bs.length bs.length (aJ bs) false,m,none⟩:=by
 have h:=ag1 (P:=ayU) (d:=d) (m:=m) (src:=9) (dst:=52) (s:=⟨bs.toArray⟩) (by kernel_rfl) (by kernel_rfl) (by kernel_rfl) (by kernel_rfl);unfold uK;rw [h];rfl
theorem anI (bs:List UInt8):aT (aa4 bs) bs.length (aJ bs++[]):=⟨.inr (.inr ⟨_,false,by rw [aBl];rfl,Nat.le_refl _⟩)⟩
def oZ (ps:List aO):List AV:=ps.flatMap fun p=>[aa4 p.1,aa4 p.2]
theorem auF (a b:List aO):oZ (a++b)=oZ a++oZ b:=by simp [oZ]
theorem anJ:∀ (ps:List aO) (i:Nat) (p:aO),ps[i]? = some p→(oZ ps)[i*2]? = some (aa4 p.1)∧(oZ ps)[i*2+1]? = some (aa4 p.2)
 | [],i,v,h=>by simp at h
 | a::T,0,v,h=>by
  simp at h;subst h;exact ⟨rfl,rfl⟩
 | a::T,i+1,v,h=>by
  have b:=anJ T i v (by simpa using h);have e:oZ (a::T)=aa4 a.1::aa4 a.2::oZ T:=rfl;rw [e,show (i+1)*2=i*2+1+1 by omega];simpa using b
theorem auG (ps:List aO):dG (bE ps.length (oZ ps)) ps (oZ ps) :=
 ⟨eQ _ _,fun i p c=>by
  obtain ⟨b,a⟩:=anJ ps i p c;exact ⟨_,_,[],[],b,a,anI _,anI _⟩⟩
theorem auH {m:aF} {n c:Nat} {a b:List AV}:fY ayU m 24 1 [(0,.agg [.tree n n a false,.tree c c b false])]=some ⟨.tree 1 1 [.tree n n a false,.tree c c b false] true,m,none⟩:=by
 have e:bO ayU 24=some 131:=by kernel_rfl
 have d:bX ayU 131=some 2:=by kernel_rfl
 have f:gF ayU 131=some [.slice none 0 0,.slice none 0 0]:=by kernel_rfl
 simp [fY,e,d,f,iJ,List.range_succ,hU,gD,cH,AV.cells,kF,iI,bI]
theorem auI (v:AV) (ps:List aO) (cells:List AV) (u:dG v ps cells) (t:ps.length*48≤140737488355328):aQ ayU 35 [v] ⟨bE ps.length (oZ ps),[]⟩:=by
 refine anH (el:=131) (by kernel_rfl) (fun c f => ?_) ?_
 ·unfold oZ at f;rw [aBH] at f;obtain ⟨p,_,f⟩:=f;simp at f;rcases f with rfl | rfl <;> rfl
 have V:=u.rd.plain;generalize j:jC 131 ps.length (oZ ps)=Q;replace j:=aA.mk j;replace t:=aA.mk t;refine aV Tryz.func35 aD (h:=?_);unfold Tryz.f35;simp only [↓pre,simprocAttr,sx];rw [bS];refine bU (fun q e m=>∃ i A,q+i=ps.length∧e 0=v∧e 3=A∧e 4=aB (i:Nat)∧aA (bY .var m 131 2 A i (oZ (ps.take i)))) ps.length ⟨0,aW,by omega,rfl,rfl,rfl,⟨gK⟩⟩ ?_;rintro q e m ⟨i,A,g,E,J,F,x⟩;replace g:=aA.mk g;by_cases s:i < ps.length
 ·have k:((i:Nat):Int) < ((ps.length:Nat):Int):=by omega
  have w1:=cB (n:=i) (by have:=t.out;omega);obtain ⟨p,l⟩:∃ p,ps[i]? = some p:=⟨_,azm s⟩
  obtain ⟨a,b,S,U,K,N,H,D⟩:=u.at_ i p l;have o:ps.take (i+1)=ps.take i++[p]:=by rw [aA9,l];rfl
  have R:=fun (d c:Bool) (m:aF)=>vW (d:=d) (c:=c) (m:=m) H
  have O:=fun (d c:Bool) (m:aF)=>vW (d:=d) (c:=c) (m:=m) D
  replace l:=aA.mk l;replace o:=aA.mk o;simp only [↓pre,zae,amy,bH,cO,auE,auH,simprocAttr,E,J,F,k,u.rd.len',u.rd.addr',s,K,N,R,O];refine zU (kd := .var) (sz:=2) (y:=48) (zl:=[.slice none 0 0,.slice none 0 0]) (by kernel_rfl) x.out (by kernel_rfl) (by kernel_rfl) (by kernel_rfl) rfl aet rfl (by have:=t.out;omega) (by have:=t.out;omega) ?_;intro w T C I z L;refine cX (by kernel_rfl) ?_;simp only [↓pre,zab,simprocAttr,E,F,w1];refine ⟨q - 1,by have:=g.out;omega,i+1,w,by have:=g.out;omega,rfl,rfl,⟨?_⟩⟩;rw [o.out,auF];exact C
 ·have k:¬ ((i:Nat):Int) < ((ps.length:Nat):Int):=by omega
  have B:i=ps.length:=by have:=g.out;omega
  subst B;rw [List.take_length] at x;have G:∀ c∈oZ ps,zV ayU c:=fun c f=>by
   unfold oZ at f;rw [aBH] at f;obtain ⟨p,_,f⟩:=f;simp at f;rcases f with rfl | rfl <;> exact al7 _ _ _ _
  obtain ⟨M,r⟩:=al8 (P:=ayU) (by kernel_rfl) x.out G;simp only [↓pre,zae,amy,simprocAttr,E,J,F,k,u.rd.len',r];rw [←j.out]
theorem auJ (v v':AV) (ps:List aO) (cells l:List AV) (o:dG v ps cells) (g:dG v' ps l) (y:ps.length*48≤140737488355328):aQ ayU 45 [v,v'] ⟨aZ true,[]⟩:=by
 have P:=o.rd.plain;have D:=g.rd.plain;replace y:=aA.mk y;refine aV Tryz.func45 aD (h:=?_);unfold Tryz.f45;simp only [↓pre,zae,ahk,simprocAttr,o.rd.len',g.rd.len'];rw [bS];refine bU (fun q e m=>∃ i,q+i=ps.length∧e 0=v∧e 1=v'∧e 5=aB (i:Nat)) ps.length ⟨0,by omega,rfl,rfl,rfl⟩ ?_;rintro q e m ⟨i,j,B,L,A⟩;replace j:=aA.mk j;by_cases t:i < ps.length
 ·have f:((i:Nat):Int) < ((ps.length:Nat):Int):=by omega
  have w1:=cB (n:=i) (by have:=y.out;omega);obtain ⟨p,k⟩:∃ p,ps[i]? = some p:=⟨_,azm t⟩
  obtain ⟨a,b,M,O,C,F,z,w⟩:=o.at_ i p k;obtain ⟨N,Q,E,I,u,x,s,r⟩:=g.at_ i p k;have K:=fun (d c:Bool) (m:aF)=>vW (d:=d) (c:=c) (m:=m) z
  have H:=fun (d c:Bool) (m:aF)=>vW (d:=d) (c:=c) (m:=m) w
  have G:=fun (d c:Bool) (m:aF)=>vW (d:=d) (c:=c) (m:=m) s
  have J:=fun (d c:Bool) (m:aF)=>vW (d:=d) (c:=c) (m:=m) r
  replace k:=aA.mk k;simp only [↓pre,zae,ahk,bH,uK,simprocAttr,B,L,A,f,o.rd.len',o.rd.addr',g.rd.addr',t,C,F,u,x,K,H,G,J,w1];exact ⟨q - 1,by have:=j.out;omega,i+1,by have:=j.out;omega,rfl⟩
 ·have f:¬ ((i:Nat):Int) < ((ps.length:Nat):Int):=by omega
  simp only [↓pre,zae,ahk,simprocAttr,B,A,f,o.rd.len']
end Go.Proofs.YtaekhhlgnbhnpaaGreat