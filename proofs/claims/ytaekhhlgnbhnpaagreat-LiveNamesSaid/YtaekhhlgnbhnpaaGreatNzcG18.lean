import Derived.Test.YtaekhhlgnbhnpaaGreatNzcG17
import Derived.Shelf.SlSortCmp.NoneTotal
set_option linter.unusedVariables false
set_option linter.unusedSimpArgs false
set_option maxRecDepth 10000
open Go.Proofs.Tryz
open Array renaming getElem?_eq_getElem→azk
open Bool renaming and_self→aAu,and_true→aAF
open Go.Proofs.Tryz renaming prog→ayS
open List renaming getElem?_eq_some_iff→ay5,flatMap_cons→aBC,getD_eq_getElem?_getD→azp,getElem?_eq_getElem→azj,take_add_one→aA6,filter_append→aBD
open Option.some renaming injEq→ayX
namespace Go.Proofs.YtaekhhlgnbhnpaaGreat
open Go Go.Tw Go.Proofs
theorem atN:anc:=by
 refine ⟨by kernel_rfl,fun w I vs r f n => ?_⟩;have e:vs.size=2:=f;obtain ⟨t,c,q⟩:=gQ n (j:=0) rfl;obtain ⟨p,d,l⟩:=gQ n (j:=1) rfl;simp only [aN,VR] at q;subst q;have m:vs = #[.slice none 0 0,p]:=by
  apply Array.ext (by simpa using e);intro i l s;have:i=0∨i=1:=by simp at s;omega
  rcases this with rfl | rfl
  ·simp only [azk l,ayX] at c;simpa using c
  ·simp only [azk l,ayX] at d;simpa using d
 have a:=AnyF.slices_SortFunc_none anf none 0 p w;change Calls ayS 322 _ _ _ at a;rw [m];refine a.mono ?_;rintro x w' ⟨rfl,rfl⟩;exact ⟨.tuple #[],I,cZ,rfl,by simp only [eN,VR],⟨fun b k g o h=>by simp [dT,gO,aF.empty] at h,fun b u k k' g o v h=>by simp [dT,gO,aF.empty] at h,r,jH.none⟩,cL.refl _ _ _ _⟩
theorem atO (k r c w:Int) (v:AV) (ps:List bO) (cells:List AV) (a:fV v ps cells) (b:eJ k r c w ps=0):aR ayS 290 [aA k r c w,v] (aae (gC k r c w ps)):=atB atM atN k r c w v ps cells a b
theorem atP (k r c w:Int) (v:AV) (ps:List bO) (cells:List AV) (d:fV v ps cells) (b:¬ eJ k r c w ps=0):aR ayS 290 [aA k r c w,v] ⟨.tup [aN,aC (eJ k r c w ps)],[]⟩:=by
 have f:=d.rd.plain;have a:=amW k r c w v ps cells d;unfold acY at a;rw [if_neg b] at a;generalize eJ k r c w ps=e at *
 refine aX Tryz.func290 aB (h:=?_);unfold Tryz.f290;simp only [↓pre,zab,vD,simprocAttr,aA]
 (first | refine aH (a) (by first | rfl | simp only [aD, *]) ?_ | refine aG (a) (by first | rfl | simp only [aA,aD, *]) (by intro k;first | rfl | simp only [ *,zaa]) ?_);simp only [↓pre,zab,simprocAttr,aN,b]
def kD (k r c w:Int) (ps:List bO):List Int:=if eJ k r c w ps=0 then gS (gC k r c w ps) else []
theorem atQ {hs:List (Int×Int)} {v:Int} (e:v∈gS hs):(iN hs v hs.length).length≠0:=by
 obtain ⟨_,_,i,y,a,d⟩:=((aab hs).mem v).1 e;have b:=(ay5.1 a).1;have:(i:Int)∈iN hs v hs.length:=by
  unfold iN;rw [List.mem_filterMap];refine ⟨i,by rw [List.mem_range];omega, ?_⟩;have:qL hs i v=true:=by
   unfold qL;rw [a];simpa using d
  rw [if_pos this]
 intro c;rw [List.length_eq_zero_iff.1 c] at this;cases this
theorem ang {α β:Type} {f g:α→List β}:∀ (l:List α),(∀ x∈l,f x=g x)→l.flatMap f=l.flatMap g
 | [],_=>rfl
 | a::l,h=>by rw [aBC,aBC,h a (by simp),ang l fun x b=>h x (by simp [b])]
theorem atR (hs:List (Int×Int)):(tX hs).flatMap (fun x=>[aC x.1,.tree x.2.2.length x.2.2.length (bK x.2.2) false])=jD hs (gS hs):=by
 unfold tX jD;rw [List.flatMap_map];refine ang _ fun v a => ?_
 have:=atQ a;simp only [abu,bD,if_neg this]
theorem atS (k r c w:Int) (v:AV) (ps:List bO) (cells:List AV) (p:fV v ps cells):aR ayS 290 [aA k r c w,v] ⟨.tup [bD (kD k r c w ps).length (jD (gC k r c w ps) (kD k r c w ps)),aC (eJ k r c w ps)],[]⟩:=by
 by_cases f:eJ k r c w ps=0
 ·have h:=atO k r c w v ps cells p f;rw [f];unfold kD;rw [if_pos f];generalize gC k r c w ps=hs at *
  by_cases g:gS hs=[]
  ·unfold aae at h;rw [if_pos g] at h;rw [g];exact h
  ·unfold aae at h;rw [if_neg g] at h;have m:(tX hs).length=(gS hs).length:=by simp [tX]
   have i:(nW (tX hs)).length=(gS hs).length:=by simp [nW,m]
   have q:bP ayS 226 = .var:=by kernel_rfl
   have b:(nW (tX hs)++[(226,kP 0 (tX hs))]).getD (gS hs).length (0,[])=(226,kP 0 (tX hs)):=by
    rw [azp,List.getElem?_append_right (by omega),i,Nat.sub_self];rfl
   have d:=am6 (nW (tX hs)++[(226,kP 0 (tX hs))]) 0 (tX hs) 0 fun j x n=>by
    have s:=(ay5.1 n).1;rw [Nat.zero_add,List.getElem?_append_left (by omega)];unfold nW;rw [List.getElem?_map,n];rfl
   have a:=b;rw [azp] at a;have o:=uB 1 h (by simp [iT,j7,aC,a,d.2]);have e:fE ayS (nW (tX hs)++[(226,kP 0 (tX hs))]) 1 (.tup [.sl (gS hs).length 0 (gS hs).length (gS hs).length false,aC 0]) = .tup [bD (gS hs).length (jD hs (gS hs)),aC 0]:=by
    have l:¬ (gS hs).length=0:=fun h=>g (List.length_eq_zero_iff.1 h)
    rw [←atR hs];simp only [fE,iD,aC,b,q,reduceCtorEq,if_false,d.1,List.drop_zero,bD,if_neg l]
   rw [e] at o;exact o
 ·have h:=atP k r c w v ps cells p f;unfold kD;rw [if_neg f];exact h
def nX (k:Int) (hs:List (Int×Int)) (v:Int):Bool:=decide (k≤((iN hs v hs.length).length:Nat))
def jM (k:Int) (hs:List (Int×Int)) (T:List Int):List Int:=T.filter (nX k hs)
theorem anh (k r c w:Int) (ps:List bO):(kD k r c w ps).length≤1073741824:=by
 have key:∀ (T:List Int) (n:Nat),T.Pairwise (· > ·)→(∀ v∈T,1≤v∧v≤n)→T.length≤n:=by
  intro T
  induction T with
  | nil=>intro n _ _;simp
  | cons a T g =>
   intro n d e;rw [List.pairwise_cons] at d;have h:=e a (by simp);have:=g (a.toNat - 1) d.2 fun v b=>by
    have:=d.1 v b;have:=e v (by simp [b]);omega
   rw [List.length_cons];omega
 unfold kD;split
 ·have f:=aab (gC k r c w ps);refine key _ 1073741824 f.pw fun v b => ?_
  have:=(f.mem v).1 b;have:=ahz v this.2.2;omega
 ·simp
theorem atT (k r c w:Int) (v:AV) (ps:List bO) (cells:List AV) (Q:fV v ps cells):aR ayS 232 [aA k r c w,v] (aac 3 (jM k (gC k r c w ps) (kD k r c w ps)).length (bK (jM k (gC k r c w ps) (kD k r c w ps))) (eJ k r c w ps)):=by
 have hp:=Q.rd.plain;have x:=atS k r c w v ps cells Q;by_cases M:eJ k r c w ps=0
 ·rw [M] at x ⊢;have j:=anh k r c w ps;generalize kD k r c w ps=T at *
  generalize gC k r c w ps=hs at *
  generalize f:aac 3 (jM k hs T).length (bK (jM k hs T)) 0=X;have A:=dY T.length (jD hs T);have R:(if T.length=0 then (0:Int) else (0:Int))=0:=by split <;> rfl
  replace f:=Hid.mk f;replace j:=Hid.mk j;refine aX Tryz.func232 aB (h:=?_);unfold Tryz.f232;simp only [↓pre,zab,acK,simprocAttr,aA]
  (first | refine aH (x) (by first | rfl | simp only [c9,plain,aAu, *]) ?_ | refine aG (x) (by first | rfl | simp only [c9,plain,aaW,aA,aC,aV,aAF,aAu, *]) (by intro k;first | rfl | simp only [ *,zaa]) ?_);simp only [↓pre,zae,acK,sJ,simprocAttr,A.len']
  rw [bS];refine bU (fun q e m=>∃ i lv,q+i=T.length∧e 2 = .tptr 0 [aC k,aC r,aC c,aC w]∧e 8=lv∧e 20=bD T.length (jD hs T)∧e 21=aC (T.length:Nat)∧e 22=aC (i:Nat)∧Hid (Own m 3 1 lv (jM k hs (T.take i)).length (bK (jM k hs (T.take i))))) T.length ⟨0,aN,by omega,rfl,rfl,rfl,rfl,rfl,⟨fC⟩⟩ ?_;rintro q e m ⟨i,lv,b,J,I,u,p,l,E⟩;replace b:=Hid.mk b;by_cases t:i < T.length
  ·have d:((i:Nat):Int) < ((T.length:Nat):Int):=by omega
   have w1:=bY (n:=i) (by have:=j.out;omega);obtain ⟨z,F⟩:∃ z,T[i]? = some z:=⟨_,azj t⟩
   obtain ⟨t1,Z⟩:=ahy hs T i z F;obtain ⟨O,C⟩:=rL t1 Z;have a:aZ (abu hs z) (iN hs z hs.length).length (bK (iN hs z hs.length)):=dY _ _;have U:=b6 a;have o1:=bQ a;have g:T.take (i+1)=T.take i++[z]:=by rw [aA6,F];rfl
   have o:jM k hs (T.take (i+1))=jM k hs (T.take i)++(if nX k hs z=true then [z] else []):=by
    unfold jM;rw [g,aBD];cases h:nX k hs z <;> simp [h]
   have s:(jM k hs (T.take i)).length≤1073741824:=by
    unfold jM;have:=List.length_filter_le (nX k hs) (T.take i);have:=List.length_take_le i T;have:=j.out;omega
   replace F:=Hid.mk F;replace g:=Hid.mk g;replace o:=Hid.mk o;replace s:=Hid.mk s;by_cases G:k≤((iN hs z hs.length).length:Nat)
   ·have B:nX k hs z=true:=by unfold nX;rw [decide_eq_true G]
    simp only [↓pre,zae,acK,bE,aM,iS,simprocAttr,aJ,eq_self,J,I,u,p,l,d,A.addr',t,O,C,U,a.len',G];refine x4 (kd := .flat) (sz:=1) (y:=8) (zl:=[.int .i64 0]) (by kernel_rfl) (E.out.pp _ _) (by kernel_rfl) (by kernel_rfl) (by kernel_rfl) rfl mN (by rfl) (by have:=s.out;omega) (by have:=s.out;omega) ?_;intro H m3 N S K W;simp only [↓pre,zab,simprocAttr,J,u,p,l,w1];refine ⟨q - 1,by have:=b.out;omega,i+1,H,by have:=b.out;omega,rfl,rfl,⟨?_⟩⟩;rw [o.out,if_pos B,List.length_append,acW];exact N
   ·have B:nX k hs z=false:=by unfold nX;rw [decide_eq_false G]
    simp only [↓pre,zae,acK,aM,iS,fO,simprocAttr,aJ,eq_self,J,I,u,p,l,d,A.addr',t,O,C,U,a.len',G,w1];refine ⟨q - 1,by have:=b.out;omega,i+1,lv,by have:=b.out;omega,rfl,rfl,⟨?_⟩⟩;rw [o.out,if_neg (by rw [B];decide),List.append_nil];exact E.out.pp _ _
  ·have d:¬ ((i:Nat):Int) < ((T.length:Nat):Int):=by omega
   have L:i=T.length:=by have:=b.out;omega
   have g:T.take i=T:=by rw [L,List.take_length]
   rw [g] at E;have D:=ad6 (P:=ayS) (by kernel_rfl) E.out;simp only [↓pre,zab,fO,simprocAttr,I,p,l,d,D];rw [←f.out];rfl
 ·have Y:kD k r c w ps=[]:=by unfold kD;rw [if_neg M]
  rw [Y] at x ⊢;have V:bD ([]:List Int).length (jD (gC k r c w ps) [])=aN:=rfl;rw [V] at x;generalize eJ k r c w ps=ck at *
  refine aX Tryz.func232 aB (h:=?_);unfold Tryz.f232;simp only [↓pre,zab,acK,simprocAttr,aA]
  (first | refine aH (x) (by first | rfl | simp only [c9,plain,aAu, *]) ?_ | refine aG (x) (by first | rfl | simp only [c9,plain,aaW,aA,aC,aV,aAF,aAu, *]) (by intro k;first | rfl | simp only [ *,zaa]) ?_);simp only [↓pre,zab,simprocAttr,aN,M]
  rfl
theorem atU (k r c w:Int) (v:AV) (ps:List bO) (cells:List AV) (a:fV v ps cells):aR ayS 232 [aA k r c w,v] ⟨.tup [bD (jM k (gC k r c w ps) (kD k r c w ps)).length (bK (jM k (gC k r c w ps) (kD k r c w ps))),aC (eJ k r c w ps)],[]⟩ :=
 atv (by kernel_rfl) (atT k r c w v ps cells a)
def j3 (k r c w:Int) (ps:List bO):List Int:=jM k (gC k r c w ps) (kD k r c w ps)
theorem atV {k r c w:Int} {ps:List bO} (h:¬ eJ k r c w ps=0):j3 k r c w ps=[]:=by unfold j3 kD;rw [if_neg h];rfl
def aeY (k r c w:Int) (ps:List bO):AV := .tup [aC ((j3 k r c w ps).getD 0 0),aV (decide (1≤(j3 k r c w ps).length)),aC (eJ k r c w ps)]
theorem z0:((0:Nat):Int)=0:=rfl
theorem atW (n:Nat) (l:List Int):aZ (bD n (bK l)) n (bK l):=dY _ _
theorem atX (k r c w:Int) (v:AV) (ps:List bO) (cells:List AV) (i:fV v ps cells):aR ayS 157 [aA k r c w,v] ⟨aeY k r c w ps,[]⟩:=by
 have u:=i.rd.plain;have d:=atU k r c w v ps cells i;have e:=atV (k:=k) (r:=r) (c:=c) (w:=w) (ps:=ps);unfold aeY;change aR _ _ _ ⟨.tup [bD (j3 k r c w ps).length (bK (j3 k r c w ps)),_],[]⟩ at d;generalize j3 k r c w ps=l at *
 generalize eJ k r c w ps=p at *
 have b:=atW l.length l;have m:=b.plain;by_cases g:p=0
 ·subst g;cases l with
  | nil =>
   refine aX Tryz.func157 aB (h:=?_);unfold Tryz.f157;simp only [↓pre,zab,acI,simprocAttr,aA]
   (first | refine aH (d) (by first | rfl | simp only [c9,plain,aAu, *]) ?_ | refine aG (d) (by first | rfl | simp only [c9,plain,aaW,aA,aC,aV,aAF,aAu, *]) (by intro k;first | rfl | simp only [ *,zaa]) ?_);simp only [↓pre,zae,acI,sJ,simprocAttr,z0]
   rfl
  | cons a l =>
   have t:¬ (((a::l).length:Nat):Int)=0:=by simp;omega
   have q:0 < (a::l).length:=by simp
   have o:(bK (a::l))[0]? = some (.val (.int .i64 a)):=rfl;generalize f:a::l=L at *
   have n:decide (1≤L.length)=true:=by rw [decide_eq_true_eq];omega
   have j:L.getD 0 0=a:=by rw [←f];rfl
   rw [n,j];replace f:=Hid.mk f;refine aX Tryz.func157 aB (h:=?_);unfold Tryz.f157;simp only [↓pre,zab,acI,simprocAttr,aA]
   (first | refine aH (d) (by first | rfl | simp only [c9,plain,aAu, *]) ?_ | refine aG (d) (by first | rfl | simp only [c9,plain,aaW,aA,aC,aV,aAF,aAu, *]) (by intro k;first | rfl | simp only [ *,zaa]) ?_);simp only [↓pre,zae,acI,sJ,Nat.mul_one,simprocAttr,b.len',b.addr',t,q,o]
   rfl
 ·have s:l=[]:=e g;subst s;refine aX Tryz.func157 aB (h:=?_);unfold Tryz.f157;simp only [↓pre,zab,acI,simprocAttr,aA]
  (first | refine aH (d) (by first | rfl | simp only [c9,plain,aAu, *]) ?_ | refine aG (d) (by first | rfl | simp only [c9,plain,aaW,aA,aC,aV,aAF,aAu, *]) (by intro k;first | rfl | simp only [ *,zaa]) ?_);simp only [↓pre,zab,sJ,simprocAttr,g]
  rfl
section
variable {k:Int} {hs:List (Int×Int)} {T:List Int}
end
theorem ani (k r c w:Int) (ps:List bO):(kD k r c w ps).Pairwise (· > ·)∧∀ x∈kD k r c w ps,1≤x∧x≤1073741824:=by
 unfold kD;split
 ·refine ⟨(aab _).pw,fun x a => ?_⟩;have:=((aab _).mem x).1 a;have:=ahz x this.2.2;omega
 ·exact ⟨.nil,fun x a=>by cases a⟩
theorem atY {k r c w:Int} {ps:List bO} (h:1≤(j3 k r c w ps).length):(j3 k r c w ps).getD 0 0∈j3 k r c w ps:=by
 cases b:j3 k r c w ps with
 | nil=>rw [b] at h;simp at h
 | cons a l=>exact List.mem_cons_self
def firm:AV→Bool
 | .val _=>true
 | .tree .. => true
 | _=>false
theorem anj {P:Program} {rows:List (TypeId×List AV)} (d:Nat):∀ (cs:List AV),(∀ c∈cs,firm c=true)→iD P rows d cs=cs∧j7 P rows d cs=true
 | [],_=>by unfold iD j7;exact ⟨rfl,rfl⟩
 | c::cs,h=>by
  obtain ⟨f,e⟩:=anj (P:=P) (rows:=rows) d cs fun x a=>h x (by simp [a])
  have b:=h c (by simp);unfold iD j7;rw [f,e];cases c <;> simp [firm] at b <;> (cases d <;> (unfold fE iT;exact ⟨rfl,rfl⟩))
theorem atZ {P:Program} {f:FuncId} {args:List AV} {el:TypeId} {n:Nat} {cells:List AV} (g:bP P el = .var) (j:∀ c∈cells,firm c=true) (h:aR P f args (fU el n cells)):aR P f args ⟨bD n cells,[]⟩:=by
 obtain ⟨b,a⟩:=anj (P:=P) (rows:=(fU el n cells).rows) 0 cells j;have e:=uB 1 h (by
  unfold fU at a ⊢;split
  ·simp [iT,aN]
  ·rename_i d;rw [if_neg d] at a;simp only at a;simp [iT,g,a])
 have i:fE P (fU el n cells).rows 1 (fU el n cells).v=bD n cells:=by
  unfold bD;unfold fU at b ⊢;split
  ·simp [fE,aN]
  ·rename_i d;rw [if_neg d] at b;simp only at b;simp [fE,g,b]
 rw [i] at e;exact e
theorem at0 (n:Nat) (cs:List AV):firm (bD n cs)=true:=by unfold bD;split <;> rfl
theorem at1 (hs:List (Int×Int)) (T:List Int):∀ c∈jD hs T,firm c=true:=by
 intro x a;unfold jD at a;rw [List.mem_flatMap] at a;obtain ⟨v,_,a⟩:=a;rw [List.mem_cons,List.mem_singleton] at a;rcases a with rfl | rfl
 ·rfl
 ·exact at0 _ _
theorem at2 (k r c w:Int) (v:AV) (ps:List bO) (cells:List AV) (d:fV v ps cells) (b:bG k r c w=true) (a:ps.length≤1000000):aR ayS 198 [aA k r c w,v] ⟨bD (gS (gC k r c w ps)).length (jD (gC k r c w ps) (gS (gC k r c w ps))),[]⟩ :=
 atZ (by kernel_rfl) (at1 _ _) (atm k r c w v ps cells d b a)
theorem at3 {k r c w:Int} {v:AV} {ps:List bO} {cells:List AV} (e:fV v ps cells) (a:eJ k r c w ps=0):aR ayS 198 [aA k r c w,v] ⟨bD (kD k r c w ps).length (jD (gC k r c w ps) (kD k r c w ps)),[]⟩:=by
 obtain ⟨b,_,_,d⟩:=amX a;have h:=at2 k r c w v ps cells e b (by omega);have:kD k r c w ps=gS (gC k r c w ps):=by unfold kD;rw [if_pos a]
 rw [this];exact h
def at4 (l:List Int) (W:Int):Prop:=(l=[]∧W=0)∨(l=[W]∧0 < W)
theorem at5 (k r c w:Int) (v:AV) (ps:List bO) (cells:List AV) (I:fV v ps cells) (G:eJ k r c w ps=0):aR ayS 112 [aA k r c w,v] ⟨.tup [aC ((j3 k r c w ps).getD 0 0),aC ((j3 k r c w ps).getD 1 0)],[]⟩:=by
 have R:=I.rd.plain;have L:=at3 I G;have u:=anh k r c w ps;obtain ⟨x,t⟩:=ani k r c w ps;unfold j3;generalize kD k r c w ps=T at *
 generalize gC k r c w ps=hs at *
 have f:=dY T.length (jD hs T);replace x:=Hid.mk x;replace t:=Hid.mk t;replace u:=Hid.mk u;replace G:=Hid.mk G;refine aX Tryz.func112 aB (h:=?_);unfold Tryz.f112;simp only [↓pre,zab,acF,simprocAttr,aA]
 (first | refine aH (L) (by first | rfl | simp only [c9,plain,aAu, *]) ?_ | refine aG (L) (by first | rfl | simp only [c9,plain,aaW,aA,aC,aV,aAF,aAu, *]) (by intro k;first | rfl | simp only [ *,zaa]) ?_);simp only [↓pre,simprocAttr,sx,sJ]
 rw [bS];refine bU (fun q e m=>∃ i W,q+i=T.length∧e 1=v∧e 2 = .tptr 0 [aC k,aC r,aC c,aC w]∧e 6=bD T.length (jD hs T)∧e 7=aC W∧e 8=aC (i:Nat)∧Hid (at4 (jM k hs (T.take i)) W)) T.length ⟨0,0,by omega,rfl,rfl,rfl,rfl,rfl,⟨.inl ⟨rfl,rfl⟩⟩⟩ ?_;rintro q e m ⟨i,W,g,K,E,C,B,D,y⟩;replace g:=Hid.mk g;by_cases l:i < T.length
 ·have b:((i:Nat):Int) < ((T.length:Nat):Int):=by omega
  have w1:=bY (n:=i) (by have:=u.out;omega);obtain ⟨z,A⟩:∃ z,T[i]? = some z:=⟨_,azj l⟩
  obtain ⟨N,H⟩:=ahy hs T i z A;have O:=t.out z (List.mem_of_getElem? A);have d:aZ (abu hs z) (iN hs z hs.length).length (bK (iN hs z hs.length)):=dY _ _;have j:T.take (i+1)=T.take i++[z]:=by rw [aA6,A];rfl
  have a:jM k hs T=jM k hs (T.take i)++((if nX k hs z=true then [z] else [])++jM k hs (T.drop (i+1))):=by
   conv=>lhs;rw [←List.take_append_drop (i+1) T,j]
   unfold jM;rw [aBD,aBD,List.append_assoc];cases h:nX k hs z <;> simp [h]
  have o:jM k hs (T.take (i+1))=jM k hs (T.take i)++(if nX k hs z=true then [z] else []):=by
   unfold jM;rw [j,aBD];cases h:nX k hs z <;> simp [h]
  replace A:=Hid.mk A;replace j:=Hid.mk j;replace o:=Hid.mk o;replace a:=Hid.mk a;by_cases F:((iN hs z hs.length).length:Nat) < k
  ·have p:nX k hs z=false:=by unfold nX;rw [decide_eq_false (by omega)]
   simp only [↓pre,zag,acF,simprocAttr,K,E,C,B,D,b,f.len',f.addr',l,H,d.len',F,w1];refine ⟨q - 1,by have:=g.out;omega,i+1,W,by have:=g.out;omega,rfl,rfl,⟨?_⟩⟩;rw [o.out,if_neg (by rw [p];decide),List.append_nil];exact y.out
  ·have p:nX k hs z=true:=by unfold nX;rw [decide_eq_true (by omega)]
   by_cases J:0 < W
   ·have P:jM k hs T=W::z::jM k hs (T.drop (i+1)):=by
     rcases y.out with ⟨_,s⟩ | ⟨s,_⟩
     ·omega
     ·rw [a.out,s,if_pos p];rfl
    rw [P];simp only [↓pre,zag,acF,simprocAttr,E,C,B,D,b,f.len',f.addr',l,N,H,d.len',F,J];rfl
   ·simp only [↓pre,zag,acF,simprocAttr,K,E,C,B,D,b,f.len',f.addr',l,N,H,d.len',F,J,w1];refine ⟨q - 1,by have:=g.out;omega,i+1,z,by have:=g.out;omega,rfl,rfl,⟨?_⟩⟩;rw [o.out,if_pos p];rcases y.out with ⟨s,_⟩ | ⟨_,s⟩
    ·rw [s];exact .inr ⟨rfl,by omega⟩
    ·omega
 ·have b:¬ ((i:Nat):Int) < ((T.length:Nat):Int):=by omega
  have j:T.take i=T:=by rw [List.take_of_length_le (by omega)]
  rw [j] at y;have M:(jM k hs T).getD 0 0=W∧(jM k hs T).getD 1 0=0:=by
   rcases y.out with ⟨s,Q⟩ | ⟨s,_⟩
   ·rw [s,Q];exact ⟨rfl,rfl⟩
   ·rw [s];exact ⟨rfl,rfl⟩
  rw [M.1,M.2];simp only [↓pre,zag,acF,simprocAttr,C,B,D,b,f.len']
theorem at6 {P:Program} {d c:Bool} {m:aF} {src dst:TypeId} {v:AV} {n:Nat} {cs:List AV} (h:aZ v n cs) (b:bZ P dst=none):mM P d c m src dst v=mJ P m src dst v:=by
 rcases h.form with ⟨rfl,_⟩ | ⟨a,f,rfl,_⟩ | ⟨a,f,rfl,_⟩
 ·unfold aN;rw [agP,aaS b]
 ·have:mM P d c m src dst (.emp a f)=mL P c m src dst (.emp a f):=by cases c <;> cases d <;> rfl
  rw [this,aaS b]
 ·exact ad2 b
def oT (bs:List UInt8):AV := .val (.string ⟨bs.toArray⟩)
theorem wS {d c:Bool} {m:aF} {v:AV} {bs:List UInt8} {x:List AV} (h:aZ v bs.length (aL bs++x)):mM ayS d c m 52 9 v=some ⟨oT bs,m,none⟩:=by
 rw [at6 h (by kernel_rfl)];exact aZ.str (el:=5) h (by kernel_rfl) (by kernel_rfl) (by kernel_rfl) (by kernel_rfl)
theorem at7 {d:Bool} {m:aF} {bs:List UInt8}:mM ayS d true m 9 52 (oT bs)=some ⟨.tree bs.length bs.length (aL bs) false,m,none⟩:=by
 have h:=ad3 (P:=ayS) (d:=d) (m:=m) (src:=9) (dst:=52) (s:=⟨bs.toArray⟩) (by kernel_rfl) (by kernel_rfl) (by kernel_rfl) (by kernel_rfl);unfold oT;rw [h];rfl
end Go.Proofs.YtaekhhlgnbhnpaaGreat