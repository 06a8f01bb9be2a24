import Derived.Test.YtaekhhlgnbhnpaaGreatQmcG27
import Derived.Test.YtaekhhlgnbhnpaaGreatQmcG08
import Derived.Test.YtaekhhlgnbhnpaaGreatQmcG15
import Derived.Shelf.GgSortFunc.RowK
import Derived.Test.YtaekhhlgnbhnpaaGreatQmcG26
import Derived.Test.YtaekhhlgnbhnpaaGreatQmcG22
import Derived.Test.YtaekhhlgnbhnpaaGreatQmcG23
import Derived.Test.YtaekhhlgnbhnpaaGreatQmcG24
import Derived.Test.YtaekhhlgnbhnpaaGreatQmcG21
set_option linter.unusedVariables false
set_option linter.unusedSimpArgs false
set_option maxRecDepth 10000
open Go.Proofs.Tryz
open Go.Proofs.Tryz renaming prog→ayU
open List renaming getElem?_eq_getElem→azm,length_append→aA2,mem_of_getElem?→az8,append_nil→aBl
open Nat renaming one_ne_zero→aBm
open Option renaming bind_some→aAk
namespace Go.Proofs.YtaekhhlgnbhnpaaGreat
open Go Go.Tw Go.Proofs Go.Sort
section
variable {P:Program} {w:World} {I:Nat→Prop} {ρ:cA} {m:aF}
end
end Go.Proofs.YtaekhhlgnbhnpaaGreat
namespace Go.Proofs.YtaekhhlgnbhnpaaGreat
open Go Go.Tw Go.Proofs Go.Gf

theorem ayn (i j:Nat) (a b:Int):eA ayU .neq 67 (.tmp i) (.tmp j) (.agg [.val (.int .i64 a),.val (.int .i64 b)]) (.agg [.val (.int .i64 a),.val (.int .i64 b)])=some (.val (.bool false)):=by
 have h:yG ayU #[.int .i64 a,.int .i64 b] #[.int .i64 a,.int .i64 b] (abW ayU 67)=if a=a then (if b=b then some true else some false) else some false:=by kernel_rfl
 rw [if_pos rfl,if_pos rfl] at h;exact (asA (a:=[.val (.int .i64 a),.val (.int .i64 b)]) (b:=[.val (.int .i64 a),.val (.int .i64 b)]) (u:=[.int .i64 a,.int .i64 b]) (v:=[.int .i64 a,.int .i64 b]) rfl rfl (by kernel_rfl) (by kernel_rfl) (by kernel_rfl) h).2
theorem ayo (v v':AV) (l:List cC) (x z:List AV) (f:aT v l.length (cU l++x)) (b:aT v' l.length (cU l++z)) (F:l.length≤1000000):aQ ayU 65 [v,v'] ⟨aZ true,[]⟩:=by
 refine aV Tryz.func65 aD (h:=?_);unfold Tryz.f65;simp only [↓pre,zae,ahl,simprocAttr,f.len',b.len'];rw [bS];refine bU (fun q e m=>∃ i,q+i=l.length∧e 0=v∧e 1=v'∧e 5=aB (i:Nat)) l.length ⟨0,by omega,rfl,rfl,rfl⟩ ?_;rintro q e m ⟨i,g,u,E,w⟩;replace g:=aA.mk g;by_cases c:i < l.length
 ·have a:((i:Nat):Int) < ((l.length:Nat):Int):=by omega
  have A:=cB (n:=i) (by omega);obtain ⟨y,j⟩:∃ y,l[i]? = some y:=⟨_,azm c⟩
  obtain ⟨D,C⟩:=abe l x i y j;obtain ⟨B,r⟩:=qX D C;obtain ⟨t,s⟩:=abe l z i y j;obtain ⟨o,d⟩:=qX t s;have k:=fun p q=>ayn p q y.1 y.2
  replace j:=aA.mk j;simp only [↓pre,zae,ahl,simprocAttr,u,E,w,f.len',a,c,f.addr',b.addr',B,r,o,d,k,A];exact ⟨q - 1,by have:=g.out;omega,i+1,by have:=g.out;omega,rfl⟩
 ·have a:¬ ((i:Nat):Int) < ((l.length:Nat):Int):=by omega
  simp only [↓pre,zae,ahl,simprocAttr,u,w,f.len',a]
theorem aqs (a b:Int) (v v':AV) (l:List cC) (x e:List AV) (d:aT v l.length (cU l++x)) (c:aT v' l.length (cU l++e)) (f:l.length≤1000000):aQ ayU 44 [.agg [aB a,aB b,v],.agg [aB a,aB b,v']] ⟨aZ true,[]⟩:=by
 have hs:=ayo v v' l x e d c f;have g:=bW d;have m:=bR d;have n:=d.plain;have i:=bW c;have o:=bR c;have j:=c.plain;refine aV Tryz.func44 aD (h:=?_);unfold Tryz.f44;simp only [↓pre,zac,asJ,simprocAttr,g,i]
 (first | refine aI (hs) (by first | rfl | simp only [aE, *]) ?_ | refine aH (hs) (by first | rfl | simp only [aC,aE, *]) (by intro k;first | rfl | simp only [ *,zaa]) ?_);simp only [↓pre,zad,simprocAttr]
structure adV (m:aF) (hd:aaA) (v:AV) (pre:List cC):Prop where
 form:(pre=[]∧v = .tree 1 1 [aB hd.1,.val (.int .u8 hd.2.1),aB hd.2.2] true)∨(0 < pre.length∧Own m 104 3 v (1+pre.length) (xR (hd::wP pre)))
theorem adV.fin {m:aF} {b:aaA} {v:AV} {pre:List cC} (h:adV m b v pre):fzT 0 m v=some (aqr (b::wP pre)):=by
 rcases h.form with ⟨rfl,rfl⟩ | ⟨c,a⟩
 ·exact abU
 ·rw [yS a 0];unfold bE aqr;rw [if_neg (by omega)];have:(b::wP pre).length=1+pre.length:=by rw [List.length_cons,aym];omega
  rw [this,decide_eq_false (by omega)]
theorem adV.step {m:aF} {a:aaA} {v:AV} {pre:List cC} (h:adV m a v pre) (x:cC) (p:pre.length≤1000000) {K:bL→Prop} (g:∀ c m',adV m' a c (pre++[x])→K ⟨c,m',none⟩):eO (fR ayU 104 m v (.tree 1 1 [.val (.int .i64 x.1),.val (.int .u8 1),.val (.int .i64 x.2)] true)) K:=by
 have d:eM ayU 104 3 m (.tree 1 1 [.val (.int .i64 x.1),.val (.int .u8 1),.val (.int .i64 x.2)] true)=some ([.val (.int .i64 x.1),.val (.int .u8 1),.val (.int .i64 x.2)],1):=abQ (by simp);have b:xR (a::wP (pre++[x]))=xR (a::wP pre)++[.val (.int .i64 x.1),.val (.int .u8 1),.val (.int .i64 x.2)]:=by
  rw [show a::wP (pre++[x])=(a::wP pre)++[(x.1,1,x.2)] by simp [wP],ayl];rfl
 rcases h.form with ⟨rfl,rfl⟩ | ⟨o,e⟩
 ·have j:bX ayU 104=some 3:=by kernel_rfl
  have k:jN ayU 104=some 24:=by kernel_rfl
  have l:gF ayU 104=some [.int .i64 0,.int .u8 0,.int .i64 0]:=by kernel_rfl
  have i:bK ayU 104 = .flat:=by kernel_rfl
  have:fR ayU 104 m (.tree 1 1 [aB a.1,.val (.int .u8 a.2.1),aB a.2.2] true) (.tree 1 1 [.val (.int .i64 x.1),.val (.int .u8 1),.val (.int .i64 x.2)] true)=some ⟨.sl m.next 0 2 2 false,m.push ⟨[aB a.1,.val (.int .u8 a.2.1),aB a.2.2]++[.val (.int .i64 x.1),.val (.int .u8 1),.val (.int .i64 x.2)],104,.flat,true⟩,none⟩:=by
   simp only [fR,j,k,l,i,d,dR,aAk];simp [bI]
  rw [this];refine g _ _ ⟨.inr ⟨by simp,.inr ⟨m.next,rfl, ?_,by rw [cQ];omega,by omega⟩, ?_⟩⟩
  ·rw [cF,if_pos rfl];rfl
  ·rw [ayk];simp [wP]
 ·refine nP (kd := .flat) (sz:=3) (y:=24) (zl:=[.int .i64 0,.int .u8 0,.int .i64 0]) (by kernel_rfl) e (by kernel_rfl) (by kernel_rfl) (by kernel_rfl) rfl d rfl (by omega) (by omega) ?_;intro c m' f n;rw [←b] at f;exact g _ _ ⟨.inr ⟨by simp,by rw [aA2];exact f⟩⟩
structure ayR (m:aF) (dv:AV) (D:List cC) (lv:AV) (LL:List cC) (sv:AV) (SS:List cC):Prop where
 d:Own m 67 2 dv D.length (cU D)
 l:Own m 67 2 lv LL.length (cU LL)
 s:Own m 67 2 sv SS.length (cU SS)
 dl:∀ b,cG dv=some b→cG lv≠some b
 ds:∀ b,cG dv=some b→cG sv≠some b
 ls:∀ b,cG lv=some b→cG sv≠some b
structure uY (m:aF) (a:AV) (n:Nat):Prop where
 form:(a = .val (.slice none 0 0)∧n=0)∨∃ b cs,a = .sl b 0 n n false∧0 < n∧b < m.next∧m.at_ b=some ⟨cs,67,.flat,true⟩∧cs.length=n*2
theorem ayp {m:aF} {a:AV} {l:List cC} (h:Own m 67 2 a l.length (cU l)):uY m a l.length:=by
 rcases h.form with ⟨rfl,c,_⟩ | ⟨b,rfl,c,d,e⟩
 ·exact ⟨.inl ⟨rfl,c⟩⟩
 ·exact ⟨.inr ⟨b,_,rfl,e,d,c,abd _⟩⟩
theorem uY.lenE {m:aF} {a:AV} {n:Nat} (h:uY m a n):Go.Tw.lenE ayU 31 a=some (.val (.int .i64 (n:Nat))):=by
 have d:bO ayU 31=some 67:=by kernel_rfl
 rcases h.form with ⟨rfl,c⟩ | ⟨b,cs,rfl,_⟩
 ·rw [c];show Go.Tw.lenE ayU 31 (.val (.slice none 0 0))=some (.val (.int .i64 0));kernel_rfl
 ·simp [Go.Tw.lenE,d,sN,aB]
theorem uY.keep {m m':aF} {a:AV} {n:Nat} (h:uY m a n) (i:m.next≤m'.next) (f:∀ b k,cG a=some b→m.at_ b=some k→m'.at_ b=some k):uY m' a n:=by
 rcases h.form with c | ⟨b,cs,rfl,c,g,e,d⟩
 ·exact ⟨.inl c⟩
 ·exact ⟨.inr ⟨b,cs,rfl,c,by omega,f b _ rfl e,d⟩⟩
theorem uY.step {m:aF} {a:AV} {n i:Nat} (h:uY m a n) (hi:i < n) (z:AV):∃ b cs,a = .sl b 0 n n false∧m.at_ b=some ⟨cs,67,.flat,true⟩∧b < m.next∧i*2+1≤cs.length∧uY (m.put b (some ⟨List.take (i*2) cs++[z]++List.drop (i*2+1) cs,67,.flat,true⟩)) a n:=by
 rcases h.form with ⟨_,c⟩ | ⟨b,cs,rfl,c,d,e,f⟩
 ·omega
 ·refine ⟨b,cs,rfl,e,d,by omega,⟨.inr ⟨b,_,rfl,c,d,by rw [cI,if_pos rfl], ?_⟩⟩⟩;simp;omega
structure LvL (m:aF) (a:AV) (n:Nat):Prop where
 form:(a = .val (.slice none 0 0)∧n=0)∨∃ b c cs,a = .sl b 0 n c false∧0 < n∧b < m.next∧m.at_ b=some ⟨cs,67,.flat,true⟩∧((c=n∧cs.length=n*2)∨(c=n+1∧cs.length=(n+1)*2))
theorem uY.lv {m:aF} {a:AV} {n:Nat} (h:uY m a n):LvL m a n:=by
 rcases h.form with c | ⟨b,cs,g,c,e,f,d⟩
 ·exact ⟨.inl c⟩
 ·exact ⟨.inr ⟨b,n,cs,g,c,e,f,.inl ⟨rfl,d⟩⟩⟩
theorem ayq (a b:Int) (dv:AV) (l:List cC) (x:List AV) (c:aT dv l.length (cU l++x)):aQ ayU 34 [.agg [aB a,aB b,dv]] ⟨aZ (decide ((200:Int) < (l.length:Nat))),[]⟩:=by
 have d:=bW c;have e:=bR c;by_cases h:(200:Int) < ((l.length:Nat):Int)
 ·rw [decide_eq_true h];refine aV Tryz.func34 aD (h:=?_);unfold Tryz.f34;simp only [↓pre,zai,amx,aZ,simprocAttr,d,c.len',h]
 ·rw [decide_eq_false h];refine aV Tryz.func34 aD (h:=?_);unfold Tryz.f34;simp only [↓pre,zai,amx,aZ,simprocAttr,d,c.len',h]
def ajb:Nat→Bool:=fun d=>d != 2 && d != 3
theorem ayr (a b:Int) (dv:AV) (l:List cC) (x:List AV) (e:aT dv l.length (cU l++x)) (A:l.length≤1000):aQ ayU 36 [.agg [aB a,aB b,dv]] ⟨.agg [aB a,aB b,bE l.length (cU l)],[]⟩:=by
 refine gA ?_;have r:=bW e;have z:=bR e;have B:=uS e;have v:=uT e;have f:∀ m,eM ayU 67 2 m dv=some (cU l,l.length):=fun m=>by
  have:=aT.src (P:=ayU) (m:=m) (el:=67) (sz:=2) e (by rw [aA2,abd];omega);rw [←abd,List.take_left' rfl] at this;exact this
 refine bV Tryz.func36 ajb (h:=?_);unfold Tryz.f36;simp only [↓pre,zaf,amz,ajb,bD,aBm,simprocAttr,bne,aS,r];generalize g:aF.put _ _ _=m;refine vN (kd := .flat) (sz:=2) (y:=16) (zl:=[.int .i64 0,.int .i64 0]) (by kernel_rfl) (gK (m:=m)) (by kernel_rfl) (by kernel_rfl) (by kernel_rfl) rfl (f _) (abd l) (by omega) (by omega) fun v' m' d s i k q => ?_
 have w:m.next=2:=by rw [←g];simp [fC,cQ,aX]
 have p:m'.at_ 1=some ⟨[.val (.int .i64 a),.val (.int .i64 b),.val (.slice none 0 0)],33,.var,true⟩:=i 1 _ (by rw [←g];simp [cI]) (by omega) (fun h=>by cases h);have n:m'.at_ 0=some ⟨[.val (.int .i64 0),.val (.int .i64 0),.val (.slice none 0 0)],33,.var,true⟩:=i 0 _ (by rw [←g];simp [cI,cF,cQ,aX]) (by omega) (fun h=>by cases h);simp only [Nat.zero_add,List.nil_append] at d;have c:∀ j,cG v'=some j→2≤j:=fun j o=>by
  rcases k j o with h | h
  ·omega
  ·cases h
 have u:gD v'=true:=by rcases d.form with ⟨rfl,_⟩ | ⟨_,rfl,_⟩ <;> rfl
 have t:v'.cells=[v']:=by rcases d.form with ⟨rfl,_⟩ | ⟨_,rfl,_⟩ <;> rfl
 have C:dL v'=true:=by rcases d.form with ⟨rfl,_⟩ | ⟨_,rfl,_⟩ <;> rfl
 clear s i k q g;replace d:=aA.mk d;replace c:=aA.mk c;simp only [↓pre,za,amz,ajb,aBm,Nat.zero_ne_one,axb,simprocAttr,bne,aS,n,p,u,t];exact ⟨0,by rw [abV,eC,gU,aAk,eC,gU,aAk,eC,yS ((d.out.put_ne fun h=>by have:=c.out _ h;omega).put_ne fun h=>by have:=c.out _ h;omega),aAk,jI];rfl⟩
theorem aqt (m:aF) (k:Nat):∀ (l:List cW) (B:List Nat),xN m l B→dN k m (gV l B)=some (eH l)
 | [],_,_=>by
  show dN k m []=_;rw [dN];rfl
 | p::l,[],h=>by cases h.len
 | p::l,b::B,h=>by
  obtain ⟨e,c⟩:=h.row 0 p b rfl rfl;have f:=aqt m k l B h.tail;have a:lend k m (.sl b 0 p.bs.length p.bs.length false)=some (bE p.bs.length (aJ p.bs)):=by
   unfold bE;rw [if_neg e];cases k <;> (rw [lend];simp [c])
  have d:∀ v,lend k m (.val v)=some (.val v):=fun v=>by cases k <;> rw [lend]
  simp only [gV,dN,aB,d,a,f,aAk,Option.map_some];rfl
structure aaB (m:aF) (N:Nat) (lv:AV) (l:List cW):Prop where
 form:(lv = .val (.slice none 0 0)∧l=[])∨∃ b B,lv = .sl b 0 l.length l.length false∧0 < l.length∧b < N∧m.at_ b=some ⟨gV l B,69,.var,true⟩∧xN m l B∧∀ c∈B,c≠b∧c < N
theorem aaB.lend {m:aF} {N:Nat} {a:AV} {l:List cW} (h:aaB m N a l):Go.Tw.lend 3 m a=some (bE l.length (eH l)):=by
 rcases h.form with ⟨rfl,rfl⟩ | ⟨b,B,rfl,e,_,c,d,_⟩
 ·rw [Go.Tw.lend];rfl
 ·unfold bE;rw [if_neg (by omega),Go.Tw.lend];simp [c,aqt m 2 l B d]
structure uZ (m:aF) (N:Nat) (lv:AV) (l:List cW):Prop where
 form:(lv = .val (.slice none 0 0)∧l=[])∨∃ b B,lv = .sl b 0 l.length l.length false∧0 < l.length∧b < N∧m.at_ b=some ⟨gV l B,69,.var,true⟩∧B.length=l.length∧∀ (i:Nat) (p:cW) (c:Nat),l[i]? = some p→B[i]? = some c→c≠b∧c < N∧∃ cs:List AV,cs.length=p.bs.length∧m.at_ c=some ⟨cs,5,.flat,true⟩
theorem aaB.has {m:aF} {N:Nat} {e:AV} {l:List cW} (h:aaB m N e l):uZ m N e l:=by
 rcases h.form with d | ⟨b,B,k,d,n,o,f,g⟩
 ·exact ⟨.inl d⟩
 ·exact ⟨.inr ⟨b,B,k,d,n,o,f.len,fun i p c j a=>⟨(g c (az8 a)).1,(g c (az8 a)).2,_,eS _,(f.row i p c j a).2⟩⟩⟩
theorem uZ.keep {m m':aF} {N:Nat} {d:AV} {l:List cW} (h:uZ m N d l) (f:∀ j k,j < N→m.at_ j=some k→m'.at_ j=some k):uZ m' N d l:=by
 rcases h.form with a | ⟨b,B,w,a,e,v,s,u⟩
 ·exact ⟨.inl a⟩
 ·refine ⟨.inr ⟨b,B,w,a,e,f b _ e v,s,fun i p c n q => ?_⟩⟩;obtain ⟨o,g,cs,t,r⟩:=u i p c n q;exact ⟨o,g,cs,t,f c _ g r⟩
theorem aaB.keep {m m':aF} {N:Nat} {f:AV} {l:List cW} (h:aaB m N f l) (q:∀ j k,j < N→m.at_ j=some k→m'.at_ j=some k):aaB m' N f l:=by
 rcases h.form with e | ⟨b,B,s,e,o,r,a,n⟩
 ·exact ⟨.inl e⟩
 ·exact ⟨.inr ⟨b,B,s,e,o,q b _ o r,⟨a.len,fun i p c g d=>⟨(a.row i p c g d).1,q c _ (n c (az8 d)).2 (a.row i p c g d).2⟩,a.nd⟩,n⟩⟩
theorem uZ.lenE {m:aF} {N:Nat} {a:AV} {l:List cW} (h:uZ m N a l):Go.Tw.lenE ayU 27 a=some (.val (.int .i64 (l.length:Nat))):=by
 have c:bO ayU 27=some 69:=by kernel_rfl
 rcases h.form with ⟨rfl,rfl⟩ | ⟨b,B,rfl,_⟩
 ·show Go.Tw.lenE ayU 27 (.val (.slice none 0 0))=some (.val (.int .i64 0));kernel_rfl
 ·simp [Go.Tw.lenE,c,sN,aB]
theorem aqu:∀ (l:List cW) (B:List Nat) (i:Nat) (p:cW) (c:Nat),l[i]? = some p→B[i]? = some c→(gV l B)[i*4+3]? = some (.sl c 0 p.bs.length p.bs.length false)
 | [],_,i,p,c,h,_=>by simp at h
 | _::_,[],i,p,c,_,h=>by simp at h
 | q::l,b::B,0,p,c,h,h'=>by simp at h h';subst h h';rfl
 | q::l,b::B,i+1,p,c,h,h'=>by
  have a:=aqu l B i p c (by simpa using h) (by simpa using h');rw [show (i+1)*4+3=i*4+3+1+1+1+1 by omega];simpa [gV] using a
theorem uZ.step {m:aF} {N:Nat} {g:AV} {l:List cW} {i:Nat} (h:uZ m N g l) (hi:i < l.length):∃ b X c cs n,g = .sl b 0 l.length l.length false∧m.at_ b=some ⟨X,69,.var,true⟩∧X[i*4+3]? = some (.sl c 0 n n false)∧m.at_ c=some ⟨cs,5,.flat,true⟩∧cs.length=n∧(∃ p,l[i]? = some p∧n=p.bs.length)∧¬ b=c∧∀ a,a.length=n→uZ (m.put c (some ⟨a,5,.flat,true⟩)) N g l:=by
 rcases h.form with ⟨_,rfl⟩ | ⟨b,B,rfl,z,f,u,x,s⟩
 ·cases hi
 ·obtain ⟨p,k⟩:∃ p,l[i]? = some p:=⟨_,azm hi⟩
  obtain ⟨c,w⟩:∃ c,B[i]? = some c:=⟨_,azm (by omega)⟩
  obtain ⟨v,F,cs,C,r⟩:=s i p c k w;refine ⟨b,_,c,cs,_,rfl,u,aqu l B i p c k w,r,C,⟨p,k,rfl⟩,fun e=>v e.symm,fun a t=>⟨.inr ⟨b,B,rfl,z,f,by rw [cI,if_neg (fun e=>v e.symm)];exact u,x,fun j q d E A => ?_⟩⟩⟩;obtain ⟨r1,r2,y,D,o⟩:=s j q d E A;by_cases e:d=c
  ·subst e;rw [r] at o;cases o;exact ⟨r1,r2,a,by omega,by rw [cI,if_pos rfl]⟩
  ·exact ⟨r1,r2,y,D,by rw [cI,if_neg e];exact o⟩
theorem ays {d:Bool} {f:FuncId} {args a:List AV} {m:aF} {K:bL→Prop} {E:Int} {l:List cW} (h:aQ ayU f a (if E=0 then yZ l else ⟨.tup [.val (.slice none 0 0),.val (.int .i64 E)],[]⟩)) (q:dN 3 m args=some a) (i:∀ p∈l,p.bs.length≠0) (r:E=0→0 < l.length) (j:∀ n g,aaB g g.next n (if E=0 then l else [])→gX m g→K ⟨.tup [n,.val (.int .i64 E)],g,none⟩):mU ayU d f args m K:=by
 by_cases k:E=0
 ·subst k;rw [if_pos rfl] at h;simp only [if_true] at j;exact apd h q i fun b B g e=>j _ _ ⟨.inr ⟨b,B,rfl,r rfl,e.blk.2,e.cells,e.byt,fun c o=>⟨(e.new c o).2.2,(e.new c o).2.1⟩⟩⟩ e.kept
 ·rw [if_neg k] at h;simp only [if_neg k] at j;refine wU h q (by simp [fA.apart,hY,iA]) ?_;have:=j _ m ⟨.inl ⟨rfl,rfl⟩⟩ (gX.refl m);simpa [shift,gT,eB,gN] using this
theorem ayt (k r c w:Int) (ps:List aO) (num ver len dep:Int) (l:List cC):acF k r c w ps num ver len dep l = .tup [bE (if nI k r c w ps num ver len dep l=0 then sG k r c w ps num ver len dep l else []).length (eH (if nI k r c w ps num ver len dep l=0 then sG k r c w ps num ver len dep l else [])),aB (nI k r c w ps num ver len dep l)]:=by
 unfold acF;by_cases h:nI k r c w ps num ver len dep l=0
 ·simp only [if_pos h];rw [h,show (sG k r c w ps num ver len dep l).length=(k+r).toNat from acE _ _ _ _ _ _ _ _ _ _ _]
 ·simp only [if_neg h];rfl
theorem ayu (k r c w:Int) (ps:List aO) (num:Int):zA k r c w ps num = .tup [bE (if mR k r c w ps num=0 then iV k r c w ps num else []).length (eH (if mR k r c w ps num=0 then iV k r c w ps num else [])),aB (mR k r c w ps num)]:=by
 unfold zA;by_cases h:mR k r c w ps num=0
 ·simp only [if_pos h];rw [h]
 ·simp only [if_neg h];rfl
theorem ayv (k r c w:Int) (ps:List aO):∃ b d W D,yX k r c w ps = .tup [.agg [aB b,aB d,bE D.length (cU D)],aB W,aB (jG k r c w ps)]∧afV (jG k r c w ps) (fQ (iU k r c w ps)) (fK (iU k r c w ps)) (cY k r c w ps) (dT (iU k r c w ps))=tI (fun a => .tup [.agg [aB b,aB d,a],aB W,aB (jG k r c w ps)]) D∧D.length≤1000:=by
 unfold yX afV;by_cases h:jG k r c w ps=0
 ·refine ⟨_,_,_,dT (iU k r c w ps),by rw [if_pos h,h];rfl,by rw [if_pos h,h], ?_⟩;have e:cS k r c w ps=0:=by
   unfold jG at h;split at h
   ·assumption
   ·exact absurd h (by assumption)
  exact awL e h
 ·refine ⟨0,0,0,[],by rw [if_neg h];rfl,by rw [if_neg h];rfl,by simp⟩
def iH:Nat→Bool:=fun d=>d != 18
set_option maxHeartbeats 1000000 in
theorem ayw (k r c w num ver len dep:Int) (v dv:AV) (ps:List aO) (cells:List AV) (l:List cC) (x:List AV) (Z:dG v ps cells) (hd:aT dv l.length (cU l++x)) (hn:ps.length*48≤140737488355328) (hl:l.length≤9223372036854775807):aQ ayU 6 [aC k r c w,v,aB num,aB ver,.agg [aB len,aB dep,dv]] ⟨aZ true,[]⟩:=by
 have a2:=awD;have O:=ayq len dep dv l x hd;have pv:=Z.rd.plain;have fv:=bW Z.rd;have qv:=bR Z.rd;have pd:=hd.plain;have fd:=bW hd;have qd:=bR hd;by_cases L:(200:Int) < ((l.length:Nat):Int)
 ·rw [decide_eq_true L] at O;refine aV Tryz.func6 iH (h:=?_);unfold Tryz.f6;simp only [↓pre,zad,lX,iH,simprocAttr,aC,bne,fd]
  (first | refine aI (a2) (by first | rfl | simp only [aC,aE, *]) ?_ | refine aH (a2) (by first | rfl | simp only [aC,aE, *]) (by intro k;first | rfl | simp only [ *,zaa]) ?_);simp only [↓pre,zad,lX,iH,aX,simprocAttr,bne];(first | refine aI (O) (by first | rfl | simp only [aE, *]) ?_ | refine aH (O) (by first | rfl | simp only [aC,aE, *]) (by intro k;first | rfl | simp only [ *,zaa]) ?_);simp only [↓pre,zad,aX,simprocAttr]
 ·rw [decide_eq_false L] at O;have d3:=auI v ps cells Z hn;have g:=auG ps;have b6:=ayr len dep dv l x hd (by omega);have rT:=eQ l.length (cU l);generalize d5:bE ps.length (oZ ps)=E at *
  generalize d7:bE l.length (cU l)=TL at *
  have c5:=aw8 k r c w num ver len dep E TL ps _ l g ⟨[],by rw [aBl];exact rT⟩ hl;have b0:=ayf k r c w num ver len dep v dv ps cells l Z ⟨x,hd⟩ hl;rw [ayt] at b0;unfold af3 at c5;obtain ⟨a0,a1,W,D,a3,b3,c6⟩:=ayv k r c w ps;have c9:=awk k r c w E ps _ g;rw [b3] at c9;have K:=axY k r c w v ps cells Z;rw [a3] at K;have a5:=awj k r c w E ps _ g;rw [a3] at a5;have a9:=awB k r c w num E ps _ g;have a7:=ayg k r c w num v ps cells Z;rw [ayu] at a9 a7;have b9:=apk k r c w;have d2:=ayd k r c w;have H:nI k r c w ps num ver len dep l=0→0 < (sG k r c w ps num ver len dep l).length:=fun h=>by
   have hc:cS k r c w ps=0:=by
    unfold nI at h;split at h
    ·assumption
    ·exact absurd h (by assumption)
   have:=fG (uU hc).1;unfold sG;rw [acE];omega
  have R:∀ p∈sG k r c w ps num ver len dep l,p.bs.length≠0:=fun p hp=>by
   obtain ⟨i,_,rfl⟩:=List.mem_map.1 hp;have:=afX (mG k r c 2 ver (fJ k c len dep l) i);unfold gS;simp only;omega
  have b1:(if nI k r c w ps num ver len dep l=0 then sG k r c w ps num ver len dep l else []).length≤1000:=by
   by_cases h:nI k r c w ps num ver len dep l=0
   ·have hc:cS k r c w ps=0:=by
     unfold nI at h;split at h
     ·assumption
     ·exact absurd h (by assumption)
    have:=fG (uU hc).1;rw [if_pos h];unfold sG;rw [acE];omega
   ·rw [if_neg h];simp
  have c0:∀ p∈(if nI k r c w ps num ver len dep l=0 then sG k r c w ps num ver len dep l else []),p.bs.length≤1000000:=fun p hp=>by
   by_cases h:nI k r c w ps num ver len dep l=0
   ·rw [if_pos h] at hp;unfold nI at h;split at h
    ·rename_i hc;split at h
     ·cases h
     ·rename_i hb;obtain ⟨hm,_⟩:=uU hc;obtain ⟨i,hi,rfl⟩:=List.mem_map.1 hp;have f9:=kW.1 hm;have e9:=aiZ (bs:=fJ k c len dep l) (i:=i) hm (.inr rfl) (show eL ver=true by unfold uW at hb;unfold eL;exact decide_eq_true (by omega)) (by rw [List.mem_range] at hi;omega);have:=aiV hm e9;unfold eE at this;unfold gS;simp only;omega
    ·exact absurd h (by assumption)
   ·rw [if_neg h] at hp;cases hp
  have c8:(if mR k r c w ps num=0 then iV k r c w ps num else []).length≤1000:=by
   by_cases h:mR k r c w ps num=0
   ·have hc:cS k r c w ps=0:=by
     unfold mR at h;split at h
     ·assumption
     ·exact absurd h (by assumption)
    have:=fG (uU hc).1;rw [if_pos h];unfold iV;have:=afY k r c w ps num 2 (mQ k r c w ps) (cY k r c w ps) (k+r).toNat;omega
   ·rw [if_neg h];simp
  generalize e6:nI k r c w ps num ver len dep l=E1 at *
  generalize sG k r c w ps num ver len dep l=f0 at *
  generalize Q:(if E1=0 then f0 else [])=B at *
  generalize mR k r c w ps num=E2 at *
  generalize b2:(if E2=0 then iV k r c w ps num else [])=FL at *
  generalize jG k r c w ps=E3 at *
  have rP:=eQ B.length (eH B);have rF:=eQ FL.length (eH FL);have rD:=eQ D.length (cU D);have d9:=aqn (bE B.length (eH B)) (bE B.length (eH B)) B rP rP b1;have c4:=aqn (bE FL.length (eH FL)) (bE FL.length (eH FL)) FL rF rF c8;have a6:=aqs a0 a1 (bE D.length (cU D)) (bE D.length (cU D)) D [] [] (by rw [aBl];exact rD) (by rw [aBl];exact rD) (by omega);have c3:=aqs len dep TL dv l [] x (by rw [aBl];exact rT) hd (by omega);have S:=auJ E v ps _ cells g Z hn;generalize b5:bE B.length (eH B)=TP at *
  generalize e7:bE FL.length (eH FL)=TF at *
  generalize d0:bE D.length (cU D)=TD at *
  have pI:=g.rd.plain;have fI:=bW g.rd;have oI:=bR g.rd;have sI:=dB g.rd;have pT:=rT.plain;have fT:=bW rT;have oT:=bR rT;have sT:=dB rT;have pP:=rP.plain;have fP:=bW rP;have oP:=bR rP;have sP:=dB rP;have pF:=rF.plain;have fF:=bW rF;have oF:=bR rF;have sF:=dB rF;have pD:=rD.plain;have fD:=bW rD;have oD:=bR rD;have sD:=dB rD;simp only [aB] at d3 b6 c5 b0 c9 K a5 a9 a7 b9 d2 d9 c4 a6 c3 S;generalize (if bG k r c w=true then k else 0)=PN at *
  generalize (if bG k r c w=true then (0:Int) else 2)=PE at *
  replace g:=aA.mk g;replace rT:=aA.mk rT;replace rP:=aA.mk rP;replace rF:=aA.mk rF;replace rD:=aA.mk rD;replace Z:=aA.mk Z;replace hd:=aA.mk hd;replace hn:=aA.mk hn;replace d5:=aA.mk d5;replace d7:=aA.mk d7;replace b5:=aA.mk b5;replace e7:=aA.mk e7;replace d0:=aA.mk d0;replace a3:=aA.mk a3;replace b3:=aA.mk b3;replace e6:=aA.mk e6;replace Q:=aA.mk Q;replace b2:=aA.mk b2;replace R:=aA.mk R;replace H:=aA.mk H;replace c0:=aA.mk c0;replace L:=aA.mk L;replace b1:=aA.mk b1;replace c8:=aA.mk c8;replace c6:=aA.mk c6;refine aV Tryz.func6 iH (h:=?_);unfold Tryz.f6;simp only [↓pre,zad,lX,iH,simprocAttr,aC,bne,fd]
  (first | refine aI (a2) (by first | rfl | simp only [aC,aE, *]) ?_ | refine aH (a2) (by first | rfl | simp only [aC,aE, *]) (by intro k;first | rfl | simp only [ *,zaa]) ?_);simp only [↓pre,zad,lX,iH,aX,simprocAttr,bne];(first | refine aI (O) (by first | rfl | simp only [aE, *]) ?_ | refine aH (O) (by first | rfl | simp only [aC,aE, *]) (by intro k;first | rfl | simp only [ *,zaa]) ?_);simp only [↓pre,zad,iH,aX,simprocAttr,bne];(first | refine aI (d3) (by first | rfl | simp only [aE, *]) ?_ | refine aH (d3) (by first | rfl | simp only [aC,aE, *]) (by intro k;first | rfl | simp only [ *,zaa]) ?_);simp only [↓pre,zad,lX,iH,aX,simprocAttr,bne,sI];(first | refine aI (b6) (by first | rfl | simp only [aE, *]) ?_ | refine aH (b6) (by first | rfl | simp only [aC,aE, *]) (by intro k;first | rfl | simp only [ *,zaa]) ?_);simp only [↓pre,zaf,lX,iH,bD,simprocAttr,bne,aS,fT,sT]
  refine ays c5 (oQ 3 _ (by simp only [aE, *])).1 R.out H.out fun lv m1 hO e4 => ?_
  rw [Q.out] at hO;replace hO:=aA.mk hO;replace e4:=aA.mk e4;simp only [↓pre,zad,lX,iH,simprocAttr,bne]
  (first | refine aI (b0) (by first | rfl | simp only [aE, *]) ?_ | refine aH (b0) (by first | rfl | simp only [aC,aE, *]) (by intro k;first | rfl | simp only [ *,zaa]) ?_);simp only [↓pre,zad,lX,iH,simprocAttr,bne,sP]
  refine aiE _ c9 (oQ 3 _ (by simp only [aE, *])).1 (fun k a=>by simp [shift,gT]) (fun k n=>⟨by simp [hY,iA],by simp [hY,iA]⟩) fun dx m2 hN => ?_
  have J:=hN.abs;have g1:=J.cells;have g2:=J.ok;have g3:=J.one;replace hN:=aA.mk hN;replace J:=aA.mk J;simp only [↓pre,za,lX,iH,bD,simprocAttr,bne,aS]
  (first | refine aI (K) (by first | rfl | simp only [aE, *]) ?_ | refine aH (K) (by first | rfl | simp only [aC,aE, *]) (by intro k;first | rfl | simp only [ *,zaa]) ?_);simp only [↓pre,za,lX,iH,bD,simprocAttr,bne,aS,fD,sD];(first | refine aI (a9) (by first | rfl | simp only [aE, *]) ?_ | refine aH (a9) (by first | rfl | simp only [aC,aE, *]) (by intro k;first | rfl | simp only [ *,zaa]) ?_);simp only [↓pre,za,lX,iH,simprocAttr,bne,sF];(first | refine aI (a7) (by first | rfl | simp only [aE, *]) ?_ | refine aH (a7) (by first | rfl | simp only [aC,aE, *]) (by intro k;first | rfl | simp only [ *,zaa]) ?_);simp only [↓pre,za,lX,iH,simprocAttr,bne,sF];(first | refine aI (b9) (by first | rfl | simp only [aC,aE, *]) ?_ | refine aH (b9) (by first | rfl | simp only [aC,aE, *]) (by intro k;first | rfl | simp only [ *,zaa]) ?_);simp only [↓pre,za,lX,iH,simprocAttr,bne];(first | refine aI (d2) (by first | rfl | simp only [aC,aE, *]) ?_ | refine aH (d2) (by first | rfl | simp only [aC,aE, *]) (by intro k;first | rfl | simp only [ *,zaa]) ?_);simp only [↓pre,za,iH,simprocAttr,bne]
  generalize hM:aF.put (aF.push (aF.put (aF.push m2 _) _ _) _) _ _=M;have J:=J.out;have kM:∀ j Y,j < m2.next→m2.at_ j=some Y→M.at_ j=some Y:=fun j Y hj hk=>by
   rw [←hM,cI,if_neg (by omega),cF,if_neg (by simp only [cQ,fC];omega),cI,if_neg (by omega),cF,if_neg (by omega)];exact hk
  have bM:M.at_ m2.next=some ⟨[.val (.int .i64 a0),.val (.int .i64 a1),dx],33,.var,true⟩:=by
   rw [←hM];simp [cI,cF,fC,cQ]
  have nM:m2.next < M.next:=by rw [←hM];simp only [fC,cQ];omega
  have f5:=J.next;have d4:=(hO.out.keep fun j Y hj hk=>J.keep j Y hk hj).keep fun j Y hj hk=>kM j Y (by omega) hk
  have dM:=J.own.keep (m':=M) (by omega) fun b Y P e2=>kM b Y (yW J.own b P) e2
  have a8:∀ j,cG dx=some j→m1.next≤j∧j < m2.next:=fun j hj=>⟨by rw [J.blk j hj];exact Nat.le_refl _,yW J.own j hj⟩
  clear hM kM J hN;generalize m2.next=p at *
  generalize m1.next=N at *
  replace a8:=aA.mk a8;refine abO d9 (by simp [dN,d4.lend,b5.out,(yC 3 TP pP).1]) rfl rfl ?_;simp only [↓pre,zad,lX,iH,simprocAttr,bne,bM];refine abO a6 (by simp [dN,lend,alT dM,d0.out,(yC 3 TD pD).1]) rfl rfl ?_;simp only [↓pre,zad,iH,simprocAttr,bne]
  (first | refine aI (c4) (by first | rfl | simp only [aE, *]) ?_ | refine aH (c4) (by first | rfl | simp only [aC,aE, *]) (by intro k;first | rfl | simp only [ *,zaa]) ?_);simp only [↓pre,zad,lX,iH,simprocAttr,bne];(first | refine aI (c3) (by first | rfl | simp only [aE, *]) ?_ | refine aH (c3) (by first | rfl | simp only [aC,aE, *]) (by intro k;first | rfl | simp only [ *,zaa]) ?_);simp only [↓pre,zad,iH,simprocAttr,bne];(first | refine aI (S) (by first | rfl | simp only [aE, *]) ?_ | refine aH (S) (by first | rfl | simp only [aC,aE, *]) (by intro k;first | rfl | simp only [ *,zaa]) ?_);simp only [↓pre,zad,iH,simprocAttr,bne]
  rw [bS];refine bU (fun q e m=>∃ i,q+i=D.length∧e 1=v∧e 5 = .tptr 0 [aB k,aB r,aB c,aB w]∧e 12=E∧e 14=lv∧e 18 = .ptr p 0∧e 21 = .tptr 0 [aB a0,aB a1,TD]∧e 32=aZ true∧e 33=aZ true∧e 34=aB (i:Nat)∧aA (m.at_ p=some ⟨[.val (.int .i64 a0),.val (.int .i64 a1),dx],33,.var,true⟩∧uY m dx D.length∧uZ m N lv B)) D.length ⟨0,by omega,rfl,rfl,rfl,rfl,rfl,rfl,rfl,rfl,rfl,⟨bM,ayp dM,d4.has⟩⟩ ?_;clear bM nM dM d4 f5;rintro q e m ⟨i,V,P,e5,o,f,d1,u,t,z,c1,hJ⟩;replace V:=aA.mk V;obtain ⟨T,hx,F⟩:=hJ.out;clear hJ;have c2:=hx.lenE;by_cases C:i < D.length
  ·have d:((i:Nat):Int) < ((D.length:Nat):Int):=by omega
   have wi:=cB (n:=i) (by have:=c6.out;omega);obtain ⟨b,cs,d8,hb,g4,f2,A⟩:=hx.step C (.val (.int .i64 (-9)));have f1:¬ p=b:=fun h=>by rw [h,hb] at T;cases T
   have b7:=F.keep (m':=m.put b (some ⟨List.take (i*2) cs++[.val (.int .i64 (-9))]++List.drop (i*2+1) cs,67,.flat,true⟩)) fun j Y u1 u2=>by rw [cI,if_neg (fun h=>by have:=(a8.out b (by rw [d8];rfl)).1;omega)];exact u2
   replace A:=aA.mk A;replace b7:=aA.mk b7;replace F:=aA.mk F;replace hx:=aA.mk hx;have f8:=a8;subst d8;simp only [↓pre,zaj,lX,iH,aBm,simprocAttr,bne,aS,P,e5,o,f,d1,u,t,z,c1,T,c2,d,C,hb,f2,f1,wi];exact ⟨q - 1,by have:=V.out;omega,i+1,by have:=V.out;omega,rfl,⟨A.out,b7.out⟩⟩
  ·have d:¬ ((i:Nat):Int) < ((D.length:Nat):Int):=by omega
   replace F:=aA.mk F;replace hx:=aA.mk hx;simp only [↓pre,za,lX,iH,aBm,simprocAttr,bne,d1,c1,T,c2,d];rw [bS];refine bU (fun q e m=>∃ i,q+i=B.length∧e 1=v∧e 5 = .tptr 0 [aB k,aB r,aB c,aB w]∧e 12=E∧e 14=lv∧e 21 = .tptr 0 [aB a0,aB a1,TD]∧e 32=aZ true∧e 33=aZ true∧e 35=aB (i:Nat)∧aA (uZ m N lv B)) B.length ⟨0,by omega,P,e5,o,f,u,t,z,rfl,F⟩ ?_;clear P e5 o f d1 u t z c1 T hx F c2 C d V;rintro q e m ⟨i,V,P,e5,o,f,u,t,z,I,F⟩;replace V:=aA.mk V;have H:=F.out.lenE;by_cases C:i < B.length
   ·have d:((i:Nat):Int) < ((B.length:Nat):Int):=by omega
    have wi:=cB (n:=i) (by have:=b1.out;omega);obtain ⟨y,hy⟩:∃ y,B[i]? = some y:=⟨_,azm C⟩
    have c7:=c0.out y (az8 hy);replace hy:=aA.mk hy;replace c7:=aA.mk c7;simp only [↓pre,za,iH,simprocAttr,bne,f,I,H,d];rw [bS];refine bU (fun q2 e m=>∃ s,q2+s=y.bs.length∧e 1=v∧e 5 = .tptr 0 [aB k,aB r,aB c,aB w]∧e 12=E∧e 14=lv∧e 21 = .tptr 0 [aB a0,aB a1,TD]∧e 32=aZ true∧e 33=aZ true∧e 35=aB (i:Nat)∧e 36=aB (s:Nat)∧aA (uZ m N lv B)) y.bs.length ⟨0,by omega,P,e5,o,f,u,t,z,I,rfl,F⟩ ?_;clear P e5 o f u t z I F H;rintro q2 e m ⟨s,a4,P,e5,o,f,u,t,z,I,e3,F⟩;replace a4:=aA.mk a4;obtain ⟨b,X,cb,cs,n,G,hb,hX,f3,e0,⟨y2,b8,f7⟩,g0,A⟩:=F.out.step C;have f4:y2=y:=by have:=hy.out;rw [b8] at this;exact Option.some.inj this
    subst f4;subst f7;have d6:lenE ayU 52 (.sl cb 0 y2.bs.length y2.bs.length false)=some (.val (.int .i64 (y2.bs.length:Nat))):=by
     have:bO ayU 52=some 5:=by kernel_rfl
     simp [lenE,this,sN,aB]
    rw [G] at f;replace b8:=aA.mk b8;by_cases hs:s < y2.bs.length
    ·have b4:((s:Nat):Int) < ((y2.bs.length:Nat):Int):=by omega
     have ws:=cB (n:=s) (by have:=c7.out;omega);have e8:s+1≤cs.length:=by omega
     have U:=A (List.take s cs++[.val (.int .u8 99)]++List.drop (s+1) cs) (by simp;omega);replace A:=aA.mk A;replace U:=aA.mk U;replace e0:=aA.mk e0;replace G:=aA.mk G;simp only [↓pre,zaj,lX,iH,aBm,simprocAttr,bne,aS,P,e5,o,f,u,t,z,I,e3,C,hb,hX,d6,b4,hs,f3,e8,ws];exact ⟨q2 - 1,by have:=a4.out;omega,s+1,by have:=a4.out;omega,G.out.symm,rfl,U⟩
    ·have b4:¬ ((s:Nat):Int) < ((y2.bs.length:Nat):Int):=by omega
     replace A:=aA.mk A;replace G:=aA.mk G;simp only [↓pre,zaj,lX,iH,aBm,simprocAttr,bne,P,e5,o,f,u,t,z,I,e3,C,hb,hX,d6,b4,wi];exact ⟨q - 1,by have:=V.out;omega,i+1,by have:=V.out;omega,G.out.symm,rfl,F⟩
   ·have d:¬ ((i:Nat):Int) < ((B.length:Nat):Int):=by omega
    replace F:=aA.mk F;simp only [↓pre,za,lX,iH,simprocAttr,bne,e5,o,f,I,H,d]
    (first | refine aI (a5) (by first | rfl | simp only [aE, *]) ?_ | refine aH (a5) (by first | rfl | simp only [aC,aE, *]) (by intro k;first | rfl | simp only [ *,zaa]) ?_);simp only [↓pre,za,lX,iH,bD,simprocAttr,bne,aS,fD,sD,u,t,z];(first | refine aI (a6) (by first | rfl | simp only [aE, *]) ?_ | refine aH (a6) (by first | rfl | simp only [aC,aE, *]) (by intro k;first | rfl | simp only [ *,zaa]) ?_);simp only [↓pre,za,iH,simprocAttr,bne,P,o];(first | refine aI (S) (by first | rfl | simp only [aE, *]) ?_ | refine aH (S) (by first | rfl | simp only [aC,aE, *]) (by intro k;first | rfl | simp only [ *,zaa]) ?_);simp only [↓pre,za,iH,simprocAttr,bne]
end Go.Proofs.YtaekhhlgnbhnpaaGreat