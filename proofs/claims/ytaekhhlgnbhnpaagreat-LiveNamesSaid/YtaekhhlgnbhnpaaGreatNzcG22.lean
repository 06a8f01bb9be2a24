import Derived.Test.YtaekhhlgnbhnpaaGreatNzcG21
import Derived.Test.YtaekhhlgnbhnpaaGreatNzcG12
import Derived.Test.YtaekhhlgnbhnpaaGreatNzcG15
import Derived.Test.YtaekhhlgnbhnpaaGreatNzcG19
import Derived.Test.YtaekhhlgnbhnpaaGreatNzcG20
import Derived.Test.YtaekhhlgnbhnpaaGreatNzcG16
set_option linter.unusedVariables false
set_option linter.unusedSimpArgs false
set_option maxRecDepth 10000
open Bool renaming false_and→aBY,true_and→aBh
open Go.IntKind renaming i64→azv
open Go.Proofs.Tryz renaming prog→ayS
open Int renaming natCast_add→aCb
open List renaming take→aB8,drop→aB9,getElem?_append_left→azd,append_nil→aBi,getElem?_map→azl,map_congr_left→aAt,length_append→aAZ,take_append_of_le_length→aCa,take_of_length_le→aA7,getElem?_eq_none→ay3,getElem?_eq_getElem→azj,mem_of_getElem?→az5,drop_zero→aBu,getD_eq_getElem?_getD→azp,getElem?_of_mem→aBg,getElem?_eq_some_iff→ay5,replicate→aBo,eq_nil_of_length_eq_zero→azY,length_drop→aA9,drop_succ_cons→aAH,length_replicate→aCc,append_assoc→azT
open Nat renaming le_refl→ay7,lt_irrefl→aBH,zero_add→azn,mul_one→azD
open Option renaming bind_some→aAh,getD_some→aAB,map_none→aBa
open UInt8 renaming ofNat→azN
namespace Go.Proofs.YtaekhhlgnbhnpaaGreat
open Go Go.Tw Go.Proofs Go.Gf
theorem ado {w i:Nat} (F G:Nat→UInt8) (hi:i < w):aB8 i (aY w fun j=>if j < i then F j else G j)++[AV.val (.int .u8 ((F i).toNat:Int))]++aB9 (i+1) (aY w fun j=>if j < i then F j else G j)=aY w fun j=>if j < i+1 then F j else G j:=by
 have h:=yK (w:=w) (f:=fun j=>if j < i then F j else G j) (g:=fun j=>if j < i+1 then F j else G j) hi fun j b=>by
  by_cases e:j=i
  ·subst e;rw [if_pos rfl]
  ·rw [if_neg e];by_cases a:j < i
   ·rw [if_pos a,if_pos (by omega)]
   ·rw [if_neg a,if_neg (by omega)]
 simp only [show i < i+1 by omega,if_true] at h;exact h
theorem air {w:Nat} (F G:Nat→UInt8):(aY w fun j=>if j < w then F j else G j)=aY w F:=qP fun x a=>by rw [if_pos a]
def xC:Nat→Bool:=fun d=>d != 44
theorem awv (y D:AV) (n:Nat) (A B:Nat→UInt8) (c:UInt8) (W Y:List AV) (E:aZ y n (aY n A++W)) (U:aZ D n (aY n B++Y)) (Z:n≤65536):aR ayS 338 [y,bA c,D] ⟨.tree n n (aY n (fun j=>A j ^^^ aQ c (B j))) true,[]⟩:=by
 refine d6 ?_;have X:=afC c;have hp:=E.plain;have g:=U.plain;have a0:=fun m n h=>rN m (n:=n) h
 simp only [bA] at X;have Q:=fun m=>rN m (n:=256) (by omega)
 have P:=fun m=>rN m (n:=n) Z
 refine bI Tryz.func338 xC (h:=?_);unfold Tryz.f338;simp only [↓pre,za,xC,simprocAttr,bne,bA,Q];rw [bS];refine x5 (fun e m=>e 0=y∧e 2=D∧e 7 = .sl 0 0 256 256 true∧m.at_ 0=some ⟨aY 256 (fun i=>aQ c (azN i)),5,.flat,true⟩∧0 < m.next) (fun e m hR => ?_) ?_
 ·obtain ⟨o,s,r,hT,a1⟩:=hR;generalize M:(aY 256 fun i=>aQ c (azN i))=T at *
  have I:∀ z:UInt8,T[z.toNat]? = some (.val (.int .u8 (aQ c z).toNat)):=fun z=>by
   rw [←M,iO (w:=256) (fun i=>aQ c (azN i)) z.toNat_lt,UInt8.ofNat_toNat];rfl
  have O:∀ z:UInt8,z.toNat < 256:=fun z=>z.toNat_lt
  have R:=fun a b:UInt8=>abB a b
  simp only [↓pre,za,acQ,xC,simprocAttr,bne,P,o,E.len'];rw [bS];refine bU (fun q e m'=>∃ j,q+j=n∧e 0=y∧e 2=D∧e 7 = .sl 0 0 256 256 true∧e 9 = .sl m.next 0 n n true∧e 10=aC (j:Nat)∧Hid (m'.at_ 0=some ⟨T,5,.flat,true⟩∧m'.at_ m.next=some ⟨aY n (fun p=>if p < j then A p ^^^ aQ c (B p) else 0),5,.flat,true⟩)) n ⟨0,by omega,o,s,r,rfl,rfl,⟨by rw [aT,if_neg (by omega)];exact hT,by rw [aT,if_pos rfl];rfl⟩⟩ ?_;clear o s r;rintro q e m' ⟨j,g,o,s,r,L,v,F⟩;replace g:=Hid.mk g;by_cases f:j < n
  ·have d:((j:Nat):Int) < ((n:Nat):Int):=by omega
   have w1:=bY (n:=j) (by omega);obtain ⟨t,u⟩:=F.out;have H:(aY n A++W)[j]? = some (bA (A j)):=by rw [azd (by rw [eK];omega)];exact iO A f
   have C:(aY n B++Y)[j]? = some (bA (B j)):=by rw [azd (by rw [eK];omega)];exact iO B f
   have l:=ado (fun p=>A p ^^^ aQ c (B p)) (fun _=>0) f;have K:=I (B j);have G:=O (B j);have S:=R (A j) (aQ c (B j));have x:j+1≤(aY n fun p=>if p < j then A p ^^^ aQ c (B p) else 0).length:=by rw [eK];omega
   simp only [bA] at H C;simp only [↓pre,zam,acQ,xC,lF,simprocAttr,bne,aJ,o,s,r,L,v,d,f,E.len',E.addr',U.addr',H,C,t,u,K,G,S,x,l];refine dE (by kernel_rfl) ?_;simp only [↓pre,za,xC,simprocAttr,bne,o,s,r,L,v,w1];exact ⟨q - 1,by have:=g.out;omega,j+1,by have:=g.out;omega,rfl,⟨by rw [if_neg (by omega)];exact t,rfl⟩⟩
  ·have d:¬ ((j:Nat):Int) < ((n:Nat):Int):=by omega
   have hj:j=n:=by have:=g.out;omega
   subst hj;obtain ⟨t,u⟩:=F.out;rw [air] at u;simp only [↓pre,za,acQ,xC,simprocAttr,bne,o,L,v,d,E.len'];exact ⟨0,uC u⟩
 ·refine bU (fun q e m=>∃ i,q+i=256∧e 0=y∧e 1=bA c∧e 2=D∧e 7 = .sl 0 0 256 256 true∧e 8=aC (i:Nat)∧Hid (m.at_ 0=some ⟨aY 256 (fun j=>if j < i then aQ c (azN j) else 0),5,.flat,true⟩∧0 < m.next)) 256 ⟨0,by omega,rfl,rfl,rfl,rfl,rfl,⟨rfl,Nat.succ_pos _⟩⟩ ?_;rintro q e m ⟨i,g,o,V,s,r,N,F⟩;replace g:=Hid.mk g;by_cases f:i < 256
  ·have d:((i:Nat):Int) < 256:=by omega
   have w1:=bY (n:=i) (by omega);have w2:=yL f;have J:=X (azN i);obtain ⟨t,u⟩:=F.out;have l:=ado (fun j=>aQ c (azN j)) (fun _=>0) f;have x:i+1≤(aY 256 fun j=>if j < i then aQ c (azN j) else 0).length:=by rw [eK];omega
   simp only [↓pre,zah,acQ,xC,bE,simprocAttr,bne,bA,V,r,N,d,w2]
   (first | refine aH (J) (by first | rfl | simp only [aA,aD, *]) ?_ | refine aG (J) (by first | rfl | simp only [aA,aD, *]) (by intro k;first | rfl | simp only [ *,zaa]) ?_);simp only [↓pre,zam,acQ,xC,simprocAttr,bne,aJ,bA,o,V,s,r,N,f,t,x,l,w1]
   exact ⟨q - 1,by have:=g.out;omega,i+1,by have:=g.out;omega,rfl,⟨rfl,u⟩⟩
  ·have d:¬ ((i:Nat):Int) < 256:=by omega
   have hi:i=256:=by have:=g.out;omega
   subst hi;obtain ⟨t,u⟩:=F.out;rw [air] at t;simp only [↓pre,zah,xC,simprocAttr,bne,bA,o,s,r,N];exact ⟨t,u⟩
theorem l7 (n:Nat) (cs:List AV) (f:Bool):aZ (.tree n n cs f) n cs:=⟨.inr (.inr ⟨_,_,rfl,ay7 _⟩)⟩
def yW:Nat→Bool:=fun d=>d != 66
theorem ao5 (w z:AV) (N n:Nat) (c:Nat→UInt8) (M:Mx) (x:List AV) (cells:List AV) (O:aZ w N (aY N c++x)) (f:sZ z N n M cells) (hN:1≤N) (a1:N≤16) (P:n≤65536):aR ayS 311 [w,z] ⟨.tup [.tree n n (aY n (pK N c M)) true,aC 0],[]⟩:=by
 refine d6 ?_;have hp:=f.rd.plain;have X:=O.plain;have k1:¬ (16:Int) < ((N:Nat):Int):=by omega
 have Z:¬ ((N:Nat):Int)=0:=by omega
 have k3:¬ (65536:Int) < ((n:Nat):Int):=by omega
 have p:0 < N:=by omega
 obtain ⟨a0,x0,D,E⟩:=f.at_ 0 p;have I:=fun m=>rN m (n:=n) P
 have g:=fun U Y A B c xa xb hA T=>awv U Y n A B c xa xb hA T P
 replace g:=Hid.mk g;refine bI Tryz.func311 yW (h:=?_);unfold Tryz.f311;simp only [↓pre,za,abm,yW,simprocAttr,bne,f.rd.len',O.len',k1];rw [bS];refine x5 (fun e m=>e 0=w∧e 1=z) (fun e m W => ?_) ?_
 ·obtain ⟨r,k⟩:=W;simp only [↓pre,za,abm,yW,simprocAttr,bne,k,f.rd.len',f.rd.addr',p,D,E.len',Z,I];rw [bS];refine bU (fun q e m=>∃ i F,q+i=N∧e 0=w∧e 1=z∧e 7=F∧e 8=aC (i:Nat)∧Hid (0 < i→F = .tree n n (aY n (pK i c M)) true)∧Hid (m6 m F n (aY n (pK i c M)))) N ⟨0,_,by omega,r,k,rfl,rfl,⟨fun h=>absurd h (by omega)⟩,⟨⟨.inr ⟨_,0,n,true,_,rfl,by rw [aT,if_pos rfl],.inl rfl,rfl,ay7 _⟩⟩⟩⟩ ?_;clear r k;rintro q e m ⟨i,F,l,r,k,Q,J,G,hJ⟩;replace l:=Hid.mk l;by_cases d:i < N
  ·have b:((i:Nat):Int) < ((N:Nat):Int):=by omega
   have w1:=bY (n:=i) (by omega);obtain ⟨a,y,s,o⟩:=f.at_ i d;have C:(aY N c++x)[i]? = some (bA (c i)):=by rw [azd (by rw [eK];omega)];exact iO c d
   obtain ⟨S,m1,L,t,_⟩:=hJ.out.fz;have H:fzs m [F,.val (.int .u8 ((c i).toNat:Int)),a]=some ([S,.val (.int .u8 ((c i).toNat:Int)),a],m1):=by
    simp [fzs,L,fz,b6 o]
   have K:=g.out S a (pK i c M) (M i) (c i) [] y (by rw [aBi];exact t) o;have e:(fun j=>pK i c M j ^^^ aQ (c i) (M i j))=pK (i+1) c M:=rfl;rw [e] at K;have u:=l7 n (aY n (pK (i+1) c M)) true;have V:=cH u;simp only [bA] at C K;replace e:=Hid.mk e;replace t:=Hid.mk t;simp only [↓pre,za,abm,yW,simprocAttr,bne,r,k,Q,J,b,O.addr',f.rd.len',f.rd.addr',d,s,C];refine zO K H ?_;refine dE (by kernel_rfl) ?_;simp only [↓pre,zah,yW,simprocAttr,bne,r,k,J,w1,V];exact ⟨q - 1,by have:=l.out;omega,i+1,_,by have:=l.out;omega,rfl,rfl,⟨fun _=>rfl⟩,⟨arZ u⟩⟩
  ·have b:¬ ((i:Nat):Int) < ((N:Nat):Int):=by omega
   have hi:i=N:=by have:=l.out;omega
   subst hi;have v:=G.out p;subst v;simp only [↓pre,za,abm,yW,simprocAttr,bne,k,Q,J,b,f.rd.len'];exact ⟨0,by rw [j8,dM,zT,aAh,dM,gB,i8];rfl⟩
 ·refine bU (fun q e m=>∃ i,q+i=N∧e 0=w∧e 1=z∧e 6=aC (i:Nat)) N ⟨0,by omega,rfl,rfl,rfl⟩ ?_;rintro q e m ⟨i,l,r,k,R⟩;replace l:=Hid.mk l;by_cases d:i < N
  ·have b:((i:Nat):Int) < ((N:Nat):Int):=by omega
   have w1:=bY (n:=i) (by omega);obtain ⟨a,y,s,o⟩:=f.at_ i d;simp only [↓pre,za,abm,yW,simprocAttr,bne,r,k,R,b,f.rd.len',f.rd.addr',d,p,D,E.len',s,o.len',k3,w1];exact ⟨q - 1,by have:=l.out;omega,i+1,by have:=l.out;omega,rfl⟩
  ·have b:¬ ((i:Nat):Int) < ((N:Nat):Int):=by omega
   simp only [↓pre,za,abm,yW,simprocAttr,bne,r,k,R,b,f.rd.len']
theorem aww (v:AV) (n w:Nat) (M:Mx) (cells:List AV) (d:sZ v n w M cells) (D:1≤n) (r:n≤32) (C:1≤w) (p:w≤32):aR ayS 334 [v] ⟨aC 0,[]⟩:=by
 have u:¬ ((n:Nat):Int) < 1:=by omega
 have s:¬ (32:Int) < ((n:Nat):Int):=by omega
 have t:¬ ((w:Nat):Int) < 1:=by omega
 have z:¬ (32:Int) < ((w:Nat):Int):=by omega
 have c:0 < n:=by omega
 obtain ⟨E,B,g,j⟩:=d.at_ 0 c;refine aX Tryz.func334 aB (h:=?_);unfold Tryz.f334;simp only [↓pre,zag,ahn,simprocAttr,d.rd.len',d.rd.addr',c,g,j.len',u,s,t,z];rw [bS];refine bU (fun q e m=>∃ i,q+i=n∧e 0=v∧e 3=aC (i:Nat)) n ⟨0,by omega,rfl,rfl⟩ ?_;rintro q e m ⟨i,k,o,l⟩;replace k:=Hid.mk k;by_cases f:i < n
 ·have b:((i:Nat):Int) < ((n:Nat):Int):=by omega
  have w1:=bY (n:=i) (by omega);obtain ⟨a,x,A,y⟩:=d.at_ i f;simp only [↓pre,zag,ahn,simprocAttr,d.rd.len',d.rd.addr',c,g,j.len',o,l,b,f,A,y.len',w1];exact ⟨q - 1,by have:=k.out;omega,i+1,by have:=k.out;omega,rfl⟩
 ·have b:¬ ((i:Nat):Int) < ((n:Nat):Int):=by omega
  simp only [↓pre,zag,ahn,simprocAttr,d.rd.len',o,l,b]
def aaq:Nat→Bool:=fun d=>d != 13 && d != 17 && d != 32 && d != 37
theorem awx (m0:aF) (b z w d:Nat) (f R:Bool) (M g:Nat→UInt8) (U:w≤64) (o:d < w) (H:b≠z) (G:g d≠0) (P:m0.at_ b=some ⟨aY w M,5,.flat,true⟩) (A:m0.at_ z=some ⟨aY w g,5,.flat,true⟩):fH ayS 350 [.sl b 0 w w f,.sl z 0 w w R,aC (d:Nat)] m0 fun r m'=>r = .tup []∧m'=m0.put b (some ⟨aY w (fun j=>M j ^^^ aQ (aQ (M d) (cN (g d))) (g j)),5,.flat,true⟩):=by
 have E:=ao4 (M d) (g d);rw [if_neg G,if_neg G] at E;generalize aQ (M d) (cN (g d))=c at *
 have Q:=afC c;have T:=abB;have C:=iO (w:=w) M o;have x:=iO (w:=w) g o;replace G:=Hid.mk G;simp only [bA] at Q E C x;refine bI Tryz.func350 aaq (h:=?_);unfold Tryz.f350;simp only [↓pre,zam,ahp,aaq,simprocAttr,bne,o,P,A,C,x]
 (first | refine aH (E) (by first | rfl | simp only [aA,aD, *]) ?_ | refine aG (E) (by first | rfl | simp only [aA,aD, *]) (by intro k;first | rfl | simp only [ *,zaa]) ?_);simp only [↓pre,zah,aaq,simprocAttr,bne]
 rw [bS];refine bU (fun q e m=>∃ j,q+j=w∧e 0 = .sl b 0 w w f∧e 1 = .sl z 0 w w R∧e 6=bA c∧e 8=aC (j:Nat)∧Hid (m=m0.put b (some ⟨aY w (fun a=>if a < j then M a ^^^ aQ c (g a) else M a),5,.flat,true⟩))) w ⟨0,by omega,rfl,rfl,rfl,rfl,⟨?_⟩⟩ ?_
 ·have:aY w (fun a=>if a < 0 then M a ^^^ aQ c (g a) else M a)=aY w M:=qP fun j _=>by rw [if_neg (by omega)]
  rw [this,abD P]
 rintro q e m ⟨j,B,I,O,N,J,F⟩;replace B:=Hid.mk B;by_cases l:j < w
 ·have s:((j:Nat):Int) < ((w:Nat):Int):=by omega
  have w1:=bY (n:=j) (by omega);have D:m.at_ b=some ⟨aY w (fun a=>if a < j then M a ^^^ aQ c (g a) else M a),5,.flat,true⟩:=by rw [F.out,aO,if_pos rfl]
  have u:m.at_ z=some ⟨aY w g,5,.flat,true⟩:=by rw [F.out,aO,if_neg (fun e=>H e.symm)];exact A
  have p:=iO (w:=w) (fun a=>if a < j then M a ^^^ aQ c (g a) else M a) l;have i:=iO (w:=w) g l;simp only [aBH,if_false,bA] at p i;have y:=ado (fun a=>M a ^^^ aQ c (g a)) M l;have L:j+1≤(aY w fun a=>if a < j then M a ^^^ aQ c (g a) else M a).length:=by rw [eK];omega
  have v:=Q (g j);have K:=T (M j) (aQ c (g j));simp only [↓pre,zam,ahp,aaq,kS,simprocAttr,bne,bA,I,O,N,J,s,l,D,u,p,i]
  (first | refine aH (v) (by first | rfl | simp only [aA,aD, *]) ?_ | refine aG (v) (by first | rfl | simp only [aA,aD, *]) (by intro k;first | rfl | simp only [ *,zaa]) ?_);simp only [↓pre,zam,ahp,aaq,lF,simprocAttr,bne,aJ,l,D,K,L,y]
  refine dE (by kernel_rfl) ?_;simp only [↓pre,zah,aaq,simprocAttr,bne,bA,I,O,N,J,w1];refine ⟨q - 1,by have:=B.out;omega,j+1,by have:=B.out;omega,rfl,⟨?_⟩⟩;rw [F.out,yN]
 ·have s:¬ ((j:Nat):Int) < ((w:Nat):Int):=by omega
  have S:j=w:=by have:=B.out;omega
  subst S;have t:=F.out;rw [air] at t;subst t;simp only [↓pre,za,aaq,kS,simprocAttr,bne,bA,I,J,s]
def qV (w:Nat) (β:Nat→Nat) (i:Nat):List AV:=(List.range i).map fun j => .sl (β j) 0 w w true
theorem awy (w:Nat) (β:Nat→Nat) (i:Nat):qV w β (i+1)=qV w β i++[.sl (β i) 0 w w true]:=by simp [qV,List.range_succ]
theorem awz (w:Nat) (β:Nat→Nat) (i:Nat):(qV w β i).length=i:=by simp [qV]
theorem awA {w i n:Nat} (β:Nat→Nat) (h:i < n):(qV w β n)[i]? = some (.sl (β i) 0 w w true):=by
 unfold qV;rw [azl,List.getElem?_range h];rfl
theorem awB {w n:Nat} {β γ:Nat→Nat} (h:∀ i,i < n→β i=γ i):qV w β n=qV w γ n:=by
 unfold qV;refine aAt fun i hi => ?_
 rw [h i (List.mem_range.1 hi)]
structure aar (m0 m:aF) (lv:AV) (w i:Nat) (β:Nat→Nat):Prop where
 own:cG .var m 52 1 lv i (qV w β i)
 row:∀ j,j < i→m0.next≤β j∧β j < m.next∧m.at_ (β j)=some ⟨aY w (fun _=>0),5,.flat,true⟩∧cI lv≠some (β j)
 inj:∀ j k,j < i→k < i→β j=β k→j=k
 kept:lU m0 m
 new:mO m0 lv
theorem awC (m:aF) (b n:Nat) (f:Bool):p6 ayS m 45 1 [(0,.sl b 0 n n f)]=some ⟨.sl m.next 0 1 1 true,m.push ⟨[.sl b 0 n n f],52,.var,true⟩,none⟩:=by
 have h1:bZ ayS 45=some 52:=by kernel_rfl
 have h2:cE ayS 52=some 1:=by kernel_rfl
 have h3:jF ayS 52 1=some [.val (.slice none 0 0)]:=by kernel_rfl
 have h4:bP ayS 52 = .var:=by kernel_rfl
 simp [p6,h1,h2,h3,h4,iR,cP,AV.cells,g8,d5,bL]
theorem awD {m:aF} {b:Nat} {x:AV} {f:Bool} (h:m.at_ b=some ⟨[x],52,.var,true⟩):f9 ayS 52 1 m (.sl b 0 1 1 f)=some ([x],1):=by
 have h4:bP ayS 52 = .var:=by kernel_rfl
 simp [f9,eE,h,h4]
theorem aar.grow {m0 m l:aF} {lv f:AV} {w i:Nat} {β:Nat→Nat} {sv:eR} (h:aar m0 m lv w i β)
 (u:cG .var l 52 1 f (i+1) (qV w β i++[.sl m.next 0 w w true])) (t:((m.push ⟨aY w (fun _=>0),5,.flat,true⟩).push sv).next≤l.next)
 (p:∀ j k,((m.push ⟨aY w (fun _=>0),5,.flat,true⟩).push sv).at_ j=some k→j < ((m.push ⟨aY w (fun _=>0),5,.flat,true⟩).push sv).next→cI lv≠some j→l.at_ j=some k)
 (d1:∀ j,cI f=some j→j=((m.push ⟨aY w (fun _=>0),5,.flat,true⟩).push sv).next∨cI lv=some j) (o:l.mm=m.mm):aar m0 l f w (i+1) (fun j=>if j=i then m.next else β j):=by
 simp only [bM] at t p d1;have r:=h.kept.next;have n:∀ j,cI lv=some j→j < m.next:=fun j a=>by
  rcases h.own.form with ⟨e,_⟩ | ⟨b,e,_,y,_⟩
  ·rw [e] at a;cases a
  ·rw [e] at a;cases a;exact y
 have c:qV w (fun j=>if j=i then m.next else β j) (i+1)=qV w β i++[.sl m.next 0 w w true]:=by
  rw [awy];simp only [if_true];rw [awB fun j a=>if_neg (Nat.ne_of_lt a)]
 refine ⟨by rw [c];exact u,fun j a => ?_,fun j k a A e => ?_,⟨o.trans h.kept.mm,by omega,fun j k a x => ?_⟩,fun j a => ?_⟩
 ·by_cases e:j=i
  ·simp only [if_pos e];refine ⟨r,by omega,p _ _ (by rw [aT,if_neg (by rw [bM];omega),aT,if_pos rfl]) (by omega) fun g=>by have:=n _ g;omega,fun g => ?_⟩;rcases d1 _ g with d | d
   ·omega
   ·have:=n _ d;omega
  ·simp only [if_neg e];obtain ⟨r1,r2,v,s⟩:=h.row j (by omega);refine ⟨r1,by omega,p _ _ (by rw [aT,if_neg (by rw [bM];omega),aT,if_neg (by omega)];exact v) (by omega) s,fun g => ?_⟩;rcases d1 _ g with d | d
   ·omega
   ·exact s d
 ·by_cases o:j=i <;> by_cases q:k=i
  ·omega
  ·simp only [if_pos o,if_neg q] at e;have:=(h.row k (by omega)).2.1;omega
  ·simp only [if_neg o,if_pos q] at e;have:=(h.row j (by omega)).2.1;omega
  ·simp only [if_neg o,if_neg q] at e;exact h.inj j k (by omega) (by omega) e
 ·have z:=h.kept.at_ j k a x;exact p _ _ (by rw [aT,if_neg (by rw [bM];omega),aT,if_neg (by omega)];exact z) (by omega) fun g=>by have:=h.new j g;omega
 ·rcases d1 j a with d | d
  ·omega
  ·exact h.new j d
def afD:Nat→Bool:=fun d=>d != 15
theorem ais (m0:aF) (n w:Nat) (F:n≤32) (E:w≤64):fH ayS 335 [aC (n:Nat),aC (w:Nat)] m0 fun r m'=>∃ β,aar m0 m' r w n β:=by
 have p:=fun m=>rN m (n:=w) (by omega)
 refine bI Tryz.func335 afD (h:=?_);unfold Tryz.f335;simp only [↓pre,simprocAttr,sx];rw [bS];refine bU (fun q e m=>∃ i lv β,q+i=n∧e 0=aC (n:Nat)∧e 1=aC (w:Nat)∧e 5=lv∧e 6=aC (i:Nat)∧Hid (aar m0 m lv w i β)) n ⟨0,aN,fun _=>0,by omega,rfl,rfl,rfl,rfl,⟨fC,fun j D=>by omega,fun j k D=>by omega,lU.refl _,zU _⟩⟩ ?_;rintro q e m ⟨i,lv,β,c,l,z,x,o,d⟩;replace c:=Hid.mk c;by_cases C:i < n
 ·have a:((i:Nat):Int) < ((n:Nat):Int):=by omega
  have w1:=bY (n:=i) (by omega);have g:=fun m (b n:Nat) f=>awC m b n f
  replace d:=Hid.mk d;simp only [↓pre,za,asz,afD,bE,simprocAttr,bne,p,l,z,x,o,a,g];refine uY (kd := .var) (sz:=1) (y:=24) (zl:=[.slice none 0 0]) (by kernel_rfl) ((d.out.out.own.push _).push _) (by kernel_rfl) (by kernel_rfl) (by kernel_rfl) rfl (awD (by rw [aT,if_pos (by rw [bM])])) rfl (by omega) (by omega) fun s m' v u A d1 B => ?_
  have t:=d.out.out.grow v u A d1 B;replace t:=Hid.mk t;clear v u A d1 B;simp only [↓pre,zah,afD,simprocAttr,bne,l,z,o,w1];exact ⟨q - 1,by have:=c.out;omega,i+1,s,_,by have:=c.out;omega,rfl,rfl,t⟩
 ·have a:¬ ((i:Nat):Int) < ((n:Nat):Int):=by omega
  have hi:i=n:=by have:=c.out;omega
  subst hi;simp only [↓pre,zah,afD,simprocAttr,bne,l,x,o,a];exact ⟨β,d.out⟩
theorem aar.mat {m0 m:aF} {lv:AV} {w n:Nat} {β:Nat→Nat} (h:aar m0 m lv w n β) (d:1≤n):∃ b,lv = .sl b 0 n n false∧dF m b n w n true β (fun _ _=>0)∧m0.next≤b∧∀ i,i < n→m0.next≤β i:=by
 obtain ⟨b,rfl,a,c⟩:=h.own.sl (by omega);exact ⟨b,rfl,⟨⟨_,a,awz _ _ _,fun i hi=>awA β hi⟩,c,fun i hi=>⟨(h.row i hi).2.1,(h.row i hi).2.2.1⟩,h.inj⟩,h.new b rfl,fun i hi=>(h.row i hi).1⟩
theorem ao6 {N:Nat} (x:Mx):∀ j,(rsol N x j).1≤N
 | 0=>Nat.zero_le _
 | j+1=>by
  have a:=ao6 (N:=N) x j;have b:=yJ (rsol N x j).2 j (N - (rsol N x j).1) (rsol N x j).1;show (sY N j (rsol N x j)).1≤N;unfold sY;simp only;split
  ·exact a
  ·simp only;omega
theorem ao7 {N:Nat} {x:Mx} {j:Nat} (h:(rsol N x j).1=N):∀ m,rsol N x (j+m)=rsol N x j
 | 0=>rfl
 | m+1=>by
  show sY N (j+m) (rsol N x (j+m))=_;rw [ao7 h m];unfold sY;have a:=yJ (rsol N x j).2 (j+m) (N - (rsol N x j).1) (rsol N x j).1;simp only;rw [if_pos (by omega)]
def qW:Nat→Bool:=fun d=>d != 69 && d != 73 && d != 75
set_option maxHeartbeats 1000000 in
theorem awE (m0:aF) (b N w:Nat) (g:Bool) (β:Nat→Nat) (M:Mx) (hN:1≤N) (d2:N≤16) (hw:N≤w) (c6:w≤64) (h:dF m0 b N w N true β M):fH ayS 336 [.sl b 0 N N g,aC (N:Nat)] m0 fun r m'=>∃ β',r=aC ((rsol N M N).1:Nat)∧dF m' b N w N true β' (rsol N M N).2:=by
 replace hN:=Hid.mk hN;refine bI Tryz.func336 qW (h:=?_);unfold Tryz.f336;simp only [↓pre,simprocAttr,sx];rw [bS];refine bU (fun q e m=>∃ j β,q+j=N∧e 0 = .sl b 0 N N g∧e 1=aC (N:Nat)∧e 5=aC ((rsol N M j).1:Nat)∧e 6=aC (j:Nat)∧Hid (dF m b N w N true β (rsol N M j).2)) N ⟨0,β,by omega,rfl,rfl,rfl,rfl,⟨h⟩⟩ ?_;rintro q e m ⟨j,β,Q,l,t,k,o,hJ⟩;replace Q:=Hid.mk Q;have d:rsol N M (j+1)=sY N j (rsol N M j):=rfl;have e3:=ao6 (N:=N) M j;have u:=fun h=>ao7 (N:=N) (x:=M) (j:=j) h
 generalize a9:rsol N M j=s at *
 replace a9:=Hid.mk a9;by_cases d4:j < N
 ·have K:((j:Nat):Int) < ((N:Nat):Int):=by omega
  by_cases G:s.1 < N
  ·have S:((s.1:Nat):Int) < ((N:Nat):Int):=by omega
   have w1:=bY (n:=j) (by omega);replace u:=Hid.mk u;simp only [↓pre,za,qW,kS,simprocAttr,bne,l,t,k,o,K,S];rw [bS];refine x5 (fun e m'=>e 0 = .sl b 0 N N g∧e 1=aC (N:Nat)∧e 5=aC (s.1:Nat)∧e 6=aC (j:Nat)∧e 7=aC (dW s.2 j (N - s.1) s.1:Nat)∧m'=m) (fun e m' hR => ?_) ?_
   ·clear l t k o;obtain ⟨l,t,k,o,W,rfl⟩:=hR;have Y:=yJ s.2 j (N - s.1) s.1;by_cases hp:dW s.2 j (N - s.1) s.1=N
    ·have u:sY N j s=s:=by unfold sY;simp only [hp,ay7,if_true]
     rw [hp] at W;rw [u] at d;replace Y:=Hid.mk Y;replace d:=Hid.mk d;replace u:=Hid.mk u;simp only [↓pre,za,qW,kS,simprocAttr,bne,l,t,k,o,W,w1];exact ⟨q - 1,by have:=Q.out;omega,j+1,β,by have:=Q.out;omega,by rw [d.out],rfl,⟨by rw [d.out];exact hJ.out⟩⟩
    ·have a4:dW s.2 j (N - s.1) s.1 < N:=by omega
     have V:=ac4 s.2 j (N - s.1) s.1 (by omega);have a1:sY N j s=(s.1+1,fP (eG s.2 (dW s.2 j (N - s.1) s.1) s.1) s.1 (fun i=>aQ (eG s.2 (dW s.2 j (N - s.1) s.1) s.1 i j) (cN (eG s.2 (dW s.2 j (N - s.1) s.1) s.1 s.1 j)))):=by unfold sY;simp only [if_neg (show ¬ N≤dW s.2 j (N - s.1) s.1 by omega)]
     rw [a1] at d;clear a1;obtain ⟨n,X⟩:=s;simp only at *
     generalize dW X j (N - n) n=a at *
     have c5:¬ ((a:Nat):Int)=((N:Nat):Int):=by omega
     replace d:=Hid.mk d;replace Y:=Hid.mk Y;obtain ⟨cells,A,c7,y⟩:=hJ.out.row;have a0:=y a a4;have c8:=y n G;have C:=hJ.out.swap a4 G A;have b2:a+1≤cells.length:=by omega
     have b1:n+1≤(cells.take a++[AV.sl (β n) 0 w w true]++cells.drop (a+1)).length:=by simp;omega
     unfold cP at C;simp only [List.length_cons,List.length_nil,azn] at C;replace y:=Hid.mk y;have H:eG X a n n j≠0:=by
      unfold eG;by_cases e9:n=a
      ·rw [if_pos e9,e9];exact V
      ·rw [if_neg e9,if_pos rfl];exact V
     replace V:=Hid.mk V;replace C:=Hid.mk C;replace H:=Hid.mk H;simp only [↓pre,zam,aeL,qW,kS,yN,simprocAttr,bne,aJ,l,k,W,c5,a4,G,A,a0,c8,b2,b1];generalize d3:(fun i=>if i=a then β n else if i=n then β a else β i)=T at C;generalize e2:eG X a n=f at C d H;generalize c2:aF.put m' b _=m1 at C ⊢;clear c2;have wn:=bY (n:=n) (by omega);generalize hκ:(fun i=>aQ (f i j) (cN (f n j)))=κ at d;have p:fP f n κ n=f n:=by funext q;unfold fP;rw [if_pos rfl]
     rw [bS];refine x5 (fun e m'=>e 0 = .sl b 0 N N g∧e 1=aC (N:Nat)∧e 5=aC (n:Nat)∧e 6=aC (j:Nat)∧Hid (dF m' b N w N true T (fP f n κ))) (fun e m' hR => ?_) ?_
     ·clear l t k o W;obtain ⟨l,t,k,o,hE⟩:=hR;replace p:=Hid.mk p;simp only [↓pre,zah,qW,simprocAttr,bne,l,t,k,o,wn,w1];exact ⟨q - 1,by have:=Q.out;omega,j+1,T,by have:=Q.out;omega,by rw [d.out],rfl,⟨by rw [d.out];exact hE.out⟩⟩
     ·refine bU (fun q' e m'=>∃ i,q'+i=N∧e 0 = .sl b 0 N N g∧e 1=aC (N:Nat)∧e 5=aC (n:Nat)∧e 6=aC (j:Nat)∧e 9=aC (i:Nat)∧Hid (dF m' b N w N true T (fun v q=>if v < i then fP f n κ v q else f v q))) N ⟨0,by omega,l,t,k,o,rfl,⟨C.out.congr fun i hi q Q=>by rw [if_neg (by omega)]⟩⟩ ?_;clear l t k o W;rintro q' e m' ⟨i,F,l,t,k,o,e9,D⟩;replace F:=Hid.mk F;by_cases O:i < N
      ·have J:((i:Nat):Int) < ((N:Nat):Int):=by omega
       have wi:=bY (n:=i) (by omega);by_cases U:i=n
       ·have c:dF m' b N w N true T (fun v q=>if v < i+1 then fP f n κ v q else f v q):=D.out.congr fun v b5 q Q=>by
         by_cases h1:v < i
         ·rw [if_pos h1,if_pos (by omega)]
         ·rw [if_neg h1];by_cases h2:v=i
          ·rw [if_pos (by omega),h2,U,p]
          ·rw [if_neg (by omega)]
        subst U;replace p:=Hid.mk p;replace c:=Hid.mk c;simp only [↓pre,za,qW,kS,simprocAttr,bne,l,t,k,o,e9,J,wi];exact ⟨q' - 1,by have:=F.out;omega,i+1,by have:=F.out;omega,rfl,c⟩
       ·have b9:¬ ((i:Nat):Int)=((n:Nat):Int):=by omega
        obtain ⟨c4,a3,d0,L⟩:=D.out.row;have b8:=L i O;have b4:=L n G;obtain ⟨_,c3⟩:=D.out.own i O;obtain ⟨_,c1⟩:=D.out.own n G;have a5:(fun q=>if i < i then fP f n κ i q else f i q)=f i:=by funext q;rw [if_neg (aBH _)]
        have b0:(fun q=>if n < i then fP f n κ n q else f n q)=f n:=by funext q;rw [p];split <;> rfl
        rw [a5] at c3;rw [b0] at c1;have b3:=awx m' (T i) (T n) w j true true (f i) (f n) c6 (by omega) (fun h=>U (D.out.inj i n O G h)) H.out c3 c1;have c:dF (m'.put (T i) (some ⟨aY w (fun q=>f i q ^^^ aQ (aQ (f i j) (cN (f n j))) (f n q)),5,.flat,true⟩)) b N w N true T (fun v q=>if v < i+1 then fP f n κ v q else f v q):=(D.out.put_row O _).congr fun v b5 q Q=>by
         by_cases h2:v=i
         ·subst h2;rw [if_pos rfl,if_pos (by omega)];unfold fP;rw [if_neg U,←hκ]
         ·rw [if_neg h2];by_cases h1:v < i
          ·rw [if_pos h1,if_pos (by omega)]
          ·rw [if_neg h1,if_neg (by omega)]
        generalize b7:aF.put m' (T i) _=m2 at b3 c;clear b7;replace L:=Hid.mk L;replace p:=Hid.mk p;replace c:=Hid.mk c;replace a5:=Hid.mk a5;replace b0:=Hid.mk b0;simp only [↓pre,zam,aeL,qW,kS,simprocAttr,bne,l,k,o,e9,J,b9,a3,O,G,b8,b4];refine rC b3 ?_;refine dE (by kernel_rfl) ?_;simp only [↓pre,zah,qW,simprocAttr,bne,l,t,k,o,e9,wi];exact ⟨q' - 1,by have:=F.out;omega,i+1,by have:=F.out;omega,rfl,c⟩
      ·have J:¬ ((i:Nat):Int) < ((N:Nat):Int):=by omega
       have hi:i=N:=by have:=F.out;omega
       have P:dF m' b N w N true T (fP f n κ):=D.out.congr fun v b5 q Q=>by rw [if_pos (by omega)]
       replace P:=Hid.mk P;replace p:=Hid.mk p;subst hi;simp only [↓pre,za,qW,kS,simprocAttr,bne,l,t,k,o,e9,J];exact P
   ·refine bU (fun q e m'=>∃ a,q+a=N∧s.1≤a∧e 0 = .sl b 0 N N g∧e 1=aC (N:Nat)∧e 5=aC (s.1:Nat)∧e 6=aC (j:Nat)∧e 7=aC (a:Nat)∧m'=m∧Hid (dW s.2 j (N - a) a=dW s.2 j (N - s.1) s.1)) (N - s.1) ⟨s.1,by omega,ay7 _,l,t,k,o,rfl,rfl,⟨rfl⟩⟩ ?_;clear l t k o;rintro q2 e m' ⟨a,R,d1,l,t,k,o,W,rfl,a6⟩;replace R:=Hid.mk R;by_cases Z:a < N
    ·have I:((a:Nat):Int) < ((N:Nat):Int):=by omega
     have wa:=bY (n:=a) (by omega);obtain ⟨cells,A,c7,y⟩:=hJ.out.row;have a0:=y a Z;obtain ⟨_,a2⟩:=hJ.out.own a Z;have E:=iO (w:=w) (s.2 a) (show j < w by omega);have c0:j < w:=by omega
     simp only [bA] at E;have B:dW s.2 j (N - a) a=if s.2 a j≠0 then a else dW s.2 j (N - (a+1)) (a+1):=by
      rw [show N - a=(N - (a+1))+1 by omega];rfl
     replace y:=Hid.mk y;by_cases hz:s.2 a j=0
     ·have a7:((s.2 a j).toNat:Int)=0:=by rw [hz];rfl
      rw [if_neg (by simp [hz])] at B;replace B:=Hid.mk B;simp only [↓pre,zam,aeL,qW,kS,simprocAttr,bne,l,t,k,o,W,I,Z,A,a0,a2,c0,E,a7,wa];exact ⟨q2 - 1,by have:=R.out;omega,a+1,by have:=R.out;omega,by omega,rfl,⟨by rw [←B.out];exact a6.out⟩⟩
     ·have a7:¬ ((s.2 a j).toNat:Int)=0:=fun h=>hz (UInt8.toNat_inj.1 (by show _=0;omega))
      rw [if_pos hz] at B;rw [←a6.out,B];replace B:=Hid.mk B;simp only [↓pre,zam,aeL,qW,kS,simprocAttr,bne,l,t,k,o,W,I,Z,A,a0,a2,c0,E,a7]
    ·have I:¬ ((a:Nat):Int) < ((N:Nat):Int):=by omega
     have ha:a=N:=by have:=R.out;omega
     subst ha;have z:dW s.2 j (a - s.1) s.1=a:=by rw [←a6.out,Nat.sub_self];rfl
     rw [z];simp only [↓pre,za,qW,kS,simprocAttr,bne,l,t,k,o,W,I]
  ·have S:¬ ((s.1:Nat):Int) < ((N:Nat):Int):=by omega
   have z:rsol N M N=s:=by
    have:=u (by omega) (N - j);rw [show j+(N - j)=N by omega] at this;exact this
   rw [z];replace u:=Hid.mk u;replace z:=Hid.mk z;simp only [↓pre,za,qW,kS,simprocAttr,bne,l,t,k,o,K,S];exact ⟨_,hJ.out⟩
 ·have K:¬ ((j:Nat):Int) < ((N:Nat):Int):=by omega
  have hj:j=N:=by have:=Q.out;omega
  subst hj;rw [a9.out];simp only [↓pre,zah,qW,simprocAttr,bne,t,k,o,K];exact ⟨_,hJ.out⟩
theorem awF {N:Nat} {M0:Mx} (c:ae7 N M0) {i:Nat} (hi:i < N):(rsol N (l5 N M0) N).2 i i≠0:=by
 have h:=ae6 c N (ay7 _);obtain ⟨d,f,a,b⟩:=ahQ M0 N (ay7 _);rw [(b i hi i hi).1,h.unit i i hi hi,if_pos rfl,vI];exact a i hi
theorem ao8 {m:aF} {b n w:Nat} {f:Bool} {F:Nat→UInt8} {v:AV} {x:List AV} (k:m.at_ b=some ⟨aY w (fun _=>0),5,.flat,true⟩) (l:aZ v n (aY n F++x)) (h:n≤w):p7 ayS 5 m (.sl b 0 w w f) v=some ⟨aC (n:Nat),m.put b (some ⟨aY w (fun j=>if j < n then F j else 0),5,.flat,true⟩),none⟩:=by
 have o:cE ayS 5=some 1:=by kernel_rfl
 have g:bP ayS 5 = .flat:=by kernel_rfl
 have hs:=l.src (P:=ayS) (m:=m) (el:=5) (sz:=1) (by rw [aAZ,eK];omega);have e:(aY n F++x).take (n*1)=aY n F:=by rw [azD,aCa (by rw [eK];omega),aA7 (by rw [eK];omega)]
 rw [e] at hs;have c:cP (aY w fun _=>0) 0 (aY n F)=aY w (fun j=>if j < n then F j else 0):=by
  refine List.ext_getElem? fun i => ?_
  unfold cP;rw [List.take_zero,List.nil_append,azn,eK];by_cases a:i < n
  ·rw [azd (by rw [eK];omega),iO F a,iO _ (by omega),if_pos a]
  ·rw [List.getElem?_append_right (by rw [eK];omega),eK,List.getElem?_drop];by_cases d:i < w
   ·rw [show n+(i - n)=i by omega,iO _ d,iO _ d,if_neg a]
   ·rw [ay3 (by rw [eK];omega),ay3 (by rw [eK];omega)]
 simp only [p7,o,hs,k,aAh,g];rw [if_pos ⟨trivial,trivial,by rw [eK];omega⟩,Nat.min_eq_left h,azD,aA7 (by rw [eK];omega),c];rfl
def pX:Nat→Bool:=fun d=>d != 36 && d != 41 && d != 72 && d != 77 && d != 82 && d != 86 && d != 89
theorem awG (v:AV) (n:Nat) (M:Mx) (cells:List AV) (Y:sZ v n n M cells) (hn:1≤n) (c6:n≤16) (hM:ae7 n M):aR ayS 310 [v] ⟨.tup [.tree n n (mV true n n (mD n M)) false,aC 0],[]⟩:=by
 refine d6 ?_;have hp:=Y.rd.plain;have b7:=aww v n n M cells Y hn (by omega) hn (by omega);have a7:=fun m=>ais m n (2*n) (by omega) (by omega)
 have a9:=fun m=>ais m n n (by omega) (by omega)
 have U:=fun m b g β h=>awE m b n (2*n) g β (l5 n M) hn c6 (by omega) (by omega) h
 obtain ⟨b2,P⟩:=aus hM;have Z:=fun i hi=>awF (N:=n) (M0:=M) hM (i:=i) hi
 rw [b2] at U;obtain ⟨a0,x0,c8,d3⟩:=Y.at_ 0 (by omega);have d0:0 < n:=by omega
 have f3:¬ ((n:Nat):Int) < ((n:Nat):Int):=by omega
 have w2:azv.wrap (2*((n:Nat):Int))=((2*n:Nat):Int):=by rw [eD (by omega) (by omega)];omega
 have C:=fun m b F v x hb Y=>ao8 (m:=m) (b:=b) (n:=n) (w:=2*n) (f:=true) (F:=F) (v:=v) (x:=x) hb Y (by omega)
 replace a7:=Hid.mk a7;replace a9:=Hid.mk a9;replace U:=Hid.mk U;replace P:=Hid.mk P;replace Z:=Hid.mk Z;replace b2:=Hid.mk b2;replace C:=Hid.mk C;generalize hX:(rsol n (l5 n M) n).2=X at *
 refine bI Tryz.func310 pX (h:=?_);unfold Tryz.f310;simp only [↓pre,zah,pX,simprocAttr,bne]
 (first | refine aH (b7) (by first | rfl | simp only [aD, *]) ?_ | refine aG (b7) (by first | rfl | simp only [aA,aD, *]) (by intro k;first | rfl | simp only [ *,zaa]) ?_);simp only [↓pre,za,acP,pX,simprocAttr,bne,Y.rd.len',Y.rd.addr',d0,c8,d3.len',w2]
 refine nR (a7.out _) ?_;rintro r m1 ⟨β0,hB⟩;obtain ⟨b,rfl,hT,_,_⟩:=hB.mat hn;replace hB:=Hid.mk hB;simp only [↓pre,simprocAttr];rw [bS];refine x5 (fun e m=>∃ β,e 4=aC (n:Nat)∧e 5 = .sl b 0 n n false∧Hid (dF m b n (2*n) n true β (l5 n M))) (fun e m hR => ?_) ?_
 ·obtain ⟨β,y,A,f0⟩:=hR;simp only [↓pre,zah,pX,simprocAttr,bne,y,A];refine nR (U.out _ _ _ _ f0.out) ?_;rintro r m2 ⟨β2,rfl,L⟩;replace L:=Hid.mk L;simp only [↓pre,zah,pX,simprocAttr,bne,y,f3];refine nR (a9.out _) ?_;rintro r m3 ⟨γ,H⟩;obtain ⟨c,rfl,hO,hc,hγ⟩:=H.mat hn;have f5:=L.out.lt;have b1:=fun i hi=>(L.out.own i hi).1
  have a3:dF m3 b n (2*n) n true β2 X:=L.out.keep H.kept.next fun j k hj hl _=>H.kept.at_ j k hj hl
  replace H:=Hid.mk H;replace a3:=Hid.mk a3;replace hO:=Hid.mk hO;replace b1:=Hid.mk b1;replace hγ:=Hid.mk hγ;have f4:¬ c=b:=by omega
  generalize hV:(fun i j=>aQ (X i (n+j)) (cN (X i i)))=V;simp only [↓pre,simprocAttr];rw [bS];refine bU (fun q e m=>∃ i,q+i=n∧e 4=aC (n:Nat)∧e 5 = .sl b 0 n n false∧e 7 = .sl c 0 n n false∧e 8=aC (i:Nat)∧Hid (dF m b n (2*n) n true β2 X∧dF m c n n n true γ (fun l d=>if l < i then V l d else 0))) n ⟨0,by omega,y,A,rfl,rfl,⟨a3.out,hO.out.congr fun i hi j hj=>by rw [if_neg (by omega)]⟩⟩ ?_;clear y A;rintro q e m ⟨i,D,y,A,R,G,T⟩;replace D:=Hid.mk D;by_cases o:i < n
  ·have t:((i:Nat):Int) < ((n:Nat):Int):=by omega
   have w1:=bY (n:=i) (by omega);simp only [↓pre,zah,pX,simprocAttr,bne,y,G,t];rw [bS];refine aoB (fun e m=>e 4=aC (n:Nat)∧e 5 = .sl b 0 n n false∧e 7 = .sl c 0 n n false∧e 8=aC (i:Nat)∧Hid (dF m b n (2*n) n true β2 X∧dF m c n n n true γ (fun l d=>if l < i+1 then V l d else 0))) (fun e m hR => ?_) ?_
   ·clear y A R G;obtain ⟨y,A,R,G,hE⟩:=hR;simp only [↓pre,zah,pX,simprocAttr,bne,y,A,R,G,w1];exact ⟨q - 1,by have:=D.out;omega,i+1,by have:=D.out;omega,rfl,hE⟩
   ·refine bU (fun q' e m=>∃ j,q'+j=n∧e 4=aC (n:Nat)∧e 5 = .sl b 0 n n false∧e 7 = .sl c 0 n n false∧e 8=aC (i:Nat)∧e 9=aC (j:Nat)∧Hid (dF m b n (2*n) n true β2 X∧dF m c n n n true γ (fun l d=>if l < i then V l d else if l=i∧d < j then V l d else 0))) n ⟨0,by omega,y,A,R,G,rfl,⟨T.out.1,T.out.2.congr fun l z d W=>by rw [if_neg (show ¬ (l=i∧d < 0) by omega)]⟩⟩ ?_;clear y A R G;rintro q' e m' ⟨j,Q,y,A,R,G,e9,a5⟩;replace Q:=Hid.mk Q;by_cases c0:j < n
    ·have I:((j:Nat):Int) < ((n:Nat):Int):=by omega
     have w3:=bY (n:=j) (by omega);have wp:azv.wrap (((n:Nat):Int)+((j:Nat):Int))=((n+j:Nat):Int):=by rw [eD (by omega) (by omega)];omega
     obtain ⟨J,K⟩:=a5.out;obtain ⟨cx,e3,_,a2⟩:=J.row;obtain ⟨co,f2,_,a6⟩:=K.row;have e2:=a2 i o;have d4:=a6 i o;obtain ⟨_,e1⟩:=J.own i o;obtain ⟨_,c3⟩:=K.own i o;have B:(fun d=>if i < i then V i d else if i=i∧d < j then V i d else 0)=fun d=>if d < j then V i d else 0:=by
      funext d;rw [if_neg (aBH _)];by_cases u:d < j
      ·rw [if_pos ⟨rfl,u⟩,if_pos u]
      ·rw [if_neg (fun h=>u h.2),if_neg u]
     rw [B] at c3;have b9:n+j < 2*n:=by omega
     have b3:i < 2*n:=by omega
     have b4:=iO (w:=2*n) (X i) b9;have b5:=iO (w:=2*n) (X i) b3;have S:=ao4 (X i (n+j)) (X i i);rw [if_neg (Z.out i o),if_neg (Z.out i o),show aQ (X i (n+j)) (cN (X i i))=V i j by rw [←hV]] at S;have O:=ado (fun d=>V i d) (fun _=>0) c0;have b0:j+1≤(aY n fun d=>if d < j then V i d else 0).length:=by rw [eK];omega
     have s:dF (m'.put (γ i) (some ⟨aY n (fun d=>if d < j+1 then V i d else 0),5,.flat,true⟩)) b n (2*n) n true β2 X∧dF (m'.put (γ i) (some ⟨aY n (fun d=>if d < j+1 then V i d else 0),5,.flat,true⟩)) c n n n true γ (fun l d=>if l < i then V l d else if l=i∧d < j+1 then V l d else 0):=by
      refine ⟨J.put_other (by have:=hγ.out i o;omega) fun l z=>by have:=hγ.out i o;have:=b1.out l z;omega,(K.put_row o _).congr fun l z d W => ?_⟩;by_cases E:l=i
      ·subst E;rw [if_pos rfl,if_neg (aBH _)];by_cases u:d < j+1
       ·rw [if_pos u,if_pos ⟨rfl,u⟩]
       ·rw [if_neg u,if_neg (fun h=>u h.2)]
      ·rw [if_neg E,if_neg (show ¬ (l=i∧d < j) by omega),if_neg (show ¬ (l=i∧d < j+1) by omega)]
     simp only [bA] at b4 b5 S;replace a2:=Hid.mk a2;replace a6:=Hid.mk a6;replace B:=Hid.mk B;replace J:=Hid.mk J;replace K:=Hid.mk K;replace s:=Hid.mk s;simp only [↓pre,zam,acP,pX,simprocAttr,bne,y,A,R,G,e9,I,o,e3,f2,e2,d4,e1,wp,b9,b3,b4,b5]
     (first | refine aH (S) (by first | rfl | simp only [aA,aD, *]) ?_ | refine aG (S) (by first | rfl | simp only [aA,aD, *]) (by intro k;first | rfl | simp only [ *,zaa]) ?_);simp only [↓pre,zam,acP,pX,simprocAttr,bne,aJ,c0,c3,b0,O]
     refine dE (by kernel_rfl) ?_;simp only [↓pre,zah,pX,simprocAttr,bne,y,A,R,G,e9,w3];exact ⟨q' - 1,by have:=Q.out;omega,j+1,by have:=Q.out;omega,rfl,s⟩
    ·have I:¬ ((j:Nat):Int) < ((n:Nat):Int):=by omega
     have hj:j=n:=by have:=Q.out;omega
     have p:dF m' c n n n true γ (fun l d=>if l < i+1 then V l d else 0):=a5.out.2.congr fun l z d W=>by
      by_cases u:l < i
      ·rw [if_pos u,if_pos (by omega)]
      ·rw [if_neg u];by_cases E:l=i
       ·rw [if_pos ⟨E,by omega⟩,if_pos (by omega)]
       ·rw [if_neg (by omega),if_neg (by omega)]
     have hx:=a5.out.1;replace p:=Hid.mk p;replace hx:=Hid.mk hx;simp only [↓pre,zah,pX,simprocAttr,bne,y,A,R,G,e9,I];exact ⟨⟨hx.out,p.out⟩⟩
  ·have t:¬ ((i:Nat):Int) < ((n:Nat):Int):=by omega
   have hi:i=n:=by have:=D.out;omega
   have p:dF m c n n n true γ (mD n M):=T.out.2.congr fun l z d W=>by
    rw [if_pos (by omega),←hV];exact P.out l d z W
   replace p:=Hid.mk p;simp only [↓pre,zah,pX,simprocAttr,bne,y,R,G,t];exact ⟨1,by rw [j8,dM,p.out.fzT,aAh,dM,gB,i8];rfl⟩
 ·refine bU (fun q e m=>∃ i,q+i=n∧e 0=v∧e 4=aC (n:Nat)∧e 5 = .sl b 0 n n false∧e 6=aC (i:Nat)∧Hid (dF m b n (2*n) n true β0 (fun l q=>if l < i then l5 n M l q else 0))) n ⟨0,by omega,rfl,rfl,rfl,rfl,⟨hT.congr fun i hi j hj=>by rw [if_neg (by omega)]⟩⟩ ?_;rintro q e m ⟨i,D,e0,y,A,e6,T⟩;replace D:=Hid.mk D;by_cases o:i < n
  ·have t:((i:Nat):Int) < ((n:Nat):Int):=by omega
   have w1:=bY (n:=i) (by omega);have wp:azv.wrap (((n:Nat):Int)+((i:Nat):Int))=((n+i:Nat):Int):=by rw [eD (by omega) (by omega)];omega
   obtain ⟨a,x,f1,c7⟩:=Y.at_ i o;obtain ⟨c5,a1,f6,a4⟩:=T.out.row;have c2:=a4 i o;obtain ⟨_,b8⟩:=T.out.own i o;have B:(fun q=>if i < i then l5 n M i q else 0)=fun _=>(0:UInt8):=by funext q;rw [if_neg (aBH _)]
   rw [B] at b8;have d2:=C.out m (β0 i) (M i) a x b8 c7;replace a4:=Hid.mk a4;replace B:=Hid.mk B;have d1:=T.out.ne o;have c4:¬ b=β0 i:=fun h=>d1 h.symm
   have b0:n+i+1≤(aY (2*n) fun j=>if j < n then M i j else 0).length:=by rw [eK];omega
   have c1:n+i < 2*n:=by omega
   simp only [↓pre,zam,acP,pX,ada,simprocAttr,bne,e0,y,A,e6,t,o,a1,c2,Y.rd.addr',f1,d2];refine dE (by kernel_rfl) ?_;have O:aB8 (n+i) (aY (2*n) fun j=>if j < n then M i j else 0)++[AV.val (.int .u8 1)]++aB9 (n+i+1) (aY (2*n) fun j=>if j < n then M i j else 0)=aY (2*n) (l5 n M i):=by
    have h:=yK (w:=2*n) (f:=fun j=>if j < n then M i j else 0) (g:=l5 n M i) c1 fun j hj=>by
     unfold l5;by_cases u:j < n
     ·rw [if_pos u,if_neg (by omega),if_pos u]
     ·rw [if_neg u,if_neg u];by_cases E:j=n+i
      ·rw [if_pos E,if_pos E,if_neg (by omega),if_pos rfl]
      ·rw [if_neg E,if_neg E]
    have hb:l5 n M i (n+i)=1:=by unfold l5;rw [if_neg (by omega),if_pos rfl]
    rw [hb] at h;exact h
   have s:dF (m.put (β0 i) (some ⟨aY (2*n) (l5 n M i),5,.flat,true⟩)) b n (2*n) n true β0 (fun l q=>if l < i+1 then l5 n M l q else 0):=(T.out.put_row o _).congr fun l z q D=>by
    by_cases E:l=i
    ·subst E;rw [if_pos rfl,if_pos (by omega)]
    ·rw [if_neg E];by_cases u:l < i
     ·rw [if_pos u,if_pos (by omega)]
     ·rw [if_neg u,if_neg (by omega)]
   replace s:=Hid.mk s;simp only [↓pre,zam,acP,pX,yN,simprocAttr,bne,aJ,e0,y,A,e6,o,a1,c2,c4,wp,c1,b0,O,w1];exact ⟨q - 1,by have:=D.out;omega,i+1,by have:=D.out;omega,rfl,s⟩
  ·have t:¬ ((i:Nat):Int) < ((n:Nat):Int):=by omega
   have hi:i=n:=by have:=D.out;omega
   have p:dF m b n (2*n) n true β0 (l5 n M):=T.out.congr fun l z q D=>by rw [if_pos (by omega)]
   replace p:=Hid.mk p;simp only [↓pre,zah,pX,simprocAttr,bne,y,A,e6,t];exact ⟨_,p⟩
def xD:Nat→Bool:=fun d=>d != 40
theorem awH (k r:Nat) (hk:1≤k) (Y:k≤12) (hr:1≤r) (V:r≤4):aR ayS 333 [aC (k:Nat),aC (r:Nat)] ⟨.tup [.tree r r (mV true r k (iA k)) false,aC 0],[]⟩:=by
 refine d6 ?_;have D:=fun m=>ais m r k (by omega) (by omega)
 replace D:=Hid.mk D;have k1:¬ ((k:Nat):Int) < 1:=by omega
 have k2:¬ (12:Int) < ((k:Nat):Int):=by omega
 have k3:¬ ((r:Nat):Int) < 1:=by omega
 have k4:¬ (4:Int) < ((r:Nat):Int):=by omega
 have hx:=abB;refine bI Tryz.func333 xD (h:=?_);unfold Tryz.f333;simp only [↓pre,zah,xD,simprocAttr,bne,k1,k2,k3,k4];refine nR (D.out _) ?_;rintro a0 m1 ⟨β,L⟩;obtain ⟨b,rfl,hT,_,_⟩:=L.mat hr;replace L:=Hid.mk L;simp only [↓pre,simprocAttr];rw [bS];refine bU (fun q e m=>∃ i,q+i=r∧e 0=aC (k:Nat)∧e 1=aC (r:Nat)∧e 6 = .sl b 0 r r false∧e 7=aC (i:Nat)∧Hid (dF m b r k r true β (fun c a=>if c < i then iA k c a else 0))) r ⟨0,by omega,rfl,rfl,rfl,rfl,⟨hT.congr fun i hi j hj=>by rw [if_neg (by omega)]⟩⟩ ?_;rintro q e m ⟨i,H,x,u,t,g,U⟩;replace H:=Hid.mk H;by_cases v:i < r
 ·have o:((i:Nat):Int) < ((r:Nat):Int):=by omega
  have w1:=bY (n:=i) (by omega);have S:azv.wrap (((k:Nat):Int)+((i:Nat):Int))=((k+i:Nat):Int):=by rw [←aCb];exact cD (by omega)
  have Z:=yL (n:=k+i) (by omega);simp only [↓pre,zah,xD,simprocAttr,bne,u,g,o];rw [bS];refine aoB (fun e m=>e 0=aC (k:Nat)∧e 1=aC (r:Nat)∧e 6 = .sl b 0 r r false∧e 7=aC (i:Nat)∧Hid (dF m b r k r true β (fun c a=>if c < i+1 then iA k c a else 0))) (fun e m X => ?_) ?_
  ·clear x u t g;obtain ⟨x,u,t,g,W⟩:=X;simp only [↓pre,zah,xD,simprocAttr,bne,x,u,t,g,w1];exact ⟨q - 1,by have:=H.out;omega,i+1,by have:=H.out;omega,rfl,W⟩
  ·refine bU (fun R e m=>∃ j,R+j=k∧e 0=aC (k:Nat)∧e 1=aC (r:Nat)∧e 6 = .sl b 0 r r false∧e 7=aC (i:Nat)∧e 8=aC (j:Nat)∧Hid (dF m b r k r true β (fun c a=>if c < i then iA k c a else if c=i∧a < j then iA k c a else 0))) k ⟨0,by omega,x,u,t,g,rfl,⟨U.out.congr fun c C a E=>by rw [if_neg (show ¬ (c=i∧a < 0) by omega)]⟩⟩ ?_;clear x u t g;rintro R e m' ⟨j,s,x,u,t,g,M,y⟩;replace s:=Hid.mk s;by_cases I:j < k
   ·have p:((j:Nat):Int) < ((k:Nat):Int):=by omega
    have w3:=bY (n:=j) (by omega);have u2:=yL (n:=j) (by omega);obtain ⟨co,Q,_,B⟩:=y.out.row;have O:=B i v;obtain ⟨_,G⟩:=y.out.own i v;have A:(fun a=>if i < i then iA k i a else if i=i∧a < j then iA k i a else 0)=fun a=>if a < j then iA k i a else 0:=by
     funext a;rw [if_neg (aBH _)];by_cases f:a < j
     ·rw [if_pos ⟨rfl,f⟩,if_pos f]
     ·rw [if_neg (fun h=>f h.2),if_neg f]
    rw [A] at G;have w:azN (k+i) ^^^ azN j≠0:=vJ fun e=>by
     have:=congrArg UInt8.toNat e;rw [mS (by omega),mS (by omega)] at this;omega
    have J:=ao3 (azN (k+i) ^^^ azN j);have P:iA k i j=cN (azN (k+i) ^^^ azN j):=by unfold iA fJ;rw [if_neg (by omega)]
    rw [if_neg w,if_neg w,←P] at J;have N:=hx (azN (k+i)) (azN j);generalize azN (k+i) ^^^ azN j=z at *
    have F:=ado (fun a=>iA k i a) (fun _=>0) I;have T:j+1≤(aY k fun a=>if a < j then iA k i a else 0).length:=by rw [eK];omega
    have l:dF (m'.put (β i) (some ⟨aY k (fun a=>if a < j+1 then iA k i a else 0),5,.flat,true⟩)) b r k r true β (fun c a=>if c < i then iA k c a else if c=i∧a < j+1 then iA k c a else 0):=(y.out.put_row v _).congr fun c C a E=>by
     by_cases K:c=i
     ·subst K;rw [if_pos rfl,if_neg (aBH _)];by_cases f:a < j+1
      ·rw [if_pos f,if_pos ⟨rfl,f⟩]
      ·rw [if_neg f,if_neg (fun h=>f h.2)]
     ·rw [if_neg K,if_neg (show ¬ (c=i∧a < j) by omega),if_neg (show ¬ (c=i∧a < j+1) by omega)]
    simp only [bA] at J;replace B:=Hid.mk B;replace A:=Hid.mk A;replace P:=Hid.mk P;replace w:=Hid.mk w;replace l:=Hid.mk l;simp only [↓pre,zam,amB,xD,bE,lF,simprocAttr,bne,x,t,g,M,p,v,Q,O,S,Z,u2,N]
    (first | refine aH (J) (by first | rfl | simp only [aA,aD, *]) ?_ | refine aG (J) (by first | rfl | simp only [aA,aD, *]) (by intro k;first | rfl | simp only [ *,zaa]) ?_);simp only [↓pre,zam,amB,xD,simprocAttr,bne,aJ,I,G,T,F]
    refine dE (by kernel_rfl) ?_;simp only [↓pre,zah,xD,simprocAttr,bne,x,u,t,g,M,w3];exact ⟨R - 1,by have:=s.out;omega,j+1,by have:=s.out;omega,rfl,l⟩
   ·have p:¬ ((j:Nat):Int) < ((k:Nat):Int):=by omega
    have hj:j=k:=by have:=s.out;omega
    have d:dF m' b r k r true β (fun c a=>if c < i+1 then iA k c a else 0):=y.out.congr fun c C a E=>by
     by_cases f:c < i
     ·rw [if_pos f,if_pos (by omega)]
     ·rw [if_neg f];by_cases K:c=i
      ·rw [if_pos ⟨K,by omega⟩,if_pos (by omega)]
      ·rw [if_neg (by omega),if_neg (by omega)]
    replace d:=Hid.mk d;simp only [↓pre,zah,xD,simprocAttr,bne,x,u,t,g,M,p];exact d
 ·have o:¬ ((i:Nat):Int) < ((r:Nat):Int):=by omega
  have hi:i=r:=by have:=H.out;omega
  have d:dF m b r k r true β (iA k):=U.out.congr fun c C a E=>by rw [if_pos (by omega)]
  replace d:=Hid.mk d;simp only [↓pre,zah,xD,simprocAttr,bne,u,t,g,o];exact ⟨1,by rw [j8,dM,d.out.fzT,aAh,dM,gB,i8];rfl⟩
theorem ao9 (k r:Nat) (g:1≤k) (f:k≤12) (c:r≤4):aR ayS 305 [aC (k:Nat),aC (r:Nat)] ⟨aV true,[]⟩:=by
 have e:(1:Int)≤((k:Nat):Int):=by omega
 have a:((k:Nat):Int)≤12:=by omega
 have d:(0:Int)≤((r:Nat):Int):=by omega
 have b:((r:Nat):Int)≤4:=by omega
 refine aX Tryz.func305 aB (h:=?_);unfold Tryz.f305;simp only [↓pre,zad,simprocAttr,e,a,d,b]
theorem apa (k r a:Nat) (B:1≤k) (o:k≤12) (l:r≤4) (H:a < k+r):aR ayS 309 [aC (k:Nat),aC (r:Nat),aC (a:Nat)] ⟨.tup [.tree k k (aY k (fJ k a)) true,aC 0],[]⟩:=by
 refine d6 ?_;have c:=ao9 k r B o l;have C:¬ ((a:Nat):Int) < 0:=by omega
 have A:¬ ((k+r:Nat):Int)≤((a:Nat):Int):=by omega
 have q:azv.wrap (((k:Nat):Int)+((r:Nat):Int))=((k+r:Nat):Int):=by rw [←aCb];exact cD (by omega)
 have v:=fun m=>rN m (n:=k) (by omega)
 by_cases h:a < k
 ·have s:¬ ((k:Nat):Int)≤((a:Nat):Int):=by omega
  have b:=yK (w:=k) (f:=fun _=>0) (g:=fJ k a) h fun j G=>by
   unfold fJ;rw [if_pos h,if_pos h,if_pos rfl];by_cases e:j=a
   ·rw [if_pos e.symm,if_pos e]
   ·rw [if_neg (fun h=>e h.symm),if_neg e]
  have E:fJ k a a=1:=by unfold fJ;rw [if_pos h,if_pos rfl]
  rw [E] at b;have b:aB8 a (aY k fun _=>0)++[AV.val (.int .u8 1)]++aB9 (a+1) (aY k fun _=>0)=aY k (fJ k a):=b;have y:a+1≤(aY k fun _=>0).length:=by rw [eK];omega
  refine bI Tryz.func309 aB (h:=?_);unfold Tryz.f309;simp only [↓pre,zab,simprocAttr]
  (first | refine aH (c) (by first | rfl | simp only [aA,aD, *]) ?_ | refine aG (c) (by first | rfl | simp only [aA,aD, *]) (by intro k;first | rfl | simp only [ *,zaa]) ?_);simp only [↓pre,zag,amy,bH,simprocAttr,aJ,C,A,q,s,v,h,y,b]
  exact ⟨0,by rw [j8,dM,uC (by rw [aO,if_pos rfl]),aAh,dM,gB,i8];rfl⟩
 ·have s:((k:Nat):Int)≤((a:Nat):Int):=by omega
  have p:=awH k r B o (by omega) l;have t:azv.wrap (((a:Nat):Int) - ((k:Nat):Int))=((a - k:Nat):Int):=by rw [eD (by omega) (by omega)];omega
  have d:=aah true (n:=r) (w:=k) (i:=a - k) (iA k) (by omega);have u:iA k (a - k)=fJ k a:=by unfold iA;rw [show k+(a - k)=a by omega]
  rw [u] at d;have z:aZ (.tree r r (mV true r k (iA k)) false) r (mV true r k (iA k)):=l7 _ _ _;generalize AV.tree r r (mV true r k (iA k)) false=F at *
  have D:=cH z;have x:a - k < r:=by omega
  replace u:=Hid.mk u;refine bI Tryz.func309 aB (h:=?_);unfold Tryz.f309;simp only [↓pre,zab,simprocAttr]
  (first | refine aH (c) (by first | rfl | simp only [aA,aD, *]) ?_ | refine aG (c) (by first | rfl | simp only [aA,aD, *]) (by intro k;first | rfl | simp only [ *,zaa]) ?_);simp only [↓pre,zad,simprocAttr,C,A,q,s];(first | refine aH (p) (by first | rfl | simp only [aA,aD, *]) ?_ | refine aG (p) (by first | rfl | simp only [aA,aD, *]) (by intro k;first | rfl | simp only [ *,zaa]) ?_);simp only [↓pre,zag,amy,simprocAttr,D,t,z.addr',x,d]
  exact ⟨0,by rw [j8,dM,zT,aAh,dM,gB,i8];rfl⟩
theorem awI (v:AV) (C:List (List UInt8)) (cells:List AV) (L:Nat) (A:fQ v C cells) (H:abH C L) (P:L≤65536) (O:C.length≤1000):aR ayS 306 [v,aC (C.length:Nat),aV false] ⟨.tup [aC ((bW C C.length).length:Nat),aV true],[]⟩:=by
 have Q:=A.rd.plain;replace H:=Hid.mk H;refine aX Tryz.func306 aB (h:=?_);unfold Tryz.f306;simp only [↓pre,zag,aeK,simprocAttr,A.rd.len'];rw [bS];refine bU (fun q e m=>∃ i z,q+i=C.length∧e 0=v∧e 1=aC (C.length:Nat)∧e 2=aV false∧e 8=aC ((bW C i).length:Nat)∧e 9=aC (z:Nat)∧e 10=aC (i:Nat)∧Hid (0 < (bW C i).length→z=L)) C.length ⟨0,0,by omega,rfl,rfl,rfl,rfl,rfl,rfl,⟨fun h=>absurd h (by simp [bW])⟩⟩ ?_;rintro q e m ⟨i,z,s,F,E,G,D,I,t,K⟩;replace s:=Hid.mk s;by_cases l:i < C.length
 ·have d:((i:Nat):Int) < ((C.length:Nat):Int):=by omega
  have w1:=bY (n:=i) (by omega);obtain ⟨b,w⟩:∃ b,C[i]? = some b:=⟨_,azj l⟩
  obtain ⟨a,x,u,r⟩:=A.at_ i b w;have c:=wV C i;rw [s6 w] at c;have N:=afd C i;by_cases M:b.length=0
  ·rw [if_neg (by omega),aBi] at c;have j:((b.length:Nat):Int)=0:=by omega
   replace w:=Hid.mk w;replace c:=Hid.mk c;simp only [↓pre,zag,aeK,simprocAttr,F,E,G,D,I,t,d,l,A.rd.addr',u,r.len',j,w1];exact ⟨q - 1,by have:=s.out;omega,i+1,z,by have:=s.out;omega,by rw [c.out],rfl,rfl,⟨by rw [c.out];exact K.out⟩⟩
  ·have p:b.length=L:=by
    rcases H.out b (az5 w) with h | h
    ·exact absurd h M
    ·exact h
   rw [if_pos M] at c;have g:(bW C (i+1)).length=(bW C i).length+1:=by rw [c,aAZ];rfl
   have j:¬ ((b.length:Nat):Int)=0:=by omega
   have k:¬ (65536:Int) < ((b.length:Nat):Int):=by omega
   have J:=bY (n:=(bW C i).length) (by omega);replace w:=Hid.mk w;replace c:=Hid.mk c;replace g:=Hid.mk g;replace p:=Hid.mk p;by_cases B:0 < (bW C i).length
   ·have o:=K.out B;have f:(0:Int) < (((bW C i).length:Nat):Int):=by omega
    have y:b.length=z:=p.out.trans o.symm;replace o:=Hid.mk o;rw [y] at j k r;replace y:=Hid.mk y;simp only [↓pre,zag,aeK,simprocAttr,F,E,G,D,I,t,d,l,A.rd.addr',u,r.len',j,k,f,w1,J];exact ⟨q - 1,by have:=s.out;omega,i+1,z,by have:=s.out;omega,by rw [g.out],rfl,rfl,⟨fun _=>o.out⟩⟩
   ·have f:¬ (0:Int) < (((bW C i).length:Nat):Int):=by omega
    simp only [↓pre,zag,aeK,simprocAttr,F,E,G,D,t,d,l,A.rd.addr',u,r.len',j,k,f,w1,J];exact ⟨q - 1,by have:=s.out;omega,i+1,b.length,by have:=s.out;omega,by rw [g.out],rfl,rfl,⟨fun _=>p.out⟩⟩
 ·have d:¬ ((i:Nat):Int) < ((C.length:Nat):Int):=by omega
  have hi:i=C.length:=by have:=s.out;omega
  subst hi;simp only [↓pre,zad,simprocAttr,E,D,t,d]
theorem awJ (u:AV) (k r a n L:Nat) (D:Mx) (H:List AV) (z:sZ u k L D H) (E:1≤k) (w:k≤12) (O:r≤4) (U:a+n≤k+r) (S:1≤n) (K:L≤65536):aR ayS 307 [aC (k:Nat),aC (r:Nat),aC (a:Nat),aC (a+n:Nat),u] ⟨.tree n n (eP L (oV k D) a n) false,[]⟩:=by
 refine d6 ?_;have V:=z.rd.plain;have d:=fun p h=>apa k r p E w O h
 replace d:=Hid.mk d;refine bI Tryz.func307 aB (h:=?_);unfold Tryz.f307;simp only [↓pre,simprocAttr,sx];rw [bS];refine bU (fun q e m=>∃ i lv,q+i=n∧e 0=aC (k:Nat)∧e 1=aC (r:Nat)∧e 3=aC (a+n:Nat)∧e 4=u∧e 11=lv∧e 12=aC (a+i:Nat)∧Hid (cG .var m 52 1 lv i (eP L (oV k D) a i))) n ⟨0,aN,by omega,rfl,rfl,rfl,rfl,rfl,rfl,⟨fC⟩⟩ ?_;rintro q e m ⟨i,lv,s,A,C,v,B,t,o,F⟩;replace s:=Hid.mk s;by_cases I:i < n
 ·have f:((a+i:Nat):Int) < ((a+n:Nat):Int):=by omega
  have w1:=bY (n:=a+i) (by omega);have j:=d.out (a+i) (by omega);have c:=ao5 (.tree k k (aY k (fJ k (a+i))) true) u k L (fJ k (a+i)) D [] H (by rw [aBi];exact l7 _ _ _) z E (by omega) K;rw [show pK k (fJ k (a+i)) D=oV k D (a+i) from rfl] at c;have G:=l7 k (aY k (fJ k (a+i))) true;have l:=afe L (oV k D) a i;generalize AV.tree k k (aY k (fJ k (a+i))) true=M at *
  have N:=cH G;have T:=G.plain;have Q:=l7 L (aY L (oV k D (a+i))) true;have J:=cH Q;simp only [aC] at j c;replace l:=Hid.mk l;simp only [↓pre,zad,simprocAttr,A,C,v,o,f]
  (first | refine aH (j) (by first | rfl | simp only [aA,aD, *]) ?_ | refine aG (j) (by first | rfl | simp only [aA,aD, *]) (by intro k;first | rfl | simp only [ *,zaa]) ?_);simp only [↓pre,zab,simprocAttr,B,N];(first | refine aH (c) (by first | rfl | simp only [aD, *]) ?_ | refine aG (c) (by first | rfl | simp only [aA,aD, *]) (by intro k;first | rfl | simp only [ *,zaa]) ?_);simp only [↓pre,zab,asx,bE,abI,simprocAttr,t,J]
  refine pA (kd := .var) (sz:=1) (y:=24) (zl:=[.slice none 0 0]) (by kernel_rfl) F.out (by kernel_rfl) (by kernel_rfl) (by kernel_rfl) rfl mN rfl (by omega) (by omega) ?_;intro x m' g R;rw [←l.out] at g;replace g:=Hid.mk g;simp only [↓pre,zab,simprocAttr,A,C,v,B,o,w1];exact ⟨q - 1,by have:=s.out;omega,i+1,x,by have:=s.out;omega,rfl,rfl,g⟩
 ·have f:¬ ((a+i:Nat):Int) < ((a+n:Nat):Int):=by omega
  have hi:i=n:=by have:=s.out;omega
  subst hi;obtain ⟨b,rfl,P,_⟩:=F.out.sl (by omega);simp only [↓pre,zad,simprocAttr,v,t,o,f];exact ⟨1,by rw [aed P (abG _ (by rw [aBu];exact anY _ _ _ _)),aBu]⟩
theorem apb (C:List (List UInt8)) (i:Nat):∀ m,(bW C (i+m)).take (bW C i).length=bW C i
 | 0=>List.take_length
 | m+1=>by
  have a:=apb C i m;have b:(bW C i).length≤(bW C (i+m)).length:=by
   have:=congrArg List.length a;rw [List.length_take] at this;omega
  rw [←Nat.add_assoc,wV,aCa b,a]
set_option maxHeartbeats 1000000 in
theorem awK (v:AV) (k r L:Nat) (C:List (List UInt8)) (cells:List AV) (hv:fQ v C cells) (i2:C.length=k+r) (hC:abH C L) (hk:1≤k) (c0:k≤12) (hr:r≤4) (hL:1≤L) (c5:L≤65536) (n1:k≤(bW C (k+r)).length):aR ayS 261 [aC (k:Nat),aC (r:Nat),v] ⟨.tup [.tree (k+r) (k+r) (eP L (abA k ((bW C (k+r)).take k) (gK C)) 0 (k+r)) false,aC 0],[]⟩:=by
 refine d6 ?_;have hp:=hv.rd.plain;have f5:=ao9 k r hk c0 hr;have Y:=awI v C cells L hv hC c5 (by omega);rw [i2] at Y;have R:=fun f8 h=>apa k r f8 hk c0 hr h
 have h8:((bW C (k+r)).take k).length=k:=by rw [List.length_take];omega
 have H:∀ a∈(bW C (k+r)).take k,a < k+r∧(C.getD a []).length=L:=fun a ha=>by
  obtain ⟨h1,h2⟩:=ah3 (List.mem_of_mem_take ha);refine ⟨h1, ?_⟩;obtain ⟨b,o⟩:∃ b,C[a]? = some b:=⟨_,azj (by omega)⟩
  rw [s6 o] at h2 ⊢;rcases hC b (az5 o) with h | h
  ·exact absurd h h2
  ·exact h
 have j1:((bW C (k+r)).take k).Nodup:=(anV C (k+r)).sublist (List.take_sublist _ _);have O:∀ i,i≤k+r→(bW C i).length≤k→bW C i=(((bW C (k+r)).take k).take (bW C i).length):=fun i hi a3=>by
  have:=apb C i (k+r - i);rw [show i+(k+r - i)=k+r by omega] at this;rw [List.take_take,Nat.min_eq_left a3,this]
 have k1:¬ (((bW C (k+r)).length:Nat):Int) < ((k:Nat):Int):=by omega
 have w1:azv.wrap (((k:Nat):Int)+((r:Nat):Int))=((k+r:Nat):Int):=by rw [←aCb];exact cD (by omega)
 generalize b4:(bW C (k+r)).take k=at_ at *
 replace hC:=Hid.mk hC;replace H:=Hid.mk H;replace b4:=Hid.mk b4;replace R:=Hid.mk R;replace O:=Hid.mk O;have n0:aF.empty.next=0:=rfl;refine bI Tryz.func261 aB (h:=?_);unfold Tryz.f261;simp only [↓pre,zab,simprocAttr]
 (first | refine aH (f5) (by first | rfl | simp only [aA,aD, *]) ?_ | refine aG (f5) (by first | rfl | simp only [aA,aD, *]) (by intro k;first | rfl | simp only [ *,zaa]) ?_);simp only [↓pre,zad,simprocAttr,w1];(first | refine aH (Y) (by first | rfl | simp only [aD, *]) ?_ | refine aG (Y) (by first | rfl | simp only [aA,aD, *]) (by intro k;first | rfl | simp only [ *,zaa]) ?_);simp only [↓pre,zad,simprocAttr,k1]
 rw [bS];refine x5 (fun e m=>∃ E g,e 0=aC (k:Nat)∧e 1=aC (r:Nat)∧e 10=E∧e 11=g∧Hid (cG .var m 52 1 E k (nE k at_)∧cG .var m 52 1 g k (kE cells at_)∧∀ b,cI E=some b→cI g≠some b)) (fun e m hR => ?_) ?_
 ·obtain ⟨E,g,N,T,D,u,hJ⟩:=hR;obtain ⟨A,z,S⟩:=hJ.out;have j0:c9 (nE k at_)=true:=aaj _ fun c hc=>by
   unfold nE at hc;obtain ⟨a,_,rfl⟩:=List.mem_map.1 hc;rfl
  have G:ac6 k L (fun t=>gK C (at_.getD t 0)) (kE cells at_):=fun t ht=>by
   obtain ⟨a,ha⟩:∃ a,at_[t]? = some a:=⟨_,azj (by omega)⟩
   obtain ⟨Y,d0⟩:=H.out a (az5 ha);obtain ⟨b,o⟩:∃ b,C[a]? = some b:=⟨_,azj (by omega)⟩
   obtain ⟨ca,x,M,I⟩:=hv.at_ a b o;refine ⟨ca,x, ?_, ?_⟩
   ·unfold kE;rw [azl,ha,Option.map_some,azp,M];rfl
   ·simp only [azp,ha,aAB];unfold aY;have:=an3 d0;rw [this,s6 o];rw [s6 o] at d0;rw [d0] at I;exact I
  have k8:c9 (kE cells at_)=true:=aaj _ fun c hc=>by
   obtain ⟨t,ht⟩:=aBg hc;have O:t < k:=by have:=(ay5.1 ht).1;unfold kE at this;rw [List.length_map] at this;omega
   obtain ⟨a,x,h1,h2⟩:=G t O;rw [ht] at h1;cases h1;exact h2.plain
  obtain ⟨av,m2,k6,m5,n2,i1,g0⟩:=(zV A (.inr ⟨rfl,j0⟩)).fz;have a5:cG .var m2 52 1 g k (kE cells at_):=z.frz i1 g0 fun b o s n c f h=>by
   subst h;exact S b rfl o
  have a6:=awG av k (lK k at_) (nE k at_) ⟨m5,an4 h8⟩ hk (by omega) (anw h8 j1 fun a ha=>by have:=(H.out a ha).1;omega);have e5:=(ae9 false true k k (mD k (lK k at_))).rd;generalize AV.tree k k (mV true k k (mD k (lK k at_))) false=IV at *
  have s1:=cH e5;have i3:=zV a5 (.inr ⟨rfl,k8⟩);have l0:=ag3 a5;have e9:fzs m [E]=some ([av],m2):=by simp [fzs,k6]
  simp only [aC] at a6;replace G:=Hid.mk G;simp only [↓pre,zab,simprocAttr,D];refine zO a6 e9 ?_;simp only [↓pre,zab,simprocAttr,s1];rw [bS];refine bU (fun q e m=>∃ j ld,q+j=k∧e 0=aC (k:Nat)∧e 1=aC (r:Nat)∧e 11=g∧e 15=IV∧e 17=ld∧e 18=aC (j:Nat)∧Hid (cG .var m 52 1 ld j (eP L (kQ k at_ (gK C)) 0 j)∧m6 m g k (kE cells at_)∧uZ m g∧∀ b,cI ld=some b→∀ s n c f,g ≠ .sl b s n c f)) k ⟨0,aN,by omega,N,T,u,rfl,rfl,rfl,⟨fC,i3,l0,fun b h=>by cases h⟩⟩ ?_;clear N T D u;rintro q e m ⟨j,ld,K,N,T,u,g1,g3,b5,k2⟩;replace K:=Hid.mk K;obtain ⟨g4,hF,hO,b7⟩:=k2.out;by_cases a0:j < k
  ·have d:((j:Nat):Int) < ((k:Nat):Int):=by omega
   have wj:=bY (n:=j) (by omega);have b3:=aah true (w:=k) (mD k (lK k at_)) a0;obtain ⟨h9,m3,h6,h7,m1,a7,V⟩:=hF.fz;have b9:fzs m [.tree k k (aY k (mD k (lK k at_) j)) true,g]=some ([.tree k k (aY k (mD k (lK k at_) j)) true,h9],m3):=by
    simp [fzs,b6 (l7 k (aY k (mD k (lK k at_) j)) true),h6]
   have U:=ao5 (.tree k k (aY k (mD k (lK k at_) j)) true) h9 k L (mD k (lK k at_) j) (fun t=>gK C (at_.getD t 0)) [] (kE cells at_) (by rw [aBi];exact l7 _ _ _) ⟨h7,G.out⟩ hk (by omega) c5;rw [show pK k (mD k (lK k at_) j) (fun t=>gK C (at_.getD t 0))=kQ k at_ (gK C) j from rfl] at U;have t2:=l7 L (aY L (kQ k at_ (gK C) j)) true;have s2:=cH t2;have g5:cG .var m3 52 1 ld j (eP L (kQ k at_ (gK C)) 0 j):=g4.frz a7 V b7;have l3:m7 m m3:=⟨m1,Nat.le_of_eq a7.symm,fun j k hj _=>by obtain ⟨wr,h,_⟩:=V j k hj;exact ⟨wr,h⟩⟩
   have k5:=hF.keep l3 hO;have c6:uZ m3 g:=fun b s n c f h=>by rw [a7];exact hO b s n c f h
   have a2:=afe L (kQ k at_ (gK C)) 0 j;rw [azn] at a2;simp only [aC] at U;replace a2:=Hid.mk a2;replace V:=Hid.mk V;simp only [↓pre,zag,abl,simprocAttr,N,u,g1,b5,d,e5.addr',a0,b3];refine zO U b9 ?_;simp only [↓pre,zab,abl,bE,abI,simprocAttr,g3,s2];refine uY (kd := .var) (sz:=1) (y:=24) (zl:=[.slice none 0 0]) (by kernel_rfl) g5 (by kernel_rfl) (by kernel_rfl) (by kernel_rfl) rfl mN rfl (by omega) (by omega) fun f4 m4 a1 b1 c1 d1 _ => ?_
   have k3:m6 m4 g k (kE cells at_):=by
    rcases k5.form with h | ⟨b,s,c,f,kk,rfl,h2,h3,h4,h5⟩
    ·exact ⟨.inl h⟩
    ·exact ⟨.inr ⟨b,s,c,f,kk,rfl,c1 b kk h2 (c6 _ _ _ _ _ rfl) (fun o=>b7 b o _ _ _ _ rfl),h3,h4,h5⟩⟩
   have l4:uZ m4 g:=fun b s n c f h=>Nat.lt_of_lt_of_le (c6 b s n c f h) b1
   have e6:∀ b,cI f4=some b→∀ s n c f,g ≠ .sl b s n c f:=fun b o s n c f h=>by
    rcases d1 b o with h1 | h1
    ·have:=c6 _ _ _ _ _ h;omega
    ·exact b7 b h1 _ _ _ _ h
   rw [←a2.out] at a1;replace a1:=Hid.mk a1;clear c1 d1;simp only [↓pre,zab,simprocAttr,N,T,u,g1,b5,wj];exact ⟨q - 1,by have:=K.out;omega,j+1,f4,by have:=K.out;omega,rfl,rfl,⟨a1.out,k3,l4,e6⟩⟩
  ·have d:¬ ((j:Nat):Int) < ((k:Nat):Int):=by omega
   have hj:j=k:=by have:=K.out;omega
   subst hj;have k0:=an2 L (kQ j at_ (gK C)) 0 j;obtain ⟨g2,m4,e8,e7,_⟩:=(zV g4 (.inr ⟨rfl,k0⟩)).fz;have c2:=awJ g2 j r 0 (j+r) L (kQ j at_ (gK C)) (eP L (kQ j at_ (gK C)) 0 j) ⟨e7,fun i hi=>⟨_,[],by have:=aff (L:=L) (F:=kQ j at_ (gK C)) (a:=0) hi;rw [azn] at this;exact this,by rw [aBi];exact l7 _ _ _⟩⟩ hk c0 hr (by omega) (by omega) c5;rw [azn,show ((0:Nat):Int)=0 from rfl] at c2;have t3:=l7 (j+r) (eP L (oV j (kQ j at_ (gK C))) 0 (j+r)) false;have s3:=cH t3;have b9:fzs m [.val (.int .i64 (j:Nat)),.val (.int .i64 (r:Nat)),.val (.int .i64 0),.val (.int .i64 (j+r:Nat)),ld]=some ([.val (.int .i64 (j:Nat)),.val (.int .i64 (r:Nat)),.val (.int .i64 0),.val (.int .i64 (j+r:Nat)),g2],m4):=by
    simp [fzs,fz,e8]
   simp only [aC] at c2;simp only [↓pre,zad,simprocAttr,N,T,g3,b5,d,w1];refine zO c2 b9 ?_;simp only [↓pre,simprocAttr,sx,s3];exact ⟨0,by rw [j8,dM,zT,aAh,dM,gB,i8];rfl⟩
 ·refine bU (fun q e m=>∃ i E g,q+i=k+r∧e 0=aC (k:Nat)∧e 1=aC (r:Nat)∧e 2=v∧e 10=E∧e 11=g∧e 12=aC (i:Nat)∧Hid ((bW C i).length≤k∧cG .var m 52 1 E (bW C i).length (nE k (bW C i))∧cG .var m 52 1 g (bW C i).length (kE cells (bW C i))∧m7 aF.empty m∧mO aF.empty E∧mO aF.empty g∧∀ b,cI E=some b→cI g≠some b)) (k+r) ⟨0,aN,aN,by omega,rfl,rfl,rfl,rfl,rfl,rfl,⟨by simp [bW],fC,fC,m7.refl _,zU _,zU _,fun b h=>by cases h⟩⟩ ?_;rintro q e m ⟨i,E,g,K,N,T,e2,D,u,J,hJ⟩;replace K:=Hid.mk K;obtain ⟨a3,A,z,l1,k7,k9,S⟩:=hJ.out;have d3:lenE ayS 45 g=some (.val (.int .i64 ((bW C i).length:Nat))):=by
   rcases z.form with ⟨rfl,h,_⟩ | ⟨b,rfl,_⟩
   ·rw [h];kernel_rfl
   ·exact ah1
  by_cases a0:i < k+r
  ·have d:((i:Nat):Int) < ((k+r:Nat):Int):=by omega
   have wi:=bY (n:=i) (by omega);by_cases l2:(bW C i).length < k
   ·have l:(((bW C i).length:Nat):Int) < ((k:Nat):Int):=by omega
    obtain ⟨b,o⟩:∃ b,C[i]? = some b:=⟨_,azj (by omega)⟩
    obtain ⟨ca,x,M,I⟩:=hv.at_ i b o;have b2:i < C.length:=by omega
    have p:=wV C i;rw [s6 o] at p;by_cases h0:b.length=0
    ·rw [if_neg (by omega),aBi] at p;have c4:¬ (0:Int) < ((b.length:Nat):Int):=by omega
     replace o:=Hid.mk o;replace p:=Hid.mk p;simp only [↓pre,zag,abl,simprocAttr,N,T,e2,D,u,J,w1,d,d3,l,b2,hv.rd.addr',M,I.len',c4,wi];exact ⟨q - 1,by have:=K.out;omega,i+1,E,g,by have:=K.out;omega,rfl,rfl,rfl,⟨by rw [p.out];exact hJ.out⟩⟩
    ·rw [if_pos h0] at p;have c4:(0:Int) < ((b.length:Nat):Int):=by omega
     have Q:(bW C (i+1)).length=(bW C i).length+1:=by rw [p,aAZ];rfl
     obtain ⟨cc,f,rfl,_⟩:∃ cc f,ca = .tree b.length cc (b.map bA++x) f∧b.length≤cc:=by
      rcases I.form with ⟨_,h⟩ | ⟨_,_,_,h⟩ | h
      ·omega
      ·omega
      ·exact h
     have e3:nE k (bW C (i+1))=nE k (bW C i)++[.tree k k (aY k (fJ k i)) true]:=by rw [p];unfold nE;rw [List.map_append];rfl
     have b8:kE cells (bW C (i+1))=kE cells (bW C i)++[.tree b.length cc (b.map bA++x) f]:=by
      rw [p];unfold kE;rw [List.map_append,List.map_cons,List.map_nil,azp,M];rfl
     have d2:=R.out i a0;have t1:=l7 k (aY k (fJ k i)) true;have s1:=cH t1;simp only [aC] at d2;replace o:=Hid.mk o;replace p:=Hid.mk p;replace Q:=Hid.mk Q;replace e3:=Hid.mk e3;replace b8:=Hid.mk b8;simp only [↓pre,zag,abl,simprocAttr,N,T,e2,u,J,w1,d,d3,l,b2,hv.rd.addr',M,I.len',c4]
     (first | refine aH (d2) (by first | rfl | simp only [aA,aD, *]) ?_ | refine aG (d2) (by first | rfl | simp only [aA,aD, *]) (by intro k;first | rfl | simp only [ *,zaa]) ?_);simp only [↓pre,zab,abl,bE,abI,simprocAttr,D,s1]
     refine aek (m0:=aF.empty) (kd := .var) (sz:=1) (y:=24) (zl:=[.slice none 0 0]) (by kernel_rfl) A (by kernel_rfl) (by kernel_rfl) (by kernel_rfl) rfl mN rfl (by omega) (by omega) l1 k7 ?_;intro a4 m' i0 f0 f6 k4 f2 c7;obtain ⟨f3,g6⟩:=z.beside k4 f2 c7 fun b o h=>S b h o
     simp only [↓pre,zag,abl,bE,abI,simprocAttr,e2,u,J,b2,hv.rd.addr',M];refine aek (m0:=aF.empty) (kd := .var) (sz:=1) (y:=24) (zl:=[.slice none 0 0]) (by kernel_rfl) f3 (by kernel_rfl) (by kernel_rfl) (by kernel_rfl) rfl mN rfl (by omega) (by omega) f0 k9 ?_;intro Z b0 e4 d4 a9 f1 f7 X;obtain ⟨c3,c8⟩:=i0.beside f1 f7 X fun b o h=>g6 b h o
     have P:(bW C (i+1)).length≤k∧cG .var b0 52 1 a4 (bW C (i+1)).length (nE k (bW C (i+1)))∧cG .var b0 52 1 Z (bW C (i+1)).length (kE cells (bW C (i+1)))∧m7 aF.empty b0∧mO aF.empty a4∧mO aF.empty Z∧∀ b,cI a4=some b→cI Z≠some b:=by
      rw [Q.out,e3.out,b8.out];exact ⟨by omega,c3,e4,d4,f6,a9,c8⟩
     replace P:=Hid.mk P;simp only [↓pre,zab,simprocAttr,N,T,e2,J,wi];exact ⟨q - 1,by have:=K.out;omega,i+1,a4,Z,by have:=K.out;omega,rfl,rfl,rfl,P⟩
   ·have l:¬ (((bW C i).length:Nat):Int) < ((k:Nat):Int):=by omega
    have W:(bW C i).length=k:=by omega
    have B:=O.out i (by omega) a3;rw [W,aA7 (by omega)] at B;rw [W,B] at A z;replace B:=Hid.mk B;simp only [↓pre,zag,simprocAttr,N,T,D,u,J,w1,d,d3,l];exact ⟨E,g,rfl,rfl,⟨A,z,S⟩⟩
  ·have d:¬ ((i:Nat):Int) < ((k+r:Nat):Int):=by omega
   have hi:i=k+r:=by have:=K.out;omega
   rw [hi] at a3 A z;have W:(bW C (k+r)).length=k:=by omega
   have B:bW C (k+r)=at_:=by rw [←b4.out,aA7 (by omega)]
   rw [W,B] at A z;replace B:=Hid.mk B;simp only [↓pre,zad,simprocAttr,N,T,D,u,J,w1,d];exact ⟨E,g,rfl,rfl,⟨A,z,S⟩⟩
structure OfR (k r c w ix:Int) (bs:List UInt8) (kd i0 ce st:Int) (vv dv:AV):Prop where
 r1:∃ n y,aZ vv n y
 r2:∃ n y,aZ dv n y
 is:gZ k r c w bs ix=true→kd=(cT k r bs).kd∧ce=(cT k r bs).ce∧st=(cT k r bs).st∧vv=tC (some (cT k r bs).vec)∧dv = .tree (cT k r bs).data.length (cT k r bs).data.length (aL (cT k r bs).data) false
theorem afE (k r c w ix:Int) (v:AV) (bs:List UInt8) (x:List AV) (d:aZ v bs.length (aL bs++x)) (b:bG k r c w=true):∃ kd a ce st vv dv,aR ayS 227 [aA k r c w,v,aC ix] ⟨.tup [.agg [.val (.int .u8 kd),.val (.int .i64 a),.val (.int .i64 ce),.val (.int .i64 st),vv,dv],aV (gZ k r c w bs ix)],[]⟩∧OfR k r c w ix bs kd a ce st vv dv:=by
 have h:=amP k r c w ix v bs x d b;cases hs:gZ k r c w bs ix with
 | false =>
  rw [hs,if_neg (by decide)] at h;exact ⟨0,0,0,0,aN,aN,h,⟨⟨0,[],⟨.inl ⟨rfl,rfl⟩⟩⟩,⟨0,[],⟨.inl ⟨rfl,rfl⟩⟩⟩,fun h=>by rw [hs] at h;cases h⟩⟩
 | true =>
  rw [hs,if_pos rfl] at h;exact ⟨_,_,_,_,_,_,h,⟨⟨_,_,l7 _ _ _⟩,⟨_,_,l7 _ _ _⟩,fun _=>⟨rfl,rfl,rfl,rfl,rfl⟩⟩⟩
theorem apc (k r c w:Int) (bs:List UInt8) (ix kd ver:Int):kU k r c w bs ix kd ver=(gZ k r c w bs ix && (decide ((cT k r bs).kd=kd) && decide ((cT k r bs).ce=ver))):=by
 unfold kU nY;cases h:gZ k r c w bs ix with
 | false=>rfl
 | true =>
  have a:eS k r c w bs=true:=by
   unfold gZ at h;rw [Bool.and_eq_true] at h;exact h.1
  unfold fX;rw [if_pos a];rfl
def xE (k r c w:Int) (p:bO) (ix kd ver:Int):Int:=if kU k r c w p.1 ix kd ver=true then 0 else if kU k r c w p.2 ix kd ver=true then 1 else -1
def oZ:Nat→Bool:=fun d=>d != 12
theorem awL (k r c w kd ix ver:Int) (a b:AV) (p:bO) (Z xb:List AV) (L:aZ a p.1.length (aL p.1++Z)) (O:aZ b p.2.length (aL p.2++xb)) (hm:bG k r c w=true):aR ayS 226 [aA k r c w,.agg [a,b],.val (.int .u8 kd),aC ix,aC ver] ⟨aC (xE k r c w p ix kd ver),[]⟩:=by
 refine d6 ?_;have A:∀ i:Nat,i < 2→∃ M,[a,b][i]? = some M∧plain M=true∧∃ x R ce st vv dv,aR ayS 227 [aA k r c w,M,aC ix] ⟨.tup [.agg [.val (.int .u8 x),.val (.int .i64 R),.val (.int .i64 ce),.val (.int .i64 st),vv,dv],aV (gZ k r c w (if i=0 then p.1 else p.2) ix)],[]⟩∧OfR k r c w ix (if i=0 then p.1 else p.2) x R ce st vv dv:=fun i hi=>by
  obtain rfl | rfl:i=0∨i=1:=by omega
  ·exact ⟨a,rfl,L.plain,afE k r c w ix a p.1 Z L hm⟩
  ·exact ⟨b,rfl,O.plain,afE k r c w ix b p.2 xb O hm⟩
 replace A:=Hid.mk A;have fa:=b6 L;have fb:=b6 O;have oa:=bQ L;have ob:=bQ O;have t:∀ i:Nat,i < 2→(∀ j,j < i→kU k r c w (if j=0 then p.1 else p.2) ix kd ver=false)→kU k r c w (if i=0 then p.1 else p.2) ix kd ver=true→xE k r c w p ix kd ver=(i:Nat):=fun i hi l g=>by
  unfold xE;obtain rfl | rfl:i=0∨i=1:=by omega
  ·rw [if_pos rfl] at g;rw [if_pos g];rfl
  ·rw [if_neg (by decide)] at g;have:=l 0 (by omega);rw [if_pos rfl] at this;rw [if_neg (by rw [this];decide),if_pos g];rfl
 have D:(∀ j,j < 2→kU k r c w (if j=0 then p.1 else p.2) ix kd ver=false)→xE k r c w p ix kd ver = -1:=fun l=>by
  have g:=l 0 (by omega);have Y:=l 1 (by omega);rw [if_pos rfl] at g;rw [if_neg (by decide)] at Y;unfold xE;rw [if_neg (by rw [g];decide),if_neg (by rw [Y];decide)]
 generalize hH:xE k r c w p ix kd ver=HI at *
 replace t:=Hid.mk t;replace D:=Hid.mk D;refine bI Tryz.func226 oZ (h:=?_);unfold Tryz.f226;simp only [↓pre,zah,rI,oZ,simprocAttr,aA,bne,fa,fb];rw [bS];refine bU (fun q e m=>∃ i,q+i=2∧e 2 = .val (.int .u8 kd)∧e 3=aC ix∧e 4=aC ver∧e 5 = .tptr 0 [aC k,aC r,aC c,aC w]∧e 6 = .tptr 0 [a,b]∧e 11=aC (i:Nat)∧Hid (∀ j,j < i→kU k r c w (if j=0 then p.1 else p.2) ix kd ver=false)) 2 ⟨0,by omega,rfl,rfl,rfl,rfl,rfl,rfl,⟨fun j hj=>by omega⟩⟩ ?_;rintro q e m ⟨i,v,K,E,J,F,G,o,V⟩;replace v:=Hid.mk v;by_cases z:i < 2
 ·have y:((i:Nat):Int) < 2:=by omega
  have U:=bY (n:=i) (by omega);obtain ⟨M,W,a0,x,R,ce,st,vv,dv,u,s⟩:=A.out i z;obtain ⟨n1,y1,P⟩:=s.r1;obtain ⟨n2,y2,Q⟩:=s.r2;have N:=b6 P;have I:=b6 Q;have q1:=bQ P;have q2:=bQ Q;have t1:=cH P;have t2:=cH Q;have d:=apc k r c w (if i=0 then p.1 else p.2) ix kd ver;have C:=s.is;have S:=fun l g=>t.out i z l g
  have f:kU k r c w (if i=0 then p.1 else p.2) ix kd ver=false→∀ j,j < i+1→kU k r c w (if j=0 then p.1 else p.2) ix kd ver=false:=fun h j hj=>by
   by_cases e:j=i
   ·subst e;exact h
   ·exact V.out j (by omega)
  simp only [aC] at u;generalize gZ k r c w (if i=0 then p.1 else p.2) ix=B at *
  generalize kU k r c w (if i=0 then p.1 else p.2) ix kd ver=H at *
  replace C:=Hid.mk C;replace S:=Hid.mk S;replace f:=Hid.mk f;replace s:=Hid.mk s;simp only [↓pre,zam,rI,oZ,simprocAttr,bne,E,F,G,o,y,z,W];cases B with
  | false =>
   rw [aBY] at d;replace d:=Hid.mk d
   (first | refine aH (u) (by first | rfl | simp only [aA,aD, *]) ?_ | refine aG (u) (by first | rfl | simp only [aD, *]) (by intro k;first | rfl | simp only [ *,zaa]) ?_);simp only [↓pre,zah,rI,oZ,aM,simprocAttr,bne]
   refine oN (by kernel_rfl) ?_;simp only [↓pre,za,rI,oZ,simprocAttr,bne,aJ,N,I];refine dE (by kernel_rfl) ?_;simp only [↓pre,zah,oZ,simprocAttr,bne,K,E,J,F,G,o,U];exact ⟨q - 1,by have:=v.out;omega,i+1,by have:=v.out;omega,rfl,⟨f.out d.out⟩⟩
  | true =>
   obtain ⟨T,X,u3,u4,u5⟩:=C.out rfl;replace u4:=Hid.mk u4;replace u5:=Hid.mk u5;rw [aBh,←T,←X] at d;replace T:=Hid.mk T;replace X:=Hid.mk X;replace u3:=Hid.mk u3;by_cases l:x=kd
   ·by_cases g:ce=ver
    ·rw [decide_eq_true l,decide_eq_true g] at d;replace d:=Hid.mk d
     (first | refine aH (u) (by first | rfl | simp only [aA,aD, *]) ?_ | refine aG (u) (by first | rfl | simp only [aD, *]) (by intro k;first | rfl | simp only [ *,zaa]) ?_);simp only [↓pre,zah,rI,oZ,aM,simprocAttr,bne,l,g]
     refine oN (by kernel_rfl) ?_;simp only [↓pre,za,rI,oZ,simprocAttr,bne,aJ,N,I];refine dE (by kernel_rfl) ?_;simp only [↓pre,za,rI,oZ,simprocAttr,bne,K,J,o];exact ⟨0,by rw [S.out V.out d.out,gB]⟩
    ·rw [decide_eq_true l,decide_eq_false g] at d;replace d:=Hid.mk d
     (first | refine aH (u) (by first | rfl | simp only [aA,aD, *]) ?_ | refine aG (u) (by first | rfl | simp only [aD, *]) (by intro k;first | rfl | simp only [ *,zaa]) ?_);simp only [↓pre,zah,rI,oZ,aM,simprocAttr,bne,l]
     refine oN (by kernel_rfl) ?_;simp only [↓pre,za,rI,oZ,simprocAttr,bne,aJ,N,I];refine dE (by kernel_rfl) ?_;simp only [↓pre,za,rI,oZ,simprocAttr,bne,K,E,J,F,G,o,g,U];exact ⟨q - 1,by have:=v.out;omega,i+1,by have:=v.out;omega,rfl,⟨f.out d.out⟩⟩
   ·rw [decide_eq_false l,aBY] at d;replace d:=Hid.mk d
    (first | refine aH (u) (by first | rfl | simp only [aA,aD, *]) ?_ | refine aG (u) (by first | rfl | simp only [aD, *]) (by intro k;first | rfl | simp only [ *,zaa]) ?_);simp only [↓pre,zah,rI,oZ,aM,simprocAttr,bne]
    refine oN (by kernel_rfl) ?_;simp only [↓pre,za,rI,oZ,simprocAttr,bne,aJ,N,I];refine dE (by kernel_rfl) ?_;simp only [↓pre,za,rI,oZ,simprocAttr,bne,K,E,J,F,G,o,l,U];exact ⟨q - 1,by have:=v.out;omega,i+1,by have:=v.out;omega,rfl,⟨f.out d.out⟩⟩
 ·have y:¬ ((i:Nat):Int) < 2:=by omega
  have hi:i=2:=by have:=v.out;omega
  subst hi;have:=D.out V.out;simp only [↓pre,zah,oZ,simprocAttr,bne,o];exact ⟨0,by rw [this,gB]⟩
theorem awM (k r c w:Int) (bs:List UInt8) (ix kd ver:Int):j4 k r c w bs ix kd ver=(gZ k r c w bs ix && (decide ((cT k r bs).kd=kd) && decide ((cT k r bs).st=ver))):=by
 unfold j4 gZ;cases h:eS k r c w bs with
 | false=>rfl
 | true =>
  unfold fX;rw [if_pos h,aBh,aBh];show (decide ((cT k r bs).kd=kd) && (decide ((cT k r bs).ix=ix) && decide ((cT k r bs).st=ver)))=_;cases decide ((cT k r bs).kd=kd) <;> cases decide ((cT k r bs).ix=ix) <;> rfl
def sel (p:bO) (i:Nat):List UInt8:=if i=0 then p.1 else p.2
theorem apd {k r c w:Int} {v:AV} {ps:List bO} {cells:List AV} (l:fV v ps cells) (j:bG k r c w=true) {i:Nat} {p:bO} (o:ps[i]? = some p) (ix:Int) (d:Nat) (t:d < 2):∃ g,cells[i*2+d]? = some g∧plain g=true∧∃ kd h ce st vv dv,aR ayS 227 [aA k r c w,g,aC ix] ⟨.tup [.agg [.val (.int .u8 kd),.val (.int .i64 h),.val (.int .i64 ce),.val (.int .i64 st),vv,dv],aV (gZ k r c w (sel p d) ix)],[]⟩∧OfR k r c w ix (sel p d) kd h ce st vv dv:=by
 obtain ⟨a,b,m,s,n,q,e,f⟩:=l.at_ i p o;obtain rfl | rfl:d=0∨d=1:=by omega
 ·exact ⟨a,n,e.plain,afE k r c w ix a p.1 m e j⟩
 ·exact ⟨b,q,f.plain,afE k r c w ix b p.2 s f j⟩
def nH:Nat→Bool:=fun d=>d != 11
theorem awN (k r c w kd ver:Int) (v:AV) (ps:List bO) (cells:List AV) (X:fV v ps cells) (hm:bG k r c w=true) (hn:ps.length≤1000):aR ayS 208 [aA k r c w,v,.val (.int .u8 kd),aC ver] ⟨tC (iP k r c w ps kd ver),[]⟩:=by
 refine d6 ?_;have hp:=X.rd.plain;generalize x:iP k r c w ps kd ver=T;replace x:=Hid.mk x;replace hn:=Hid.mk hn;have U:=fun {i p} h ix b V=>apd (k:=k) (r:=r) (c:=c) (w:=w) X hm (i:=i) (p:=p) h ix b V
 replace U:=Hid.mk @U;refine bI Tryz.func208 nH (h:=?_);unfold Tryz.f208;simp only [↓pre,zah,pC,nH,simprocAttr,aA,bne];rw [bS];refine bU (fun q e m=>∃ i,q+i=ps.length∧e 1=v∧e 2 = .val (.int .u8 kd)∧e 3=aC ver∧e 4 = .tptr 0 [aC k,aC r,aC c,aC w]∧e 9=aC (i:Nat)∧Hid (pP k r c w ps kd ver i=none)) ps.length ⟨0,by omega,rfl,rfl,rfl,rfl,rfl,⟨rfl⟩⟩ ?_;rintro q e m ⟨i,Y,F,L,J,K,E,hJ⟩;replace Y:=Hid.mk Y;by_cases W:i < ps.length
 ·have C:((i:Nat):Int) < ((ps.length:Nat):Int):=by omega
  have wi:=bY (n:=i) (by have:=hn.out;omega);obtain ⟨p,I⟩:∃ p,ps[i]? = some p:=⟨_,azj W⟩
  have S:ps.getD i ([],[])=p:=by rw [azp,I];rfl
  have g:pP k r c w ps kd ver (i+1)=tB k r c w p (i:Nat) kd ver:=by
   show (pP k r c w ps kd ver i).or _=_;rw [hJ.out,S];rfl
  have z:∀ l,tB k r c w p (i:Nat) kd ver=some l→T=some l:=fun l h=>by
   rw [←x.out];exact ah6 (g.trans h) _ (by omega)
  have A:∀ b:Nat,b < 2→(∀ j,j < b→j4 k r c w (sel p j) (i:Nat) kd ver=false)→j4 k r c w (sel p b) (i:Nat) kd ver=true→T=some (cT k r (sel p b)).vec:=fun b V s t=>z _ (by
   unfold tB;obtain rfl | rfl:b=0∨b=1:=by omega
   ·have t:j4 k r c w p.1 (i:Nat) kd ver=true:=t;rw [if_pos t];rfl
   ·have s:j4 k r c w p.1 (i:Nat) kd ver=false:=s 0 (by omega);have t:j4 k r c w p.2 (i:Nat) kd ver=true:=t;rw [if_neg (by rw [s];decide),if_pos t];rfl)
  have o:(∀ j,j < 2→j4 k r c w (sel p j) (i:Nat) kd ver=false)→pP k r c w ps kd ver (i+1)=none:=fun s=>by
   rw [g];unfold tB;have t:j4 k r c w p.1 (i:Nat) kd ver=false:=s 0 (by omega);have h3:j4 k r c w p.2 (i:Nat) kd ver=false:=s 1 (by omega);rw [if_neg (by rw [t];decide),if_neg (by rw [h3];decide)]
  have N:=fun b V=>U.out I (i:Nat) b V
  clear g z;replace N:=Hid.mk N;replace I:=Hid.mk I;replace S:=Hid.mk S;replace A:=Hid.mk A;replace o:=Hid.mk o;simp only [↓pre,za,pC,nH,simprocAttr,bne,F,E,C,X.rd.len'];rw [bS];refine bU (fun q2 e m=>∃ b,q2+b=2∧e 1=v∧e 2 = .val (.int .u8 kd)∧e 3=aC ver∧e 4 = .tptr 0 [aC k,aC r,aC c,aC w]∧e 9=aC (i:Nat)∧e 10=aC (b:Nat)∧Hid (∀ j,j < b→j4 k r c w (sel p j) (i:Nat) kd ver=false)) 2 ⟨0,by omega,F,L,J,K,E,rfl,⟨fun j hj=>by omega⟩⟩ ?_;clear F L J K E;rintro u e m ⟨b,f,F,L,J,K,E,D,O⟩;replace f:=Hid.mk f;by_cases R:b < 2
  ·have M:((b:Nat):Int) < 2:=by omega
   have wk:=bY (n:=b) (by omega);obtain ⟨vi,a1,a2,a0,i0,ce,st,vv,dv,G,y⟩:=N.out b R;obtain ⟨n1,y1,Z⟩:=y.r1;obtain ⟨n2,y2,g2⟩:=y.r2;have f1:=b6 Z;have f2:=b6 g2;have q1:=bQ Z;have q2:=bQ g2;have t1:=cH Z;have t2:=cH g2;have a:=awM k r c w (sel p b) (i:Nat) kd ver;have P:=y.is;have hR:=fun s t=>A.out b R s t
   have d:j4 k r c w (sel p b) (i:Nat) kd ver=false→∀ j,j < b+1→j4 k r c w (sel p j) (i:Nat) kd ver=false:=fun h j hj=>by
    by_cases e:j=b
    ·subst e;exact h
    ·exact O.out j (by omega)
   simp only [aC] at G;generalize gZ k r c w (sel p b) (i:Nat)=B at *
   generalize j4 k r c w (sel p b) (i:Nat) kd ver=H at *
   replace P:=Hid.mk P;replace hR:=Hid.mk hR;replace d:=Hid.mk d;replace y:=Hid.mk y;simp only [↓pre,zam,pC,nH,simprocAttr,bne,F,K,E,D,M,X.rd.addr',W,R,a1];cases B with
   | false =>
    rw [aBY] at a;replace a:=Hid.mk a
    (first | refine aH (G) (by first | rfl | simp only [aA,aD, *]) ?_ | refine aG (G) (by first | rfl | simp only [aD, *]) (by intro k;first | rfl | simp only [ *,zaa]) ?_);simp only [↓pre,zah,pC,nH,aM,simprocAttr,bne]
    refine oN (by kernel_rfl) ?_;simp only [↓pre,za,pC,nH,simprocAttr,bne,aJ,f1,f2];refine dE (by kernel_rfl) ?_;simp only [↓pre,zah,nH,simprocAttr,bne,F,L,J,K,E,D,wk];exact ⟨u - 1,by have:=f.out;omega,b+1,by have:=f.out;omega,rfl,⟨d.out a.out⟩⟩
   | true =>
    obtain ⟨u1,u2,u3,u4,_⟩:=P.out rfl;rw [aBh,←u1,←u3] at a;replace u1:=Hid.mk u1;replace u2:=Hid.mk u2;replace u3:=Hid.mk u3;replace u4:=Hid.mk u4;by_cases s:a0=kd
    ·by_cases t:st=ver
     ·rw [decide_eq_true s,decide_eq_true t] at a;replace a:=Hid.mk a
      (first | refine aH (G) (by first | rfl | simp only [aA,aD, *]) ?_ | refine aG (G) (by first | rfl | simp only [aD, *]) (by intro k;first | rfl | simp only [ *,zaa]) ?_);simp only [↓pre,zah,pC,nH,aM,simprocAttr,bne,s,t]
      refine oN (by kernel_rfl) ?_;simp only [↓pre,za,pC,nH,simprocAttr,bne,aJ,f1,f2];refine dE (by kernel_rfl) ?_;simp only [↓pre,za,pC,nH,simprocAttr,bne,L,J];exact ⟨0,by rw [hR.out O.out a.out,←u4.out];exact acA Z⟩
     ·rw [decide_eq_true s,decide_eq_false t] at a;replace a:=Hid.mk a
      (first | refine aH (G) (by first | rfl | simp only [aA,aD, *]) ?_ | refine aG (G) (by first | rfl | simp only [aD, *]) (by intro k;first | rfl | simp only [ *,zaa]) ?_);simp only [↓pre,zah,pC,nH,aM,simprocAttr,bne,s]
      refine oN (by kernel_rfl) ?_;simp only [↓pre,za,pC,nH,simprocAttr,bne,aJ,f1,f2];refine dE (by kernel_rfl) ?_;simp only [↓pre,za,pC,nH,simprocAttr,bne,F,L,J,K,E,D,t,wk];exact ⟨u - 1,by have:=f.out;omega,b+1,by have:=f.out;omega,rfl,⟨d.out a.out⟩⟩
    ·rw [decide_eq_false s,aBY] at a;replace a:=Hid.mk a
     (first | refine aH (G) (by first | rfl | simp only [aA,aD, *]) ?_ | refine aG (G) (by first | rfl | simp only [aD, *]) (by intro k;first | rfl | simp only [ *,zaa]) ?_);simp only [↓pre,zah,pC,nH,aM,simprocAttr,bne]
     refine oN (by kernel_rfl) ?_;simp only [↓pre,za,pC,nH,simprocAttr,bne,aJ,f1,f2];refine dE (by kernel_rfl) ?_;simp only [↓pre,za,pC,nH,simprocAttr,bne,F,L,J,K,E,D,s,wk];exact ⟨u - 1,by have:=f.out;omega,b+1,by have:=f.out;omega,rfl,⟨d.out a.out⟩⟩
  ·have M:¬ ((b:Nat):Int) < 2:=by omega
   have V:b=2:=by have:=f.out;omega
   subst V;have Q:=o.out O.out;replace Q:=Hid.mk Q;simp only [↓pre,zah,nH,simprocAttr,bne,F,L,J,K,E,D,wi];exact ⟨q - 1,by have:=Y.out;omega,i+1,by have:=Y.out;omega,rfl,Q⟩
 ·have C:¬ ((i:Nat):Int) < ((ps.length:Nat):Int):=by omega
  have hi:i=ps.length:=by have:=Y.out;omega
  have hT:T=none:=by rw [←x.out];unfold iP;rw [←hi];exact hJ.out
  subst hT;simp only [↓pre,za,pC,nH,simprocAttr,bne,F,E,C,X.rd.len'];exact ⟨0,by unfold tC aN;rw [gB]⟩
theorem awO (k r c w:Int) (p:bO) (ix kd ver:Int):(xE k r c w p ix kd ver = -1∧mW k r c w p ix kd ver=[])∨∃ d:Nat,d < 2∧xE k r c w p ix kd ver=(d:Nat)∧gZ k r c w (sel p d) ix=true∧mW k r c w p ix kd ver=(cT k r (sel p d)).data∧((mW k r c w p ix kd ver).length:Int)=c:=by
 have hs:∀ bs,kU k r c w bs ix kd ver=true→gZ k r c w bs ix=true:=fun bs h=>by
  rw [apc,Bool.and_eq_true] at h;exact h.1
 have e:∀ s,nZ k r c w p ix kd ver=some s→((mW k r c w p ix kd ver).length:Int)=c:=fun s h=>(ah9 h).1
 unfold xE;by_cases a:kU k r c w p.1 ix kd ver=true
 ·refine .inr ⟨0,by omega,by rw [if_pos a];rfl,hs _ a, ?_,e (fX k r c w p.1) (by unfold nZ;rw [if_pos a])⟩;unfold mW;rw [if_pos a];rfl
 ·by_cases b:kU k r c w p.2 ix kd ver=true
  ·refine .inr ⟨1,by omega,by rw [if_neg a,if_pos b];rfl,hs _ b, ?_,e (fX k r c w p.2) (by unfold nZ;rw [if_neg a,if_pos b])⟩;unfold mW;rw [if_neg a,if_pos b];rfl
  ·refine .inl ⟨by rw [if_neg a,if_neg b], ?_⟩;unfold mW;rw [if_neg a,if_neg b]
theorem awP (T:Option (List Int)):aZ (tC T) (T.getD []).length (bK (T.getD [])++[]):=by
 cases T with
 | none=>exact ⟨.inl ⟨rfl,rfl⟩⟩
 | some l=>rw [aBi];exact l7 _ _ _
def vN:Nat→Bool:=fun d=>d != 15
set_option maxHeartbeats 1000000 in
theorem awQ (k r c w kd ver:Int) (v:AV) (ps:List bO) (cells:List AV) (U:fV v ps cells) (hm:bG k r c w=true) (hr:dS k r c ps=true):aR ayS 146 [aA k r c w,v,.val (.int .u8 kd),aC ver] ⟨.tup [.tree ps.length ps.length (fR (iV k r c w ps kd ver) ps.length) true,aC (iZ k r c w ps kd ver:Nat)],[]⟩:=by
 refine d6 ?_;have hp:=U.rd.plain;have a3:=gX hm;obtain ⟨hl,b1⟩:=v7 hr;have u:=ah8 k r c w ps kd ver;have h0:=awN k r c w kd ver v ps cells U hm (by omega);have hN:ps.length≤16:=by omega
 have c4:1≤ps.length:=by omega
 have Q:(iP k r c w ps kd ver).getD []=[]∨((iP k r c w ps kd ver).getD []).length=ps.length:=by
  cases S:iP k r c w ps kd ver with
  | none=>exact .inl rfl
  | some l=>exact .inr (by have:=(ah7 S).1;simp only [aAB];omega)
 have I:∀ (i:Nat) (p:bO) (n:Int),ps[i]? = some p→((iP k r c w ps kd ver).getD [])[i]? = some n→(iV k r c w ps kd ver).getD i []=mW k r c w p (i:Nat) kd n:=fun i p n hi hn=>by
  cases S:iP k r c w ps kd ver with
  | none=>rw [S] at hn;cases hn
  | some l =>
   rw [S] at hn;simp only [aAB] at hn;rw [aib S hi,azp,hn];rfl
 have V:(iP k r c w ps kd ver).getD []=[]→iV k r c w ps kd ver=aBo ps.length []∨(iP k r c w ps kd ver=none):=fun h=>by
  cases S:iP k r c w ps kd ver with
  | none=>exact .inr rfl
  | some l =>
   rw [S] at h;simp only [aAB] at h;have:=(ah7 S).1;rw [h] at this;simp at this;omega
 have F:(iP k r c w ps kd ver).getD []=[]→(∀ n,bW (iV k r c w ps kd ver) n=[]):=fun h n=>by
  rcases V h with h | h
  ·unfold bW;rw [List.filter_eq_nil_iff];intro a _;rw [h,azp,List.getElem?_replicate];split <;> simp
  ·exact aoe h n
 have y:=awP (iP k r c w ps kd ver);generalize c6:(iP k r c w ps kd ver).getD []=lv at *
 generalize tC (iP k r c w ps kd ver)=LV at *
 have b5:=fun m=>ah0 m (n:=ps.length) (by omega)
 have b4:(k+r).toNat=ps.length:=by omega
 unfold iZ;rw [b4];have b9:∀ i p,ps[i]? = some p→∀ (n:Int) (a:AV),cells[i*2]? = some a→True:=fun _ _ _ _ _ _=>trivial
 clear b9 V;generalize c8:iV k r c w ps kd ver=T at *
 have s0:=cH y;have Z:=fun {i p} h ix kk hk=>apd (k:=k) (r:=r) (c:=c) (w:=w) U hm (i:=i) (p:=p) h ix kk hk
 have C:∀ i,i≤ps.length→(∀ j,i≤j→j < ps.length→T.getD j []=[])→fR T i=fR T ps.length∧bW T i=bW T ps.length:=fun i hi h=>by
  constructor
  ·refine aia fun j hj => ?_
   by_cases o:j < i
   ·rw [if_pos o,if_pos (by omega)]
   ·rw [if_neg o,if_pos (by omega),h j (by omega) (by omega)];rfl
  ·obtain ⟨d,hd⟩:∃ d,ps.length=i+d:=⟨ps.length - i,by omega⟩
   rw [hd];have:∀ e,e≤d→bW T (i+e)=bW T i:=fun e=>by
    induction e with
    | zero=>exact fun _=>rfl
    | succ e ih =>
     intro he;rw [←Nat.add_assoc,wV,ih (by omega),h (i+e) (by omega) (by omega)];simp
   exact (this d (ay7 _)).symm
 have G:lv=[]→∀ j,T.getD j []=[]:=fun h j=>by
  by_cases hj:j < ps.length
  ·have:=F h (j+1);rw [wV] at this;by_cases t:(T.getD j []).length≠0
   ·rw [if_pos t] at this;simp at this
   ·exact azY (by omega)
  ·rw [azp,ay3 (by omega)];rfl
 have c3:fR T 0=(List.range ps.length).map fun _=>aN:=by unfold fR;rw [u];apply aAt;intro j _;rw [if_neg (by omega)]
 replace Z:=Hid.mk @Z;replace u:=Hid.mk u;replace a3:=Hid.mk a3;replace b1:=Hid.mk b1;replace Q:=Hid.mk Q;replace I:=Hid.mk I;replace F:=Hid.mk F;replace C:=Hid.mk C;replace G:=Hid.mk G;replace hl:=Hid.mk hl;have a9:¬ (0:Int) ≤ -1:=by decide
 refine bI Tryz.func146 vN (h:=?_);unfold Tryz.f146;simp only [↓pre,za,yD,vN,simprocAttr,aA,bne,b5,U.rd.len']
 (first | refine aH (h0) (by first | rfl | simp only [aD, *]) ?_ | refine aG (h0) (by first | rfl | simp only [aA,aD, *]) (by intro k;first | rfl | simp only [ *,zaa]) ?_);simp only [↓pre,simprocAttr,sx,aE,s0]
 rw [bS];refine bU (fun q e m=>∃ i,q+i=lv.length∧e 1=v∧e 2 = .val (.int .u8 kd)∧e 4 = .tptr 0 [aC k,aC r,aC c,aC w]∧e 10 = .sl 0 0 ps.length ps.length true∧e 11=LV∧e 12=aC ((bW T i).length:Nat)∧e 13=aC (i:Nat)∧Hid (m.at_ 0=some ⟨fR T i,52,.var,true⟩∧0 < m.next)) lv.length ⟨0,by omega,rfl,rfl,rfl,rfl,rfl,rfl,rfl,⟨by rw [aT,if_pos a8.symm,c3],by rw [bM];omega⟩⟩ ?_;rintro q e m ⟨i,Y,e1,e2,e4,a2,L,N,A,hJ⟩;replace Y:=Hid.mk Y;have c1:¬ 0=m.next:=by have:=hJ.out.2;omega
 have W:=hJ.out.1;by_cases J:i < lv.length
 ·have s:((i:Nat):Int) < ((lv.length:Nat):Int):=by omega
  have b3:lv.length=ps.length:=by
   rcases Q.out with h | h
   ·rw [h] at J;exact absurd J (by simp)
   ·exact h
  have wi:=bY (n:=i) (by omega);have B:i < ps.length:=by omega
  obtain ⟨p,K⟩:∃ p,ps[i]? = some p:=⟨_,azj B⟩
  obtain ⟨z,hz⟩:∃ z,lv[i]? = some z:=⟨_,azj J⟩
  obtain ⟨a,b,xa,xb,ha,hb,M,R⟩:=U.at_ i p K;obtain ⟨ht,a7⟩:=rL ha hb;have H:=I.out i p z K hz;have a6:=nB (x:=[]) hz;rw [aBi] at a6;have X:=awL k r c w kd (i:Nat) z a b p xa xb M R hm;have g:=wV T i;have b2:=afd T i;have w2:=bY (n:=(bW T i).length) (by omega);have a4:=fun kk hk=>Z.out K (i:Nat) kk hk
  have c0:i < T.length:=by have:=u.out;omega
  have f:=aoc c0;have c2:i+1≤(fR T i).length:=by rw [afk];omega
  have a0:T.getD i []=[]→fR T i=fR T (i+1):=fun hD=>aia fun j hj=>by
   by_cases e:j=i
   ·subst e;rw [if_neg (by omega),if_pos (by omega),hD];rfl
   ·by_cases e2:j < i
    ·rw [if_pos e2,if_pos (by omega)]
    ·rw [if_neg e2,if_neg (by omega)]
  have pa:=M.plain;have pb:=R.plain;have fa:=b6 M;have fb:=b6 R;have oa:=bQ M;have ob:=bQ R;simp only [aC] at X;replace a0:=Hid.mk a0;replace a4:=Hid.mk a4;replace K:=Hid.mk K;replace hz:=Hid.mk hz;replace b3:=Hid.mk b3;replace b2:=Hid.mk b2;replace u:=Hid.mk u;replace H:=Hid.mk H;rcases awO k r c w p (i:Nat) kd z with ⟨o,t⟩ | ⟨kk,b0,o,t,h3,h4⟩
  ·rw [o] at X;have hD:=H.out.trans t;have a1:=a0.out hD;rw [hD,if_neg (by simp),aBi] at g;replace g:=Hid.mk g;replace hD:=Hid.mk hD;replace o:=Hid.mk o;replace t:=Hid.mk t;replace f:=Hid.mk f;replace a1:=Hid.mk a1;simp only [↓pre,za,yD,vN,simprocAttr,bne,e1,e2,e4,L,A,U.rd.addr',B,ht,a7,s,y.len',y.addr',J,a6]
   (first | refine aH (X) (by first | rfl | simp only [aA,aD, *]) ?_ | refine aG (X) (by first | rfl | simp only [aD, *]) (by intro k;first | rfl | simp only [ *,zaa]) ?_);simp only [↓pre,zah,vN,simprocAttr,bne,e1,e2,e4,a2,L,N,A,a9,wi]
   exact ⟨q - 1,by have:=Y.out;omega,i+1,by have:=Y.out;omega,by rw [g.out],rfl,⟨by rw [W,a1.out],hJ.out.2⟩⟩
  ·rw [o] at X;have P:(T.getD i []).length≠0:=by rw [H.out];have:=a3.out;omega
   rw [if_pos P] at g;have E:(bW T (i+1)).length=(bW T i).length+1:=by rw [g,aAZ];rfl
   obtain ⟨vi,b7,c5,c7,i0,ce,st,vv,dv,hO,O⟩:=a4.out kk b0;obtain ⟨n1,y1,g1⟩:=O.r1;obtain ⟨u1,u2,u3,u4,u5⟩:=O.is t;replace u1:=Hid.mk u1;replace u2:=Hid.mk u2;replace u3:=Hid.mk u3;replace u4:=Hid.mk u4;rw [t] at hO;rw [←h3,←H.out] at u5;subst u5;have a5:fT (T.getD i []) = .tree (T.getD i []).length (T.getD i []).length (aL (T.getD i [])) false:=by unfold fT;rw [if_neg P]
   rw [a5] at f;unfold cP at f;simp only [List.length_cons,List.length_nil,azn] at f;generalize T.getD i []=D at *
   have f1:=b6 g1;have q1:=bQ g1;have t1:=cH g1;have b8:(0:Int)≤((kk:Nat):Int):=by omega
   simp only [aC] at hO;replace g:=Hid.mk g;replace E:=Hid.mk E;replace O:=Hid.mk O;replace o:=Hid.mk o;replace t:=Hid.mk t;replace h3:=Hid.mk h3;replace h4:=Hid.mk h4;replace a5:=Hid.mk a5;replace P:=Hid.mk P;replace hJ:=Hid.mk hJ;simp only [↓pre,za,yD,vN,simprocAttr,bne,e1,e2,e4,L,A,U.rd.addr',B,ht,a7,s,y.len',y.addr',J,a6]
   (first | refine aH (X) (by first | rfl | simp only [aA,aD, *]) ?_ | refine aG (X) (by first | rfl | simp only [aD, *]) (by intro k;first | rfl | simp only [ *,zaa]) ?_);simp only [↓pre,zam,yD,vN,simprocAttr,bne,e1,e4,A,U.rd.addr',B,b8,b0,b7]
   (first | refine aH (hO) (by first | rfl | simp only [aA,aD, *]) ?_ | refine aG (hO) (by first | rfl | simp only [aD, *]) (by intro k;first | rfl | simp only [ *,zaa]) ?_);simp only [↓pre,zah,yD,vN,aM,simprocAttr,bne]
   refine oN (by kernel_rfl) ?_;simp only [↓pre,za,yD,vN,simprocAttr,bne,aJ,f1];refine dE (by kernel_rfl) ?_;simp only [↓pre,zam,yD,vN,simprocAttr,bne,aJ,e1,e2,e4,a2,L,N,A,B,c1,W,c2,f,w2,wi];exact ⟨q - 1,by have:=Y.out;omega,i+1,by have:=Y.out;omega,by rw [E.out],rfl,⟨by simp [aO],by simp [bX]⟩⟩
 ·have s:¬ ((i:Nat):Int) < ((lv.length:Nat):Int):=by omega
  have hi:i=lv.length:=by have:=Y.out;omega
  obtain ⟨o,t⟩:fR T i=fR T ps.length∧bW T i=bW T ps.length:=by
   rcases Q.out with h | h
   ·refine C.out i (by rw [hi,h];simp) fun j _ _=>G.out h j
   ·rw [hi,h];exact ⟨rfl,rfl⟩
  rw [t] at N;replace o:=Hid.mk o;replace t:=Hid.mk t;simp only [↓pre,za,yD,vN,simprocAttr,bne,a2,L,N,A,s,y.len'];exact ⟨1,by rw [j8,dM,aed W (abG _ (by rw [aBu];intro x hx;unfold fR at hx;obtain ⟨j,_,rfl⟩:=List.mem_map.1 hx;split;exact kT (abK _);exact bN _)),aAh,dM,gB,i8,aBu,o.out];rfl⟩
theorem awR (T:List (List UInt8)):aZ (.tree T.length T.length (fR T T.length) true) T.length (fR T T.length):=l7 _ _ _
theorem awS (k r c w kd ver:Int) (v:AV) (ps:List bO) (cells:List AV) (z:fV v ps cells) (B:bG k r c w=true) (A:dS k r c ps=true):aR ayS 204 [aA k r c w,v,.val (.int .u8 kd),aC ver] ⟨wX k r c w ps kd ver,[]⟩:=by
 refine d6 ?_;have I:=z.rd.plain;have e:=jA.1 B;have j:=awQ k r c w kd ver v ps cells z B A;obtain ⟨L,_⟩:=v7 A;obtain ⟨K,o⟩:∃ K:Nat,k=(K:Int):=⟨k.toNat,by omega⟩
 obtain ⟨R,q⟩:∃ R:Nat,r=(R:Int):=⟨r.toNat,by omega⟩
 obtain ⟨C,u⟩:∃ C:Nat,c=(C:Int):=⟨c.toNat,by omega⟩
 have i:(k+r).toNat=K+R:=by omega
 have y:k.toNat=K:=by omega
 have x:c.toNat=C:=by omega
 have t:=ah8 k r c w ps kd ver;have d:=aob k r c w C u ps kd ver;unfold wX;by_cases a:iZ k r c w ps kd ver < k.toNat
 ·have b:((iZ k r c w ps kd ver:Nat):Int) < k:=by omega
  rw [if_pos a];have n:=l7 ps.length (fR (iV k r c w ps kd ver) ps.length) true;have s:=cH n;have g:=fun m=>eW (bN (.slice none 0 0)) (bN (.int .i64 5)) 1 m
  generalize AV.tree ps.length ps.length (fR (iV k r c w ps kd ver) ps.length) true=G at *
  generalize iZ k r c w ps kd ver=E at *
  replace g:=Hid.mk g;replace e:=Hid.mk e;replace d:=Hid.mk d;simp only [aC] at j;refine bI Tryz.func204 aB (h:=?_);unfold Tryz.f204;simp only [↓pre,zab,aeE,simprocAttr,aA,aN]
  (first | refine aH (j) (by first | rfl | simp only [aD, *]) ?_ | refine aG (j) (by first | rfl | simp only [aA,aD, *]) (by intro k;first | rfl | simp only [ *,zaa]) ?_);simp only [↓pre,zad,aeE,simprocAttr,s,b]
  exact ⟨1,g.out _⟩
 ·have b:¬ ((iZ k r c w ps kd ver:Nat):Int) < k:=by omega
  rw [if_neg a];have l:=awK (.tree ps.length ps.length (fR (iV k r c w ps kd ver) ps.length) true) K R C (iV k r c w ps kd ver) _ (aod _ _ (by have:=awR (iV k r c w ps kd ver);rw [t] at this ⊢;exact this)) (by omega) d (by omega) (by omega) (by omega) (by omega) (by omega) (by unfold iZ at a;rw [i] at a;omega);have p:abA K ((bW (iV k r c w ps kd ver) (K+R)).take K) (gK (iV k r c w ps kd ver))=oA k r c w ps kd ver:=by unfold oA;rw [i,y]
  rw [p,←o,←q] at l;rw [i,x];have f:bD (K+R) (eP C (oA k r c w ps kd ver) 0 (K+R)) = .tree (K+R) (K+R) (eP C (oA k r c w ps kd ver) 0 (K+R)) false:=by unfold bD;rw [if_neg (by omega)]
  rw [f];have n:=l7 ps.length (fR (iV k r c w ps kd ver) ps.length) true;have s:=cH n;have H:=n.plain;have D:=l7 (K+R) (eP C (oA k r c w ps kd ver) 0 (K+R)) false;have F:=cH D;have g:=fun m=>eW (kT D) (bN (.int .i64 0)) 1 m
  generalize AV.tree ps.length ps.length (fR (iV k r c w ps kd ver) ps.length) true=G at *
  generalize AV.tree (K+R) (K+R) (eP C (oA k r c w ps kd ver) 0 (K+R)) false=J at *
  generalize iZ k r c w ps kd ver=E at *
  replace g:=Hid.mk g;replace e:=Hid.mk e;replace d:=Hid.mk d;replace p:=Hid.mk p;replace f:=Hid.mk f;replace o:=Hid.mk o;replace q:=Hid.mk q;replace u:=Hid.mk u;replace a:=Hid.mk a;simp only [aC] at j l;refine bI Tryz.func204 aB (h:=?_);unfold Tryz.f204;simp only [↓pre,zab,aeE,simprocAttr,aA]
  (first | refine aH (j) (by first | rfl | simp only [aD, *]) ?_ | refine aG (j) (by first | rfl | simp only [aA,aD, *]) (by intro k;first | rfl | simp only [ *,zaa]) ?_);simp only [↓pre,zad,aeE,simprocAttr,s,b]
  (first | refine aH (l) (by first | rfl | simp only [aD, *]) ?_ | refine aG (l) (by first | rfl | simp only [aA,aD, *]) (by intro k;first | rfl | simp only [ *,zaa]) ?_);simp only [↓pre,zab,simprocAttr,F]
  exact ⟨1,g.out _⟩
theorem ait (k r c w kd ver:Int) (v:AV) (ps:List bO) (cells:List AV) (X:fV v ps cells) (T:bG k r c w=true) (hr:dS k r c ps=true):aR ayS 116 [aA k r c w,v,.val (.int .u8 kd),aC ver] ⟨qQ k r c w ps kd ver,[]⟩:=by
 refine d6 ?_;have hp:=X.rd.plain;have g:=awS k r c w kd ver v ps cells X T hr;have o:=jA.1 T;have V:=g9 T;unfold qQ;unfold wX at g;by_cases j:iZ k r c w ps kd ver < k.toNat
 ·rw [if_pos j] at g ⊢;have P:=fun m=>eW (bN (.slice none 0 0)) (bN (.int .i64 5)) 1 m
  replace P:=Hid.mk P;simp only [aN] at g;refine bI Tryz.func116 aB (h:=?_);unfold Tryz.f116;simp only [↓pre,zab,aew,simprocAttr,aA,aN]
  (first | refine aH (g) (by first | rfl | simp only [aD, *]) ?_ | refine aG (g) (by first | rfl | simp only [aA,aD, *]) (by intro k;first | rfl | simp only [ *,zaa]) ?_);simp only [↓pre,zad,simprocAttr]
  exact ⟨1,P.out _⟩
 ·rw [if_neg j] at g ⊢;obtain ⟨K,Y⟩:∃ K:Nat,k=(K:Int):=⟨k.toNat,by omega⟩
  obtain ⟨C,hC⟩:∃ C:Nat,c=(C:Int):=⟨c.toNat,by omega⟩
  have z:k.toNat=K:=by omega
  have x:c.toNat=C:=by omega
  have a2:K≤(k+r).toNat:=by omega
  rw [z,x];rw [x] at g;have u:=dY (k+r).toNat (eP C (oA k r c w ps kd ver) 0 (k+r).toNat);have l:=aic k r c w ps kd ver;have p:=wY k r c w ps kd ver;rw [x] at l p;have f:=fun i (h:i < (k+r).toNat)=>aff (L:=C) (F:=oA k r c w ps kd ver) (a:=0) h
  have B:k*c=((K*C:Nat):Int):=by rw [Y,hC];simp
  have U:K*C≤768:=by omega
  have a0:32≤K*C:=by omega
  have a1:=u.plain;have s1:=cH u;generalize bD (k+r).toNat (eP C (oA k r c w ps kd ver) 0 (k+r).toNat)=WV at *
  generalize oA k r c w ps kd ver=W at *
  generalize mE k r c w ps kd ver=D at *
  have Q:D 0=[]:=azY (by rw [p];omega);subst Y;simp only [aC] at g;replace l:=Hid.mk l;replace p:=Hid.mk p;replace f:=Hid.mk f;replace j:=Hid.mk j;replace B:=Hid.mk B;replace o:=Hid.mk o;replace V:=Hid.mk V;replace z:=Hid.mk z;refine bI Tryz.func116 aB (h:=?_);unfold Tryz.f116;simp only [↓pre,zab,aew,simprocAttr,aA]
  (first | refine aH (g) (by first | rfl | simp only [aD, *]) ?_ | refine aG (g) (by first | rfl | simp only [aA,aD, *]) (by intro k;first | rfl | simp only [ *,zaa]) ?_);simp only [↓pre,zad,simprocAttr,s1]
  rw [bS];refine bU (fun q e m=>∃ i lv,q+i=K∧e 4 = .tptr 0 [aC ((K:Nat):Int),aC r,aC c,aC w]∧e 10=WV∧e 12=lv∧e 13=aC (i:Nat)∧Hid (Own m 5 1 lv (i*C) (aL (D i)))) K ⟨0,aN,by omega,rfl,rfl,rfl,rfl,⟨by rw [Q,Nat.zero_mul];exact fC⟩⟩ ?_;rintro q e m ⟨i,lv,J,R,M,E,t,hJ⟩;replace J:=Hid.mk J;by_cases Z:i < K
  ·have d:((i:Nat):Int) < ((K:Nat):Int):=by omega
   have wi:=bY (n:=i) (by have:=o.out;omega);have A:i < (((K:Nat):Int)+r).toNat:=by omega
   have I:=f.out i A;rw [azn] at I;have a3:i*C+C≤768:=by
    have:(i+1)*C≤K*C:=Nat.mul_le_mul_right _ (by omega);rw [Nat.add_mul,Nat.one_mul] at this;omega
   have a4:8≤C:=by have:=o.out;omega
   have H:∀ m:aF,f9 ayS 5 1 m (.tree C C (aY C (W i)) true)=some (aY C (W i),C):=fun m=>by
    rw [acz (by rw [eK];omega),azD,aA7 (by rw [eK];omega)]
   have O:=l.out i;simp only [↓pre,zag,aew,simprocAttr,R,M,E,t,d,u.addr',A,I];refine pA (kd := .flat) (sz:=1) (y:=1) (zl:=[.int .u8 0]) (by kernel_rfl) hJ.out (by kernel_rfl) (by kernel_rfl) (by kernel_rfl) rfl (H m) (by rw [eK,azD]) (by omega) (by omega) ?_;intro G m' N a5;have s:Own m' 5 1 G ((i+1)*C) (aL (D (i+1))):=by
    rw [O,rQ,Nat.add_mul,Nat.one_mul];exact N
   replace s:=Hid.mk s;clear N;simp only [↓pre,zab,simprocAttr,R,M,t,wi];exact ⟨q - 1,by have:=J.out;omega,i+1,G,by have:=J.out;omega,rfl,rfl,s⟩
  ·have d:¬ ((i:Nat):Int) < ((K:Nat):Int):=by omega
   have hi:i=K:=by have:=J.out;omega
   subst hi;obtain ⟨b,rfl,hb,_⟩:=hJ.out.sl (by omega);have S:bD (i*C) (aL (D i)) = .tree (i*C) (i*C) (aL (D i)) false:=by unfold bD;rw [if_neg (by omega)]
   rw [S];simp only [↓pre,zad,aew,simprocAttr,R,E,t,d];exact ⟨1,by rw [j8,dM,uC hb,aAh,dM,gB,i8,aBu];rfl⟩
theorem aiu (k r c w n:Int):aR ayS 312 [aA k r c w,aC n] ⟨aC (oE k r c w n),[]⟩:=by
 have a:=nA k r c w;unfold oE;cases f:bG k r c w with
 | false =>
  rw [f] at a;simp only [Bool.false_eq_true,if_false];refine aX Tryz.func312 aB (h:=?_);unfold Tryz.f312;simp only [↓pre,zab,abn,simprocAttr,aA]
  (first | refine aH (a) (by first | rfl | simp only [aA,aD, *]) ?_ | refine aG (a) (by first | rfl | simp only [aA,aD, *]) (by intro k;first | rfl | simp only [ *,zaa]) ?_);simp only [↓pre,zad,simprocAttr]
 | true =>
  have e:=abq k r c w f;rw [f] at a;simp only [if_true];by_cases b:n < 0
  ·simp only [b,if_true];refine aX Tryz.func312 aB (h:=?_);unfold Tryz.f312;simp only [↓pre,zab,abn,simprocAttr,aA]
   (first | refine aH (a) (by first | rfl | simp only [aA,aD, *]) ?_ | refine aG (a) (by first | rfl | simp only [aA,aD, *]) (by intro k;first | rfl | simp only [ *,zaa]) ?_);simp only [↓pre,zad,simprocAttr,b]
  ·by_cases d:mI k c < n
   ·simp only [b,d,if_true,if_false];refine aX Tryz.func312 aB (h:=?_);unfold Tryz.f312;simp only [↓pre,zab,abn,simprocAttr,aA]
    (first | refine aH (a) (by first | rfl | simp only [aA,aD, *]) ?_ | refine aG (a) (by first | rfl | simp only [aA,aD, *]) (by intro k;first | rfl | simp only [ *,zaa]) ?_);simp only [↓pre,zad,abn,simprocAttr,b];(first | refine aH (e) (by first | rfl | simp only [aA,aD, *]) ?_ | refine aG (e) (by first | rfl | simp only [aA,aD, *]) (by intro k;first | rfl | simp only [ *,zaa]) ?_);simp only [↓pre,zad,simprocAttr,d]
   ·simp only [b,d,if_false];refine aX Tryz.func312 aB (h:=?_);unfold Tryz.f312;simp only [↓pre,zab,abn,simprocAttr,aA]
    (first | refine aH (a) (by first | rfl | simp only [aA,aD, *]) ?_ | refine aG (a) (by first | rfl | simp only [aA,aD, *]) (by intro k;first | rfl | simp only [ *,zaa]) ?_);simp only [↓pre,zad,abn,simprocAttr,b];(first | refine aH (e) (by first | rfl | simp only [aA,aD, *]) ?_ | refine aG (e) (by first | rfl | simp only [aA,aD, *]) (by intro k;first | rfl | simp only [ *,zaa]) ?_);simp only [↓pre,zad,simprocAttr,d]
theorem adp {k r c w n:Int} (h:oE k r c w n=0):bG k r c w=true∧0≤n∧n≤mI k c:=by
 unfold oE at h;split at h
 ·rename_i a;split at h
  ·omega
  ·split at h
   ·omega
   ·exact ⟨a,by omega,by omega⟩
 ·omega
theorem awT (k r c w n:Int):aR ayS 262 [aA k r c w,aC n] ⟨.tup [aC (oS k r c w n),aC (oE k r c w n)],[]⟩:=by
 have a:=aiu k r c w n;unfold oS;by_cases h:oE k r c w n=0
 ·obtain ⟨f,e,b⟩:=adp h;have d:=aeS k r c w n f e b;rw [h] at a ⊢;rw [if_pos rfl];clear h;refine aX Tryz.func262 aB (h:=?_);unfold Tryz.f262;simp only [↓pre,zab,ahi,simprocAttr,aA,eq_self]
  (first | refine aH (a) (by first | rfl | simp only [aA,aD, *]) ?_ | refine aG (a) (by first | rfl | simp only [aA,aD, *]) (by intro k;first | rfl | simp only [ *,zaa]) ?_);simp only [↓pre,zab,ahi,fO,simprocAttr,eq_self];(first | refine aH (d) (by first | rfl | simp only [aA,aD, *]) ?_ | refine aG (d) (by first | rfl | simp only [aA,aD, *]) (by intro k;first | rfl | simp only [ *,zaa]) ?_);simp only [↓pre,zab,simprocAttr,eq_self]
 ·rw [if_neg h];refine aX Tryz.func262 aB (h:=?_);unfold Tryz.f262;simp only [↓pre,zab,ahi,simprocAttr,aA,eq_self]
  (first | refine aH (a) (by first | rfl | simp only [aA,aD, *]) ?_ | refine aG (a) (by first | rfl | simp only [aA,aD, *]) (by intro k;first | rfl | simp only [ *,zaa]) ?_);simp only [↓pre,zab,iS,simprocAttr,eq_self,h]
theorem awU (k r c w n:Int):aR ayS 263 [aA k r c w,aC n] ⟨.tup [aC (min (oF k r c w n) 1),aC (oE k r c w n)],[]⟩:=by
 have a:=aiu k r c w n;unfold oF;by_cases h:oE k r c w n=0
 ·obtain ⟨f,e,b⟩:=adp h;have d:=aeS k r c w n f e b;rw [h] at a ⊢;rw [if_pos rfl];clear h;refine aX Tryz.func263 aB (h:=?_);unfold Tryz.f263;simp only [↓pre,zab,ahj,simprocAttr,aA,eq_self]
  (first | refine aH (a) (by first | rfl | simp only [aA,aD, *]) ?_ | refine aG (a) (by first | rfl | simp only [aA,aD, *]) (by intro k;first | rfl | simp only [ *,zaa]) ?_);simp only [↓pre,zab,ahj,fO,simprocAttr,eq_self];(first | refine aH (d) (by first | rfl | simp only [aA,aD, *]) ?_ | refine aG (d) (by first | rfl | simp only [aA,aD, *]) (by intro k;first | rfl | simp only [ *,zaa]) ?_);simp only [↓pre,zab,simprocAttr,eq_self]
 ·rw [if_neg h,show min (0:Int) 1=0 from rfl];refine aX Tryz.func263 aB (h:=?_);unfold Tryz.f263;simp only [↓pre,zab,ahj,simprocAttr,aA,eq_self]
  (first | refine aH (a) (by first | rfl | simp only [aA,aD, *]) ?_ | refine aG (a) (by first | rfl | simp only [aA,aD, *]) (by intro k;first | rfl | simp only [ *,zaa]) ?_);simp only [↓pre,zab,iS,simprocAttr,eq_self,h]
theorem awV (k r c w n:Int):aR ayS 264 [aA k r c w,aC n] ⟨.tup [aC (oF k r c w n),aC (oE k r c w n)],[]⟩:=by
 have a:=aiu k r c w n;unfold oF;by_cases h:oE k r c w n=0
 ·obtain ⟨f,e,b⟩:=adp h;have d:=aeS k r c w n f e b;rw [h] at a ⊢;rw [if_pos rfl];clear h;refine aX Tryz.func264 aB (h:=?_);unfold Tryz.f264;simp only [↓pre,zab,ahk,simprocAttr,aA,eq_self]
  (first | refine aH (a) (by first | rfl | simp only [aA,aD, *]) ?_ | refine aG (a) (by first | rfl | simp only [aA,aD, *]) (by intro k;first | rfl | simp only [ *,zaa]) ?_);simp only [↓pre,zab,ahk,fO,simprocAttr,eq_self];(first | refine aH (d) (by first | rfl | simp only [aA,aD, *]) ?_ | refine aG (d) (by first | rfl | simp only [aA,aD, *]) (by intro k;first | rfl | simp only [ *,zaa]) ?_);simp only [↓pre,zab,simprocAttr,eq_self]
 ·rw [if_neg h];refine aX Tryz.func264 aB (h:=?_);unfold Tryz.f264;simp only [↓pre,zab,ahk,simprocAttr,aA,eq_self]
  (first | refine aH (a) (by first | rfl | simp only [aA,aD, *]) ?_ | refine aG (a) (by first | rfl | simp only [aA,aD, *]) (by intro k;first | rfl | simp only [ *,zaa]) ?_);simp only [↓pre,zab,iS,simprocAttr,eq_self,h]
theorem awW (k r c w:Int) (x:bJ):aR ayS 303 [aA k r c w,.agg [aC x.1,aC x.2]] ⟨aV (jP w x),[]⟩:=by
 have b:jP w x=decide ((0≤x.1∧x.1 < w)∧1≤x.2∧x.2≤1073741824):=rfl;generalize jP w x=B at *
 replace b:=Hid.mk b;by_cases d:0≤x.1
 ·by_cases e:x.1 < w
  ·by_cases f:1≤x.2
   ·by_cases g:x.2≤1073741824
    ·have a:B=true:=by rw [b.out];simp;omega
     subst a;refine aX Tryz.func303 aB (h:=?_);unfold Tryz.f303;simp only [↓pre,zad,acO,simprocAttr,aA,d,e,f,g]
    ·have a:B=false:=by rw [b.out];simp;omega
     subst a;refine aX Tryz.func303 aB (h:=?_);unfold Tryz.f303;simp only [↓pre,zad,acO,simprocAttr,aA,d,e,f,g]
   ·have a:B=false:=by rw [b.out];simp;omega
    subst a;refine aX Tryz.func303 aB (h:=?_);unfold Tryz.f303;simp only [↓pre,zad,acO,simprocAttr,aA,d,e,f]
  ·have a:B=false:=by rw [b.out];simp;omega
   subst a;refine aX Tryz.func303 aB (h:=?_);unfold Tryz.f303;simp only [↓pre,zad,acO,simprocAttr,aA,d,e]
 ·have a:B=false:=by rw [b.out];simp;omega
  subst a;refine aX Tryz.func303 aB (h:=?_);unfold Tryz.f303;simp only [↓pre,zad,acO,simprocAttr,aA,d]
theorem ape (k r c w:Int) (v:AV) (l:List bJ) (p:qR v l) (N:l.length≤9223372036854775807):aR ayS 247 [aA k r c w,v] ⟨aV (kF w l),[]⟩:=by
 obtain ⟨x,p⟩:=p;have O:=p.plain;generalize d:kF w l=B;have t:=fun y=>awW k r c w y
 replace d:=Hid.mk d;replace t:=Hid.mk t;refine aX Tryz.func247 aB (h:=?_);unfold Tryz.f247;simp only [↓pre,zad,aeF,simprocAttr,aA];rw [bS];refine bU (fun q e m=>∃ i,q+i=l.length∧e 1=v∧e 2 = .tptr 0 [aC k,aC r,aC c,aC w]∧e 5=aC (i:Nat)∧Hid (∀ j y,j < i→l[j]? = some y→jP w y=true)) l.length ⟨0,by omega,rfl,rfl,rfl,⟨fun j y h=>by omega⟩⟩ ?_;rintro q e m ⟨i,D,C,G,A,I⟩;replace D:=Hid.mk D;by_cases s:i < l.length
 ·have f:((i:Nat):Int) < ((l.length:Nat):Int):=by omega
  have K:=bY (n:=i) (by omega);obtain ⟨y,o⟩:∃ y,l[i]? = some y:=⟨_,azj s⟩
  obtain ⟨L,M⟩:=xA l x i y o;obtain ⟨E,z⟩:=rL L M;have b:=t.out y;simp only [aC] at E b;cases g:jP w y with
  | false =>
   have H:B=false:=by
    rw [←d.out];unfold kF;rw [List.all_eq_false];exact ⟨y,az5 o,by rw [g];decide⟩
   subst H;rw [g] at b;replace g:=Hid.mk g;replace o:=Hid.mk o;simp only [↓pre,zag,aeF,simprocAttr,C,G,A,f,p.len',p.addr',s,E,z]
   (first | refine aH (b) (by first | rfl | simp only [aA,aD, *]) ?_ | refine aG (b) (by first | rfl | simp only [aA,aD, *]) (by intro k;first | rfl | simp only [ *,zaa]) ?_);simp only [↓pre,zad,simprocAttr]
  | true =>
   have a:∀ j y,j < i+1→l[j]? = some y→jP w y=true:=fun j J F u=>by
    by_cases e:j=i
    ·subst e;rw [o] at u;cases u;exact g
    ·exact I.out j J (by omega) u
   rw [g] at b;replace g:=Hid.mk g;replace o:=Hid.mk o;replace a:=Hid.mk a;simp only [↓pre,zag,aeF,simprocAttr,C,G,A,f,p.len',p.addr',s,E,z]
   (first | refine aH (b) (by first | rfl | simp only [aA,aD, *]) ?_ | refine aG (b) (by first | rfl | simp only [aA,aD, *]) (by intro k;first | rfl | simp only [ *,zaa]) ?_);simp only [↓pre,zad,simprocAttr,C,G,A,K]
   exact ⟨q - 1,by have:=D.out;omega,i+1,by have:=D.out;omega,rfl,a⟩
 ·have f:¬ ((i:Nat):Int) < ((l.length:Nat):Int):=by omega
  have g:B=true:=by
   rw [←d.out];unfold kF;rw [List.all_eq_true];intro y o;obtain ⟨j,F⟩:=aBg o;have:=(ay5.1 F).1;exact I.out j y (by omega) F
  subst g;simp only [↓pre,zag,aeF,simprocAttr,C,A,f,p.len']
theorem awX (k r c w len dep:Int) (D:bG k r c w=true) (v:AV) (l:List bJ) (p:qR v l) (F:l.length≤9223372036854775807):aR ayS 207 [aA k r c w,.agg [aC len,aC dep,v]] ⟨aV (rR k r c w len dep l),[]⟩:=by
 have e:=abq k r c w D;have j:=awT k r c w len;have g:=awU k r c w len;have i:=awV k r c w len;have A:=ape k r c w v l p F;have b:=ac9 (n:=len) D;obtain ⟨x,p⟩:=p;have H:=p.plain;have z:=b6 p;have G:=bQ p;generalize a:rR k r c w len dep l=B;unfold rR at a;have y:oE k r c w len=if len < 0 then 2 else if mI k c < len then 3 else 0:=by unfold oE;rw [if_pos D]
 by_cases o:len < 0
 ·rw [if_pos o] at y;rw [y] at a;simp only [show ¬ (2:Int)=0 by decide,decide_false,aBY] at a;subst a;clear y;refine aX Tryz.func207 aB (h:=?_);unfold Tryz.f207;simp only [↓pre,zad,eZ,simprocAttr,aA,z,o]
 ·by_cases u:mI k c < len
  ·rw [if_neg o,if_pos u] at y;rw [y] at a;simp only [show ¬ (3:Int)=0 by decide,decide_false,aBY] at a;subst a;clear y;refine aX Tryz.func207 aB (h:=?_);unfold Tryz.f207;simp only [↓pre,zad,eZ,simprocAttr,aA,z,o]
   (first | refine aH (e) (by first | rfl | simp only [aA,aD, *]) ?_ | refine aG (e) (by first | rfl | simp only [aA,aD, *]) (by intro k;first | rfl | simp only [ *,zaa]) ?_);simp only [↓pre,zad,simprocAttr,u]
  ·rw [if_neg o,if_neg u] at y;rw [y] at a;simp only [decide_true,aBh] at a;rw [y] at j g i;clear y;generalize oF k r c w len=f at *
   generalize oS k r c w len=s at *
   generalize kF w l=E at *
   obtain ⟨d,q⟩:∃ d,min f 1=d:=⟨_,rfl⟩
   rw [q] at g a;by_cases C:dep=d
   ·rw [decide_eq_true C.symm,aBh] at a;subst C;by_cases m:dep=1
    ·rw [if_pos m] at a;by_cases t:(l.length:Int)=f
     ·rw [decide_eq_true t,aBh] at a;subst a;replace b:=Hid.mk b;replace q:=Hid.mk q;cases E with
      | true =>
       refine aX Tryz.func207 aB (h:=?_);unfold Tryz.f207;simp only [↓pre,zad,eZ,simprocAttr,aA,z,o]
       (first | refine aH (e) (by first | rfl | simp only [aA,aD, *]) ?_ | refine aG (e) (by first | rfl | simp only [aA,aD, *]) (by intro k;first | rfl | simp only [ *,zaa]) ?_);simp only [↓pre,zad,eZ,simprocAttr,u,m];(first | refine aH (j) (by first | rfl | simp only [aA,aD, *]) ?_ | refine aG (j) (by first | rfl | simp only [aA,aD, *]) (by intro k;first | rfl | simp only [ *,zaa]) ?_);simp only [↓pre,zab,eZ,simprocAttr];(first | refine aH (g) (by first | rfl | simp only [aA,aD, *]) ?_ | refine aG (g) (by first | rfl | simp only [aA,aD, *]) (by intro k;first | rfl | simp only [ *,zaa]) ?_);simp only [↓pre,zab,eZ,simprocAttr,m];(first | refine aH (i) (by first | rfl | simp only [aA,aD, *]) ?_ | refine aG (i) (by first | rfl | simp only [aA,aD, *]) (by intro k;first | rfl | simp only [ *,zaa]) ?_);simp only [↓pre,zag,eZ,simprocAttr,t,p.len'];(first | refine aH (A) (by first | rfl | simp only [aD, *]) ?_ | refine aG (A) (by first | rfl | simp only [aA,aD, *]) (by intro k;first | rfl | simp only [ *,zaa]) ?_);simp only [↓pre,zad,simprocAttr]
      | false =>
       refine aX Tryz.func207 aB (h:=?_);unfold Tryz.f207;simp only [↓pre,zad,eZ,simprocAttr,aA,z,o]
       (first | refine aH (e) (by first | rfl | simp only [aA,aD, *]) ?_ | refine aG (e) (by first | rfl | simp only [aA,aD, *]) (by intro k;first | rfl | simp only [ *,zaa]) ?_);simp only [↓pre,zad,eZ,simprocAttr,u,m];(first | refine aH (j) (by first | rfl | simp only [aA,aD, *]) ?_ | refine aG (j) (by first | rfl | simp only [aA,aD, *]) (by intro k;first | rfl | simp only [ *,zaa]) ?_);simp only [↓pre,zab,eZ,simprocAttr];(first | refine aH (g) (by first | rfl | simp only [aA,aD, *]) ?_ | refine aG (g) (by first | rfl | simp only [aA,aD, *]) (by intro k;first | rfl | simp only [ *,zaa]) ?_);simp only [↓pre,zab,eZ,simprocAttr,m];(first | refine aH (i) (by first | rfl | simp only [aA,aD, *]) ?_ | refine aG (i) (by first | rfl | simp only [aA,aD, *]) (by intro k;first | rfl | simp only [ *,zaa]) ?_);simp only [↓pre,zag,eZ,simprocAttr,t,p.len'];(first | refine aH (A) (by first | rfl | simp only [aD, *]) ?_ | refine aG (A) (by first | rfl | simp only [aA,aD, *]) (by intro k;first | rfl | simp only [ *,zaa]) ?_);simp only [↓pre,zad,simprocAttr]
     ·rw [decide_eq_false t,aBY] at a;subst a;replace b:=Hid.mk b;replace q:=Hid.mk q;refine aX Tryz.func207 aB (h:=?_);unfold Tryz.f207;simp only [↓pre,zad,eZ,simprocAttr,aA,z,o]
      (first | refine aH (e) (by first | rfl | simp only [aA,aD, *]) ?_ | refine aG (e) (by first | rfl | simp only [aA,aD, *]) (by intro k;first | rfl | simp only [ *,zaa]) ?_);simp only [↓pre,zad,eZ,simprocAttr,u,m];(first | refine aH (j) (by first | rfl | simp only [aA,aD, *]) ?_ | refine aG (j) (by first | rfl | simp only [aA,aD, *]) (by intro k;first | rfl | simp only [ *,zaa]) ?_);simp only [↓pre,zab,eZ,simprocAttr];(first | refine aH (g) (by first | rfl | simp only [aA,aD, *]) ?_ | refine aG (g) (by first | rfl | simp only [aA,aD, *]) (by intro k;first | rfl | simp only [ *,zaa]) ?_);simp only [↓pre,zab,eZ,simprocAttr,m];(first | refine aH (i) (by first | rfl | simp only [aA,aD, *]) ?_ | refine aG (i) (by first | rfl | simp only [aA,aD, *]) (by intro k;first | rfl | simp only [ *,zaa]) ?_);simp only [↓pre,zag,eZ,simprocAttr,t,p.len']
    ·rw [if_neg m] at a;by_cases t:(l.length:Int)=s
     ·rw [decide_eq_true t,aBh] at a;subst a;replace b:=Hid.mk b;replace q:=Hid.mk q;cases E with
      | true =>
       refine aX Tryz.func207 aB (h:=?_);unfold Tryz.f207;simp only [↓pre,zad,eZ,simprocAttr,aA,z,o]
       (first | refine aH (e) (by first | rfl | simp only [aA,aD, *]) ?_ | refine aG (e) (by first | rfl | simp only [aA,aD, *]) (by intro k;first | rfl | simp only [ *,zaa]) ?_);simp only [↓pre,zad,eZ,simprocAttr,u];(first | refine aH (j) (by first | rfl | simp only [aA,aD, *]) ?_ | refine aG (j) (by first | rfl | simp only [aA,aD, *]) (by intro k;first | rfl | simp only [ *,zaa]) ?_);simp only [↓pre,zab,eZ,simprocAttr];(first | refine aH (g) (by first | rfl | simp only [aA,aD, *]) ?_ | refine aG (g) (by first | rfl | simp only [aA,aD, *]) (by intro k;first | rfl | simp only [ *,zaa]) ?_);simp only [↓pre,zab,eZ,simprocAttr];(first | refine aH (i) (by first | rfl | simp only [aA,aD, *]) ?_ | refine aG (i) (by first | rfl | simp only [aA,aD, *]) (by intro k;first | rfl | simp only [ *,zaa]) ?_);simp only [↓pre,zag,eZ,simprocAttr,m,t,p.len'];(first | refine aH (A) (by first | rfl | simp only [aD, *]) ?_ | refine aG (A) (by first | rfl | simp only [aA,aD, *]) (by intro k;first | rfl | simp only [ *,zaa]) ?_);simp only [↓pre,zad,simprocAttr]
      | false =>
       refine aX Tryz.func207 aB (h:=?_);unfold Tryz.f207;simp only [↓pre,zad,eZ,simprocAttr,aA,z,o]
       (first | refine aH (e) (by first | rfl | simp only [aA,aD, *]) ?_ | refine aG (e) (by first | rfl | simp only [aA,aD, *]) (by intro k;first | rfl | simp only [ *,zaa]) ?_);simp only [↓pre,zad,eZ,simprocAttr,u];(first | refine aH (j) (by first | rfl | simp only [aA,aD, *]) ?_ | refine aG (j) (by first | rfl | simp only [aA,aD, *]) (by intro k;first | rfl | simp only [ *,zaa]) ?_);simp only [↓pre,zab,eZ,simprocAttr];(first | refine aH (g) (by first | rfl | simp only [aA,aD, *]) ?_ | refine aG (g) (by first | rfl | simp only [aA,aD, *]) (by intro k;first | rfl | simp only [ *,zaa]) ?_);simp only [↓pre,zab,eZ,simprocAttr];(first | refine aH (i) (by first | rfl | simp only [aA,aD, *]) ?_ | refine aG (i) (by first | rfl | simp only [aA,aD, *]) (by intro k;first | rfl | simp only [ *,zaa]) ?_);simp only [↓pre,zag,eZ,simprocAttr,m,t,p.len'];(first | refine aH (A) (by first | rfl | simp only [aD, *]) ?_ | refine aG (A) (by first | rfl | simp only [aA,aD, *]) (by intro k;first | rfl | simp only [ *,zaa]) ?_);simp only [↓pre,zad,simprocAttr]
     ·rw [decide_eq_false t,aBY] at a;subst a;replace b:=Hid.mk b;replace q:=Hid.mk q;refine aX Tryz.func207 aB (h:=?_);unfold Tryz.f207;simp only [↓pre,zad,eZ,simprocAttr,aA,z,o]
      (first | refine aH (e) (by first | rfl | simp only [aA,aD, *]) ?_ | refine aG (e) (by first | rfl | simp only [aA,aD, *]) (by intro k;first | rfl | simp only [ *,zaa]) ?_);simp only [↓pre,zad,eZ,simprocAttr,u];(first | refine aH (j) (by first | rfl | simp only [aA,aD, *]) ?_ | refine aG (j) (by first | rfl | simp only [aA,aD, *]) (by intro k;first | rfl | simp only [ *,zaa]) ?_);simp only [↓pre,zab,eZ,simprocAttr];(first | refine aH (g) (by first | rfl | simp only [aA,aD, *]) ?_ | refine aG (g) (by first | rfl | simp only [aA,aD, *]) (by intro k;first | rfl | simp only [ *,zaa]) ?_);simp only [↓pre,zab,eZ,simprocAttr];(first | refine aH (i) (by first | rfl | simp only [aA,aD, *]) ?_ | refine aG (i) (by first | rfl | simp only [aA,aD, *]) (by intro k;first | rfl | simp only [ *,zaa]) ?_);simp only [↓pre,zag,eZ,simprocAttr,m,t,p.len']
   ·rw [decide_eq_false (fun h=>C h.symm),aBY] at a;subst a;replace b:=Hid.mk b;replace q:=Hid.mk q;by_cases m:d=1
    ·have C:¬ dep=1:=by rw [←m];exact C
     refine aX Tryz.func207 aB (h:=?_);unfold Tryz.f207;simp only [↓pre,zad,eZ,simprocAttr,aA,z,o]
     (first | refine aH (e) (by first | rfl | simp only [aA,aD, *]) ?_ | refine aG (e) (by first | rfl | simp only [aA,aD, *]) (by intro k;first | rfl | simp only [ *,zaa]) ?_);simp only [↓pre,zad,eZ,simprocAttr,u];(first | refine aH (j) (by first | rfl | simp only [aA,aD, *]) ?_ | refine aG (j) (by first | rfl | simp only [aA,aD, *]) (by intro k;first | rfl | simp only [ *,zaa]) ?_);simp only [↓pre,zab,eZ,simprocAttr];(first | refine aH (g) (by first | rfl | simp only [aA,aD, *]) ?_ | refine aG (g) (by first | rfl | simp only [aA,aD, *]) (by intro k;first | rfl | simp only [ *,zaa]) ?_);simp only [↓pre,zab,eZ,simprocAttr,m];(first | refine aH (i) (by first | rfl | simp only [aA,aD, *]) ?_ | refine aG (i) (by first | rfl | simp only [aA,aD, *]) (by intro k;first | rfl | simp only [ *,zaa]) ?_);simp only [↓pre,zad,eZ,simprocAttr,C]
    ·refine aX Tryz.func207 aB (h:=?_);unfold Tryz.f207;simp only [↓pre,zad,eZ,simprocAttr,aA,z,o]
     (first | refine aH (e) (by first | rfl | simp only [aA,aD, *]) ?_ | refine aG (e) (by first | rfl | simp only [aA,aD, *]) (by intro k;first | rfl | simp only [ *,zaa]) ?_);simp only [↓pre,zad,eZ,simprocAttr,u];(first | refine aH (j) (by first | rfl | simp only [aA,aD, *]) ?_ | refine aG (j) (by first | rfl | simp only [aA,aD, *]) (by intro k;first | rfl | simp only [ *,zaa]) ?_);simp only [↓pre,zab,eZ,simprocAttr];(first | refine aH (g) (by first | rfl | simp only [aA,aD, *]) ?_ | refine aG (g) (by first | rfl | simp only [aA,aD, *]) (by intro k;first | rfl | simp only [ *,zaa]) ?_);simp only [↓pre,zab,eZ,simprocAttr];(first | refine aH (i) (by first | rfl | simp only [aA,aD, *]) ?_ | refine aG (i) (by first | rfl | simp only [aA,aD, *]) (by intro k;first | rfl | simp only [ *,zaa]) ?_);simp only [↓pre,zad,eZ,simprocAttr,C,m]
theorem afF (v:AV) (n:Nat) (bs:List UInt8) (x:List AV) (g:aZ v n (aL bs++x)) (A:n≤bs.length) (y:n≤4):aR ayS 205 [v] ⟨aC (dL (bs.take n):Nat),[]⟩:=by
 have C:=g.plain;refine aX Tryz.func205 aB (h:=?_);unfold Tryz.f205;simp only [↓pre,simprocAttr,sx];rw [bS];refine bU (fun q e m=>∃ i,q+i=n∧e 0=v∧e 4=aC (i:Nat)∧e 3=aC (dL (bs.take i):Nat)) n ⟨0,by omega,rfl,rfl,by simp [bB.set,aC,dL]⟩ ?_;rintro q e m ⟨i,hi,p,r,o⟩;replace hi:=Hid.mk hi;by_cases j:i < n
 ·have b:((i:Nat):Int) < ((n:Nat):Int):=by omega
  obtain ⟨a,s⟩:∃ a,bs[i]? = some a:=⟨_,azj (by omega)⟩
  have t:=iE (x:=x) s;have l:=aeT s;have f:=z6 i bs;have c:=a.toNat_lt;have w1:=bY (n:=i) (by omega);have d:256 ^ i≤256 ^ 3:=Nat.pow_le_pow_right (by decide) (by omega);have B:256 ^ 3=16777216:=by decide
  have u:azv.wrap (a.toNat:Int)=(a.toNat:Int):=cD (by omega);have z:azv.wrap (256*((dL (bs.take i):Nat):Int))=((dL (bs.take i)*256:Nat):Int):=by
   rw [show (256*((dL (bs.take i):Nat):Int))=((dL (bs.take i)*256:Nat):Int) by omega];exact cD (by omega)
  have w:azv.wrap (((dL (bs.take i)*256:Nat):Int)+(a.toNat:Int))=((dL (bs.take i)*256+a.toNat:Nat):Int):=by
   rw [←aCb];exact cD (by omega)
  replace f:=Hid.mk f;replace d:=Hid.mk d;replace c:=Hid.mk c;replace l:=Hid.mk l;simp only [↓pre,zae,amp,bE,azD,iS,simprocAttr,p,r,o,b,g.len',g.addr',j,t,w1,u,z,w];exact ⟨q - 1,by have:=hi.out;omega,i+1,by have:=hi.out;omega,rfl,by rw [l.out]⟩
 ·have b:¬ ((i:Nat):Int) < ((n:Nat):Int):=by omega
  have k:i=n:=by have:=hi.out;omega
  subst k;simp only [↓pre,zae,amp,fO,simprocAttr,p,r,o,b,g.len']
theorem apf (v:AV) (bs:List UInt8) (x:List AV) (n:Nat) (f:aZ v bs.length (aL bs++x)) (N:6*n≤bs.length) (O:bs.length≤100000):aR ayS 206 [v,aC (n:Nat)] ⟨bD n (cA (dP bs n)),[]⟩:=by
 refine d6 ?_;refine bI Tryz.func206 aB (h:=?_);unfold Tryz.f206;simp only [↓pre,simprocAttr,sx];rw [bS];refine bU (fun q e m=>∃ i lv,q+i=n∧e 0=v∧e 1=aC (n:Nat)∧e 5=lv∧e 6=aC (i:Nat)∧Hid (Own m 67 2 lv i (cA (dP bs i)))) n ⟨0,aN,by omega,rfl,rfl,rfl,rfl,⟨fC⟩⟩ ?_;rintro q e m ⟨i,lv,d,j,p,u,g,C⟩;replace d:=Hid.mk d;by_cases D:i < n
 ·have a:((i:Nat):Int) < ((n:Nat):Int):=by omega
  have H:=bY (n:=i) (by omega);have w1:azv.wrap (6*((i:Nat):Int))=((6*i:Nat):Int):=by rw [show 6*((i:Nat):Int)=((6*i:Nat):Int) by omega];exact cD (by omega)
  have z:azv.wrap (((6*i:Nat):Int)+2)=((6*i+2:Nat):Int):=by rw [show ((6*i:Nat):Int)+2=((6*i+2:Nat):Int) by omega];exact cD (by omega)
  have I:azv.wrap (((6*i:Nat):Int)+6)=((6*i+6:Nat):Int):=by rw [show ((6*i:Nat):Int)+6=((6*i+6:Nat):Int) by omega];exact cD (by omega)
  obtain ⟨F,J,r1⟩:=f.slice (P:=ayS) (t:=52) (sz:=1) (lo:=some (6*i)) (hi:=some (6*i+2)) (by kernel_rfl) (by simp) (by simp only [aAB];omega);obtain ⟨E,G,r2⟩:=f.slice (P:=ayS) (t:=52) (sz:=1) (lo:=some (6*i+2)) (hi:=some (6*i+6)) (by kernel_rfl) (by simp) (by simp only [aAB];omega);simp only [aAB,azD] at r1 r2;rw [show 6*i+2 - 6*i=2 by omega,qK _ x _ (by omega)] at r1;rw [show 6*i+6 - (6*i+2)=4 by omega,qK _ x _ (by omega)] at r2;have A:=afF F 2 (bs.drop (6*i)) x r1 (by rw [aA9];omega) (by omega);have B:=afF E 4 (bs.drop (6*i+2)) x r2 (by rw [aA9];omega) (by omega);have L:=r1.plain;have K:=r2.plain;have c:=aor bs i;have b:afq bs i=(((dL ((bs.drop (6*i)).take 2):Nat):Int),((dL ((bs.drop (6*i+2)).take 4):Nat):Int)):=rfl;generalize dL ((bs.drop (6*i)).take 2)=s at *
  generalize dL ((bs.drop (6*i+2)).take 4)=w at *
  replace c:=Hid.mk c;replace b:=Hid.mk b;replace r1:=Hid.mk r1;replace r2:=Hid.mk r2;have l:∀ m,gF ayS m 31 1 [(0,.agg [.val (.int .i64 (s:Nat)),.val (.int .i64 (w:Nat))])]=some ⟨.tree 1 1 [.val (.int .i64 (s:Nat)),.val (.int .i64 (w:Nat))] true,m,none⟩:=fun m=>ad7 rfl rfl (by kernel_rfl) (by kernel_rfl)
  simp only [↓pre,zag,aBa,simprocAttr,dB,j,p,u,g,f.sliceX,w1,z,J,a]
  (first | refine aH (A) (by first | rfl | simp only [aD, *]) ?_ | refine aG (A) (by first | rfl | simp only [aD, *]) (by intro k;first | rfl | simp only [ *,zaa]) ?_);simp only [↓pre,zae,aBa,simprocAttr,dB,j,g,f.sliceX,w1,z,I,G];(first | refine aH (B) (by first | rfl | simp only [aD, *]) ?_ | refine aG (B) (by first | rfl | simp only [aD, *]) (by intro k;first | rfl | simp only [ *,zaa]) ?_);simp only [↓pre,zab,asl,bE,simprocAttr,l]
  refine pA (sz:=2) (y:=16) (zl:=[.int .i64 0,.int .i64 0]) (by kernel_rfl) C.out (by kernel_rfl) (by kernel_rfl) (by kernel_rfl) rfl zQ rfl (by omega) (by omega) ?_;intro o m' r M;refine dE (by kernel_rfl) ?_;simp only [↓pre,zab,simprocAttr,j,p,g,H];refine ⟨q - 1,by have:=d.out;omega,i+1,o,by have:=d.out;omega,rfl,rfl,⟨?_⟩⟩;rw [c.out,afn,b.out];exact r
 ·have a:¬ ((i:Nat):Int) < ((n:Nat):Int):=by omega
  have hi:i=n:=by have:=d.out;omega
  subst hi;simp only [↓pre,zad,simprocAttr,p,u,g,a];exact ⟨0,vK C.out 0⟩
theorem aiv (N c:Nat):cR ((N:Nat):Int) (c+1)=azN (N / 256 ^ c)::cR ((N:Nat):Int) c:=by
 have h:(((N:Nat):Int) / 2 ^ (8*c)).toNat=N / 256 ^ c:=by
  have:((2:Int) ^ (8*c))=((256 ^ c:Nat):Int):=by
   rw [Int.pow_mul,Int.natCast_pow];rfl
  rw [this,←Int.natCast_ediv,Int.toNat_natCast]
 show azN (((N:Nat):Int) / 2 ^ (8*c)).toNat::_=_;rw [h]
theorem apg (N:Nat):∀ (c j:Nat),j < c→(cR ((N:Nat):Int) c).drop j=azN (N / 256 ^ (c - 1 - j))::(cR ((N:Nat):Int) c).drop (j+1)
 | 0,j,h=>by omega
 | c+1,0,h=>by rw [aiv];rfl
 | c+1,j+1,h=>by
  rw [aiv,aAH,aAH,apg N c j (by omega),show c+1 - 1 - (j+1)=c - 1 - j by omega]
theorem afG (N c:Nat) (H:N≤1073741824) (J:c≤4):aR ayS 257 [aC (N:Nat),aC (c:Nat)] ⟨.tree c c (aL (cR (N:Nat) c)) true,[]⟩:=by
 refine d6 ?_;have v:=fun m=>rN m (n:=c) (by omega)
 have b:=kV ((N:Nat):Int) c;have g:=apg N c;have F:=aoi c;generalize cR ((N:Nat):Int) c=B at *
 replace g:=Hid.mk g;replace b:=Hid.mk b;have w0:azv.wrap (((c:Nat):Int) - 1)=((c:Nat):Int) - 1:=eD (by omega) (by omega);refine bI Tryz.func257 aB (h:=?_);unfold Tryz.f257;simp only [↓pre,zae,simprocAttr,v,w0];rw [bS];refine bU (fun q e m=>q≤c∧e 0=aC ((N / 256 ^ (c - q):Nat):Int)∧e 5 = .sl 0 0 c c true∧e 6=aC (((q:Nat):Int) - 1)∧Hid (m.at_ 0=some ⟨aL (aBo q 0++B.drop q),5,.flat,true⟩)) c ⟨ay7 _,by rw [Nat.sub_self,Nat.pow_zero,Nat.div_one];rfl,rfl,rfl,⟨by rw [aT,if_pos a8.symm,F,List.drop_of_length_le (by have:=b.out;omega),aBi]⟩⟩ ?_;rintro q e m ⟨i,z,y,u,r⟩;replace i:=Hid.mk i;cases q with
 | zero =>
  have D:¬ (0:Int)≤((0:Nat):Int) - 1:=by omega
  have s:=r.out;rw [aBu] at s;simp only [↓pre,zad,simprocAttr,y,u];exact ⟨0,by rw [uC s,aBu];rfl⟩
 | succ d =>
  have p:(0:Int)≤((d:Nat):Int):=by omega
  rw [show ((d+1:Nat):Int) - 1=((d:Nat):Int) by omega] at u;have C:azv.wrap (((d:Nat):Int) - 1)=((d:Nat):Int) - 1:=eD (by omega) (by have:=i.out;omega);obtain ⟨Z,k⟩:∃ Z,N / 256 ^ (c - (d+1))=Z:=⟨_,rfl⟩
  have o:Z≤N:=by rw [←k];exact Nat.div_le_self _ _
  have t:N / 256 ^ (c - d)=Z / 256:=by rw [←k,Nat.div_div_eq_div_mul,←Nat.pow_succ,show (c - (d+1)).succ=c - d by have:=i.out;omega]
  have f:=g.out d (by have:=i.out;omega);rw [show c - 1 - d=c - (d+1) by omega,k] at f;rw [k] at z;have w:d < c:=by have:=i.out;omega
  have wr:IntKind.u8.wrap (((Z:Nat):Int).tmod 256)=((azN Z).toNat:Int):=by
   have j:((Z:Nat):Int).tmod 256=((Z % 256:Nat):Int):=by rw [Int.tmod_eq_emod_of_nonneg (by omega)];omega
   rw [j,ad5];congr 2;exact UInt8.ofNat_mod_size
  have E:azv.wrap (((Z:Nat):Int).tdiv 256)=((Z / 256:Nat):Int):=by
   have j:((Z:Nat):Int).tdiv 256=((Z / 256:Nat):Int):=by rw [Int.tdiv_eq_ediv_of_nonneg (by omega)];omega
   rw [j];exact cD (by omega)
  have s:=r.out;have a:(aL (aBo (d+1) 0++B.drop (d+1))).length=c:=by rw [iB,aAZ,aCc,aA9];have:=b.out;omega
  have x:d+1≤(aL (aBo (d+1) 0++B.drop (d+1))).length:=by rw [a];omega
  have l:aB8 d (aL (aBo (d+1) 0++B.drop (d+1)))++[AV.val (.int .u8 ((azN Z).toNat:Int))]++aB9 (d+1) (aL (aBo (d+1) 0++B.drop (d+1)))=aL (aBo d 0++B.drop d):=by
   rw [f,List.replicate_succ',rQ,rQ,rQ];have j:(aL (aBo d 0)).length=d:=by rw [iB,aCc]
   have G:(aL (aBo d 0)++aL [0]).length=d+1:=by rw [aAZ,j];rfl
   rw [azT (aL (aBo d 0)),List.take_left' j,←azT,List.drop_left' G];unfold aL;rw [List.map_cons,azT];rfl
  generalize A:aL (aBo (d+1) 0++B.drop (d+1))=I at *
  replace k:=Hid.mk k;replace f:=Hid.mk f;replace A:=Hid.mk A;replace a:=Hid.mk a;replace r:=Hid.mk r;replace o:=Hid.mk o;simp only [↓pre,zag,ast,bH,bE,simprocAttr,aJ,z,y,u,p,C,w,wr,E,s,x,l];exact ⟨d,by omega,by have:=i.out;omega,by rw [t],rfl,⟨by simp [aO]⟩⟩
end Go.Proofs.YtaekhhlgnbhnpaaGreat