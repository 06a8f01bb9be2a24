import Derived.Test.YtaekhhlgnbhnpaaGreatNzcG20
import Derived.Test.YtaekhhlgnbhnpaaGreatNzcG18
import Derived.Test.YtaekhhlgnbhnpaaGreatNzcG09
import Derived.Test.YtaekhhlgnbhnpaaGreatNzcG19
import Derived.Test.YtaekhhlgnbhnpaaGreatNzcG11
set_option linter.defProp false
set_option linter.unusedVariables false
set_option linter.unusedSimpArgs false
set_option maxRecDepth 10000
open BitVec renaming toNat_ofNat→aAV
open Bool renaming false_eq_true→azx,and_eq_true→aAn
open Go.IntKind renaming i64→azv,bits→aAP,signed→aAQ
open Go.Proofs.Tryz renaming prog→ayS
open Int renaming toNat_natCast→aA8,toNat_of_nonneg→aB0
open List renaming mem_cons→az4,not_mem_nil→aBT,drop_zero→aBu,length_drop→aA9,append_nil→aBi,length_append→aAZ,eq_nil_of_length_eq_zero→azY,all_eq_true→aAr,getElem?_eq_getElem→azj,mem_of_getElem?→az5,getElem?_eq_some_iff→ay5,take_of_length_le→aA7,range→aAm,getElem?_map→azl,flatMap_cons→aBC,length_cons→aAC,getD_eq_getElem?_getD→azp,getElem?_drop→aAs,ext_getElem?→aAf,getElem?_eq_none→ay3,any_eq_true→aA5,getElem?_take→azE,mem_range→aAw
open Nat renaming mul_one→azD,reduceEqDiff→aBS,le_refl→ay7,one_ne_zero→aBj,zero_ne_one→aBd,mul_le_mul_right→azC,add_mul→azX,one_mul→aBW,mul_le_mul→aBZ,xor_assoc→aB1,testBit_mod_two_pow→aB2,mod_eq_of_lt→aAW,xor_lt_two_pow→aB3,shiftLeft_eq→aB4,pow_le_pow_right→aB5,and_one_is_mod→aB6,testBit_eq_decide_div_mod_eq→aB7
open Option renaming getD_some→aAB,getD_none→aAA,map_none→aBa,bind_some→aAh
open UInt8 renaming ofNat→azN
namespace Go.Proofs.YtaekhhlgnbhnpaaGreat
open Go Go.Tw Go.Proofs Go.Gf
def pN (bs:List UInt8):Nat:=dL ((bs.drop 5).take 2)
def cK (bs:List UInt8):Int:=(dL (bs.take 4):Nat)
def dQ (bs:List UInt8):Int:=(dL ((bs.drop 4).take 1):Nat)
def cY (bs:List UInt8):List bJ:=dP (bs.drop 7) (pN bs)
def rT (k r c w:Int) (bs:List UInt8):Bool:=decide (7+6*pN bs≤bs.length) && (decide (kW k r c w (cK bs) (dQ bs) (cY bs)=0) && decide (lM k c (cK bs) (dQ bs) (cY bs)=bs))
def mX (k r c w:Int) (bs:List UInt8):Int:=if bG k r c w=true then (if (bs.length:Int)=wI k c then (if rT k r c w bs=true then 0 else 150) else 20) else 2
def rU (len dep:Int) (l:List bJ):AV := .agg [aC len,aC dep,bD l.length (cA l)]
def oX:AV := .agg [aC 0,aC 0,aN]
def abO (k r c w:Int) (bs:List UInt8):AV:=if mX k r c w bs=0 then rU (cK bs) (dQ bs) (cY bs) else oX
theorem avH (e:Int) (k:Nat) (m:aF):fzT k m (.tup [oX,aC e])=some (.tup [oX,aC e]):=eW (wW fun c a=>by
 simp only [az4,aBT,or_false] at a;rcases a with rfl | rfl | rfl <;> exact bN _) (bN _) k m
theorem aow (len dep:Int) (l:List bJ):eH (rU len dep l):=wW fun c a=>by
 simp only [az4,aBT,or_false] at a;rcases a with rfl | rfl | rfl
 ·exact bN _
 ·exact bN _
 ·exact kT (dY _ _)
def nF:Nat→Bool:=fun d=>d != 4 && d != 7
def PaQ (E c d:Int) (b:List bJ) (a:AV) (m:aF):Prop:=(E=0∧∃ u,a = .tup [.agg [aC c,aC d,u],aC 0]∧Own m 67 2 u b.length (cA b))∨(E≠0∧a = .tup [.agg [.val (.int .i64 0),.val (.int .i64 0),.val (.slice none 0 0)],.val (.int .i64 E)])
theorem avI (k r c w:Int) (v:AV) (bs:List UInt8) (x:List AV) (hv:aZ v bs.length (aL bs++x)):fH ayS 92 [aA k r c w,v] aF.empty (PaQ (mX k r c w bs) (cK bs) (dQ bs) (cY bs)):=by
 have hp:=hv.plain
 have h1:=aot k r c w v bs.length _ hv
 by_cases hg:bG k r c w=true∧(bs.length:Int)=wI k c
 ·obtain ⟨hm,hl⟩:=hg
  rw [if_pos hm,if_pos hl] at h1
  have hw:=g9 hm
  have hbl:bs.length≤768∧32≤bs.length:=by unfold wI at hl;omega
  have hE:mX k r c w bs=if rT k r c w bs=true then 0 else 150:=by unfold mX;rw [if_pos hm,if_pos hl]
  rw [hE]
  obtain ⟨v1,s1,r1⟩:=hv.slice (P:=ayS) (t:=52) (sz:=1) (lo:=none) (hi:=some 4) (by kernel_rfl) (by simp) (by simp only [aAB];omega)
  obtain ⟨v2,s2,r2⟩:=hv.slice (P:=ayS) (t:=52) (sz:=1) (lo:=some 4) (hi:=some 5) (by kernel_rfl) (by simp) (by simp only [aAB];omega)
  obtain ⟨v3,s3,r3⟩:=hv.slice (P:=ayS) (t:=52) (sz:=1) (lo:=some 5) (hi:=some 7) (by kernel_rfl) (by simp) (by simp only [aAB];omega)
  obtain ⟨v4,s4,r4⟩:=hv.slice (P:=ayS) (t:=52) (sz:=1) (lo:=some 7) (hi:=none) (by kernel_rfl) (by simp only [aAB,aAA];omega) (by simp)
  simp only [aAB,aAA,azD,Nat.sub_zero,aBu] at r1 r2 r3 r4
  rw [qK _ x 4 (by omega)] at r2
  rw [qK _ x 5 (by omega)] at r3
  rw [qK _ x 7 (by omega),←aA9] at r4
  have c1:=adg v1 4 bs x r1 (by omega) (by omega)
  have c2:=adg v2 1 (bs.drop 4) x r2 (by rw [aA9];omega) (by omega)
  have c3:=adg v3 2 (bs.drop 5) x r3 (by rw [aA9];omega) (by omega)
  have pl1:=r1.plain
  have pl2:=r2.plain
  have pl3:=r3.plain
  have pl4:=r4.plain
  have hn2:pN bs < 65536:=z6 2 (bs.drop 5)
  rw [show dL ((bs.drop 5).take 2)=pN bs from rfl] at c3
  rw [show ((dL (bs.take 4):Nat):Int)=cK bs from rfl] at c1
  rw [show ((dL ((bs.drop 4).take 1):Nat):Int)=dQ bs from rfl] at c2
  have n4:jW (.val (.int .i64 4))=some 4:=rfl
  have n5:jW (.val (.int .i64 5))=some 5:=rfl
  have n7:jW (.val (.int .i64 7))=some 7:=rfl
  have w1:azv.wrap (6*((pN bs:Nat):Int))=((6*pN bs:Nat):Int):=by rw [show 6*((pN bs:Nat):Int)=((6*pN bs:Nat):Int) by simp];exact cD (by omega)
  have w2:azv.wrap (7+((6*pN bs:Nat):Int))=((7+6*pN bs:Nat):Int):=by rw [show 7+((6*pN bs:Nat):Int)=((7+6*pN bs:Nat):Int) by simp];exact cD (by omega)
  have hso:=fun m=>hv.slOk (P:=ayS) (m:=m) (t:=52)
  have hsx:=fun d c m lo hi mx=>hv.sliceX (P:=ayS) (m:=m) (t:=52) (d:=d) (c:=c) (lo:=lo) (hi:=hi) (mx:=mx)
  replace hE:=Hid.mk hE
  refine bI Tryz.func92 nF (h:=?_);unfold Tryz.f92
  simp only [↓pre,zah,uD,nF,aM,a8,simprocAttr,aA,bne,aBS]
  (first | refine aH (h1) (by first | rfl | simp only [aD, *]) ?_ | refine aG (h1) (by first | rfl | simp only [aA,aD, *]) (by intro k;first | rfl | simp only [ *,zaa]) ?_);simp only [↓pre,zaj,nF,aBa,simprocAttr,bne,dB,aBS,n4,hsx,s1];(first | refine aH (c1) (by first | rfl | simp only [aD, *]) ?_ | refine aG (c1) (by first | rfl | simp only [aD, *]) (by intro k;first | rfl | simp only [ *,zaa]) ?_);simp only [↓pre,zah,nF,aBa,simprocAttr,bne,dB,aBS,n4,n5,hsx,s2];(first | refine aH (c2) (by first | rfl | simp only [aD, *]) ?_ | refine aG (c2) (by first | rfl | simp only [aD, *]) (by intro k;first | rfl | simp only [ *,zaa]) ?_);simp only [↓pre,zaj,uD,nF,aM,simprocAttr,bne,aBS]
  refine dE (by kernel_rfl) ?_
  simp only [↓pre,zaj,uD,nF,simprocAttr,bne,aJ,aBS]
  refine dE (by kernel_rfl) ?_
  by_cases hfit:7+6*pN bs≤bs.length
  ·have hfit':¬ ((bs.length:Nat):Int) < ((7+6*pN bs:Nat):Int):=by omega
   have c4:=avG v4 (bs.drop 7) x (pN bs) r4 (by rw [aA9];omega) (by rw [aA9];omega)
   rw [show dP (bs.drop 7) (pN bs)=cY bs from rfl] at c4
   have hpl:(cY bs).length=pN bs:=abN _ _
   have c5:=avE k r c w (cK bs) (dQ bs) (bD (cY bs).length (cA (cY bs))) (cY bs) ⟨[],by rw [aBi];exact dY _ _⟩ (by omega)
   have c6:=aov (.tree (lM k c (cK bs) (dQ bs) (cY bs)).length (lM k c (cK bs) (dQ bs) (cY bs)).length (aL (lM k c (cK bs) (dQ bs) (cY bs))) true) v (lM k c (cK bs) (dQ bs) (cY bs)) bs [] x ⟨.inr (.inr ⟨_,true,by rw [aBi],ay7 _⟩)⟩ hv
   have hml:(lM k c (cK bs) (dQ bs) (cY bs)).length≠0:=by
    unfold lM pQ oW
    simp only [aAZ,kV]
    omega
   have hok:rT k r c w bs=(decide (kW k r c w (cK bs) (dQ bs) (cY bs)=0) && decide (lM k c (cK bs) (dQ bs) (cY bs)=bs)):=by unfold rT;rw [decide_eq_true hfit];rfl
   rw [hok]
   unfold afp at c5
   replace hpl:=Hid.mk hpl
   generalize lM k c (cK bs) (dQ bs) (cY bs)=MB at *
   generalize kW k r c w (cK bs) (dQ bs) (cY bs)=CK at *
   generalize cY bs=PR at *
   generalize cK bs=PL at *
   generalize dQ bs=PD at *
   replace hok:=Hid.mk hok
   replace hfit:=Hid.mk hfit
   simp only [↓pre,zah,nF,aBa,simprocAttr,bne,dB,aBS,n5,n7,hsx,s3]
   (first | refine aH (c3) (by first | rfl | simp only [aD, *]) ?_ | refine aG (c3) (by first | rfl | simp only [aA,aD, *]) (by intro k;first | rfl | simp only [ *,zaa]) ?_);simp only [↓pre,zaj,uD,nF,aBa,simprocAttr,bne,dB,aBS,n7,hsx,s4,w1,w2,hv.len',hfit']
   refine ade (fun a=>a) c4 (qE 3 _ (by simp [c9,plain,pl4])).1 (fun _ _=>rfl) (fun _ _=>by simp [jX]) fun a m1 hN => ?_
   rcases hN.form with ⟨rfl,rfl,rfl⟩ | ⟨rfl,h0,rfl⟩
   all_goals clear hN
   all_goals (
    try replace h0:=Hid.mk h0
    simp only [↓pre,zaj,uD,nF,aBj,simprocAttr,bne,aJ,aBS]
    refine avz c5 (by first | (simp [d9,lend,aA,aC,bD,aN];done) | simp [d9,lend,aA,aC,bD,aO,aT,bX,bM,a8,h0.out]) fun b m2 hN2 => ?_
    by_cases hck:CK=0
    ·rw [if_pos hck] at hN2
     rcases hN2.form with ⟨_,h3,_⟩ | ⟨rfl,h3,rfl⟩
     ·rw [h3] at hml
      exact absurd rfl hml
     ·replace h3:=Hid.mk h3
      simp only [↓pre,zaj,nF,simprocAttr,bne,aBS,hck]
      refine xX c6 (by simp [d9,lend,aT,bX,bM,a8,(uW 3 _ hp).1]) rfl rfl ?_
      by_cases heq:MB=bs
      ·simp only [↓pre,zaj,uD,nF,aBd,simprocAttr,bne,aJ,aBS,heq]
       first | exact .inl ⟨rfl,_,rfl,fC⟩ | exact .inl ⟨rfl,_,rfl,⟨.inr ⟨2,rfl,by simp [aO,aT,bX,bM,a8],by simp [bX,bM,a8],Nat.pos_of_ne_zero h0.out⟩,tD _⟩⟩
      ·simp only [↓pre,zaj,uD,nF,aBd,simprocAttr,bne,aJ,aBS,heq]
       exact .inr ⟨by decide,rfl⟩
    ·rw [if_neg hck] at hN2
     rcases hN2.form with ⟨rfl,_,rfl⟩ | ⟨_,h3,_⟩
     ·simp only [↓pre,zaj,uD,nF,aBd,simprocAttr,bne,aJ,aBS,hck]
      exact .inr ⟨by decide,rfl⟩
     ·exact absurd rfl h3)
  ·have hfit':((bs.length:Nat):Int) < ((7+6*pN bs:Nat):Int):=by omega
   have hok:rT k r c w bs=false:=by unfold rT;rw [decide_eq_false hfit];rfl
   rw [hok,if_neg (by decide)]
   replace hok:=Hid.mk hok
   replace hfit:=Hid.mk hfit
   simp only [↓pre,zah,nF,aBa,simprocAttr,bne,dB,aBS,n5,n7,hsx,s3]
   (first | refine aH (c3) (by first | rfl | simp only [aD, *]) ?_ | refine aG (c3) (by first | rfl | simp only [aA,aD, *]) (by intro k;first | rfl | simp only [ *,zaa]) ?_);simp only [↓pre,zaj,uD,nF,aBd,simprocAttr,bne,aJ,aBS,w1,w2,hv.len',hfit']
   exact .inr ⟨by decide,rfl⟩
 ·have hE:mX k r c w bs=(if bG k r c w=true then (if (bs.length:Int)=wI k c then 0 else 20) else 2):=by
   unfold mX
   by_cases hm:bG k r c w=true
   ·rw [if_pos hm,if_pos hm,if_neg (fun h=>hg ⟨hm,h⟩),if_neg (fun h=>hg ⟨hm,h⟩)]
   ·rw [if_neg hm,if_neg hm]
  have hne:mX k r c w bs≠0:=by
   rw [hE]
   by_cases hm:bG k r c w=true
   ·rw [if_pos hm,if_neg (fun h=>hg ⟨hm,h⟩)];decide
   ·rw [if_neg hm];decide
  rw [←hE] at h1
  replace hE:=Hid.mk hE
  generalize mX k r c w bs=PE at *
  refine bI Tryz.func92 nF (h:=?_);unfold Tryz.f92
  simp only [↓pre,zah,uD,nF,aM,a8,simprocAttr,aA,bne,aBS]
  (first | refine aH (h1) (by first | rfl | simp only [aD, *]) ?_ | refine aG (h1) (by first | rfl | simp only [aA,aD, *]) (by intro k;first | rfl | simp only [ *,zaa]) ?_);simp only [↓pre,zaj,uD,nF,simprocAttr,bne,aJ,aBS,hne]
  exact .inr ⟨hne,rfl⟩
def aii (E c d:Int) (b:List bJ):fF:=if E=0 then rS (fun a => .tup [.agg [aC c,aC d,a],aC 0]) b else ⟨.tup [oX,aC E],[]⟩
theorem avJ (k r c w:Int) (v:AV) (bs:List UInt8) (x:List AV) (d:aZ v bs.length (aL bs++x)):aR ayS 92 [aA k r c w,v] (aii (mX k r c w bs) (cK bs) (dQ bs) (cY bs)):=aam (sK (avI k r c w v bs x d) fun a m h=>by
 unfold aii;rcases h with ⟨h,u,rfl,b⟩ | ⟨h,rfl⟩
 ·rw [h,if_pos rfl];exact avB b
 ·rw [if_neg h];simp [jQ,jG,canon,gP,oX,aC,aN])
theorem yR {v:AV} {n:Nat} {cs:List AV} (h:aZ v n cs):v.cells=[v]:=by
 rcases h.form with ⟨rfl,_⟩ | ⟨_,_,rfl,_⟩ | ⟨_,_,rfl,_⟩ <;> rfl
theorem yS {v:AV} {n:Nat} {cs:List AV} (h:aZ v n cs):g8 v=true:=by
 rcases h.form with ⟨rfl,_⟩ | ⟨_,_,rfl,_⟩ | ⟨_,_,rfl,_⟩ <;> rfl
abbrev afr (k r c w:Int) (v:AV):AV := .agg [.val (.int .i64 k),.val (.int .i64 r),.val (.int .i64 c),.val (.int .i64 w),v]
theorem avK (k r c w:Int) (v:AV) (n:Nat) (cs:List AV) (i:aZ v n cs) (g:FuncId) (a:Int) (f:Bool) (e:Int) (b:aR ayS g [afr k r c w v] ⟨.tup [aC a,aV f,aC e],[]⟩):aR ayS 87 [afr k r c w v,.clo g []] ⟨.tup [aC (if e=0 then (if f=true then a else 0) else 0),aC e],[]⟩:=by
 have j:=b6 i;have l:=bQ i;have m:=i.plain;by_cases d:e=0
 ·subst d;rw [if_pos rfl];cases f with
  | true =>
   rw [if_pos rfl];refine aX Tryz.func87 aB (h:=?_);unfold Tryz.f87;simp only [↓pre,zab,ag7,simprocAttr,j]
   (first | refine aH (b) (by first | rfl | simp only [aD, *]) ?_ | refine aG (b) (by first | rfl | simp only [aA,aD, *]) (by intro k;first | rfl | simp only [ *,zaa]) ?_);simp only [↓pre,zad,simprocAttr]
  | false =>
   rw [if_neg (by decide)];refine aX Tryz.func87 aB (h:=?_);unfold Tryz.f87;simp only [↓pre,zab,ag7,simprocAttr,j]
   (first | refine aH (b) (by first | rfl | simp only [aD, *]) ?_ | refine aG (b) (by first | rfl | simp only [aA,aD, *]) (by intro k;first | rfl | simp only [ *,zaa]) ?_);simp only [↓pre,zad,simprocAttr]
 ·rw [if_neg d];refine aX Tryz.func87 aB (h:=?_);unfold Tryz.f87;simp only [↓pre,zab,ag7,simprocAttr,j]
  (first | refine aH (b) (by first | rfl | simp only [aD, *]) ?_ | refine aG (b) (by first | rfl | simp only [aA,aD, *]) (by intro k;first | rfl | simp only [ *,zaa]) ?_);simp only [↓pre,zad,simprocAttr,d]
theorem avL (k r c w:Int) (v:AV) (ps:List bO) (cells:List AV) (d:fV v ps cells):aR ayS 88 [afr k r c w v] ⟨aeY k r c w ps,[]⟩:=by
 have h:=atX k r c w v ps cells d;have f:=b6 d.rd;have g:=bQ d.rd;have i:=d.rd.plain;unfold aeY at h ⊢;generalize (j3 k r c w ps).getD 0 0=a at *
 generalize decide (1≤(j3 k r c w ps).length)=b at *
 generalize eJ k r c w ps=e at *
 refine aX Tryz.func88 aB (h:=?_);unfold Tryz.f88;simp only [↓pre,zab,ar8,simprocAttr,f]
 (first | refine aH (h) (by first | rfl | simp only [aD, *]) ?_ | refine aG (h) (by first | rfl | simp only [aA,aD, *]) (by intro k;first | rfl | simp only [ *,zaa]) ?_);simp only [↓pre,zab,aV,simprocAttr]
def gT (k r c w:Int) (ps:List bO):Int:=(j3 k r c w ps).getD 0 0
def aox (k r c w:Int) (ps:List bO):Int:=(j3 k r c w ps).getD 1 0
theorem avM (k r c w:Int) (v:AV) (ps:List bO) (cells:List AV) (a:fV v ps cells):aR ayS 87 [afr k r c w v,.clo 88 []] ⟨.tup [aC (if eJ k r c w ps=0 then gT k r c w ps else 0),aC (eJ k r c w ps)],[]⟩:=by
 have h:=avK k r c w v _ _ a.rd _ _ _ _ (avL k r c w v ps cells a);have e:(if decide (1≤(j3 k r c w ps).length)=true then (j3 k r c w ps).getD 0 0 else 0)=gT k r c w ps:=by
  unfold gT;split
  ·rfl
  ·rename_i b;have:(j3 k r c w ps).length=0:=by simp at b;simp [b]
   rw [azY this];rfl
 rw [e] at h;exact h
def fY (k r c w:Int) (ps:List bO):List UInt8:=mE k r c w ps 2 (gT k r c w ps) k.toNat
def i4 (k r c w:Int) (ps:List bO):Int:=if eJ k r c w ps=0 then (if gT k r c w ps=0 then 5 else if iZ k r c w ps 2 (gT k r c w ps) < k.toNat then 5 else mX k r c w (fY k r c w ps)) else eJ k r c w ps
def abP (k r c w:Int) (ps:List bO):AV:=if i4 k r c w ps=0 then .tup [rU (cK (fY k r c w ps)) (dQ (fY k r c w ps)) (cY (fY k r c w ps)),aC (gT k r c w ps),aC 0] else .tup [oX,aC 0,aC (i4 k r c w ps)]
theorem aoy {k r c w:Int} {ps:List bO} (h:eJ k r c w ps=0):bG k r c w=true∧dS k r c ps=true:=by
 unfold eJ at h;split at h
 ·rename_i b;split at h
  ·rename_i a;exact ⟨b,a⟩
  ·omega
 ·omega
theorem aoz {k r c w:Int} {ps:List bO} (f:eJ k r c w ps=0) (h:gT k r c w ps≠0):hU (gT k r c w ps)=true:=by
 have e:1≤(j3 k r c w ps).length:=by
  rcases Nat.eq_zero_or_pos (j3 k r c w ps).length with b | b
  ·exfalso;apply h;unfold gT;rw [azY b];rfl
  ·exact b
 have d:=atY e;have a:gT k r c w ps∈(kD k r c w ps).filter (nX k (gC k r c w ps)):=d;have:=(ani k r c w ps).2 _ (List.mem_filter.1 a).1;unfold hU;exact decide_eq_true this
theorem aij (bs:List UInt8) (n:Nat) (h:bs.length=n):aZ (bD n (aL bs)) bs.length (aL bs++[]):=by rw [h,aBi];exact dY _ _
theorem aoA {k r c w:Int} {ps:List bO} (a:bG k r c w=true):(fY k r c w ps).length=k.toNat*c.toNat:=wY _ _ _ _ _ _ _ _
def rV:Nat→Bool:=fun d=>d != 4 && d != 10
def CrQ (E c d W:Int) (b:List bJ) (a:AV) (m:aF):Prop:=(E=0∧∃ u,a = .tup [.agg [aC c,aC d,u],aC W,aC 0]∧Own m 67 2 u b.length (cA b))∨(E≠0∧a = .tup [.agg [.val (.int .i64 0),.val (.int .i64 0),.val (.slice none 0 0)],.val (.int .i64 0),.val (.int .i64 E)])
theorem avN (k r c w:Int) (v:AV) (ps:List bO) (cells:List AV) (i:fV v ps cells):fH ayS 17 [aA k r c w,v] aF.empty (CrQ (i4 k r c w ps) (cK (fY k r c w ps)) (dQ (fY k r c w ps)) (gT k r c w ps) (cY (fY k r c w ps))):=by
 have j:=avM k r c w v ps cells i;have o:=yR i.rd;have m:=yS i.rd;have F:=b6 i.rd;have B:=bQ i.rd;have E:=i.rd.plain;by_cases g:eJ k r c w ps=0
 ·obtain ⟨x,z⟩:=aoy g;have q:i4 k r c w ps=if gT k r c w ps=0 then 5 else if iZ k r c w ps 2 (gT k r c w ps) < k.toNat then 5 else mX k r c w (fY k r c w ps):=by unfold i4;rw [if_pos g]
  rw [if_pos g,g] at j;have e:=aoz g;have b:=fun h=>aid k r c w 2 (gT k r c w ps) v ps cells i x z (.inr rfl) (e h)
  have t:=aoA (ps:=ps) x;have l:fY k r c w ps=mE k r c w ps 2 (gT k r c w ps) k.toNat:=rfl;unfold qQ at b;rw [←l] at b;rw [q];clear l q;generalize gT k r c w ps=W at *
  generalize fY k r c w ps=D at *
  refine bI Tryz.func17 rV (h:=?_);unfold Tryz.f17;simp only [↓pre,zah,vB,rV,aM,a8,simprocAttr,aA,bne,aBS,↓o,↓m]
  (first | refine aH (j) (by first | rfl | simp only [aD, *]) ?_ | refine aG (j) (by first | rfl | simp only [aA,aD, *]) (by intro k;first | rfl | simp only [ *,zaa]) ?_);simp only [↓pre,zaj,rV,simprocAttr,bne,aBS]
  by_cases n:W=0
  ·subst n;rw [if_pos rfl];clear b e;simp only [↓pre,zaj,vB,rV,simprocAttr,bne,aJ,aBS];exact .inr ⟨by decide,rfl⟩
  ·rw [if_neg n];have b:=b n;clear e;by_cases f:iZ k r c w ps 2 W < k.toNat
   ·rw [if_pos f] at b ⊢;simp only [aN] at b;simp only [↓pre,zah,vB,rV,simprocAttr,bne,aBS,n]
    (first | refine aH (b) (by first | rfl | simp only [aD, *]) ?_ | refine aG (b) (by first | rfl | simp only [aA,aD, *]) (by intro k;first | rfl | simp only [ *,zaa]) ?_);simp only [↓pre,zaj,vB,rV,simprocAttr,bne,aJ,aBS]
    exact .inr ⟨by decide,rfl⟩
   ·rw [if_neg f] at b ⊢;have d:=avJ k r c w (bD (k.toNat*c.toNat) (aL D)) D [] (aij D _ t);have y:=(dY (k.toNat*c.toNat) (aL D)).plain;unfold aii at d;generalize mX k r c w D=A at *
    replace f:=Hid.mk f;simp only [↓pre,zah,vB,rV,simprocAttr,bne,aBS,n]
    (first | refine aH (b) (by first | rfl | simp only [aD, *]) ?_ | refine aG (b) (by first | rfl | simp only [aA,aD, *]) (by intro k;first | rfl | simp only [ *,zaa]) ?_);simp only [↓pre,zaj,vB,rV,sJ,simprocAttr,bne,aBS]
    by_cases s:A=0
    ·subst s;rw [if_pos rfl] at d;refine ade (fun a => .tup [.agg [aC (cK D),aC (dQ D),a],aC 0]) d (qE 3 _ (by simp [c9,plain,y])).1 (fun _ _=>rfl) (fun _ _=>by simp [jX,lP,aC]) fun a C u => ?_
     rcases u.form with ⟨rfl,p,rfl⟩ | ⟨rfl,p,rfl⟩
     all_goals clear u
     all_goals (
      replace p:=Hid.mk p;simp only [aC];simp only [↓pre,zaj,vB,rV,aM,aBj,aBd,simprocAttr,bne,aJ,aBS]
      first | exact .inl ⟨rfl,_,rfl,by rw [p.out];exact fC⟩ | exact .inl ⟨rfl,_,rfl,⟨.inr ⟨1,rfl,by simp [aO,aT,bM,a8],by simp [bX,bM,a8],Nat.pos_of_ne_zero p.out⟩,tD _⟩⟩)
    ·rw [if_neg s] at d;unfold oX aN at d;simp only [aC] at d
     (first | refine aH (d) (by first | rfl | simp only [aD, *]) ?_ | refine aG (d) (by first | rfl | simp only [aA,aD, *]) (by intro k;first | rfl | simp only [ *,zaa]) ?_);simp only [↓pre,zaj,vB,rV,aM,aBd,simprocAttr,bne,aJ,aBS,s]
     exact .inr ⟨s,rfl⟩
 ·have q:i4 k r c w ps=eJ k r c w ps:=by unfold i4;rw [if_neg g]
  rw [if_neg g] at j;rw [q];refine bI Tryz.func17 rV (h:=?_);unfold Tryz.f17;simp only [↓pre,zah,vB,rV,aM,a8,simprocAttr,aA,bne,aBS,↓o,↓m]
  (first | refine aH (j) (by first | rfl | simp only [aD, *]) ?_ | refine aG (j) (by first | rfl | simp only [aA,aD, *]) (by intro k;first | rfl | simp only [ *,zaa]) ?_);simp only [↓pre,zaj,vB,rV,simprocAttr,bne,aJ,aBS,g]
  exact .inr ⟨g,rfl⟩
def aik (E c d W:Int) (b:List bJ):fF:=if E=0 then rS (fun a => .tup [.agg [aC c,aC d,a],aC W,aC 0]) b else ⟨.tup [oX,aC 0,aC E],[]⟩
theorem avO (k r c w:Int) (v:AV) (ps:List bO) (cells:List AV) (d:fV v ps cells):aR ayS 17 [aA k r c w,v] (aik (i4 k r c w ps) (cK (fY k r c w ps)) (dQ (fY k r c w ps)) (gT k r c w ps) (cY (fY k r c w ps))):=aam (sK (avN k r c w v ps cells d) fun a m h=>by
 unfold aik;rcases h with ⟨h,u,rfl,b⟩ | ⟨h,rfl⟩
 ·rw [if_pos h];exact avC b
 ·rw [if_neg h];simp [jQ,jG,canon,gP,oX,aC,aN])
structure adh where
 dr:Nat
 row:Int
 sl:Nat
 bs:List UInt8
def adh.cells (p:adh):List AV:=[aC p.dr,aC p.row,aC p.sl,bD p.bs.length (aL p.bs)]
def avP (l:List adh):List AV:=l.flatMap adh.cells
structure WrA (m0 m:aF) (a:Nat) (k r c w:Int) (row:AV) (num:Int) (kv:AV) (l:List adh):Prop where
 ex:∃ v,m.at_ a=some ⟨[aC k,aC r,aC c,aC w,row,aC num,kv,v],195,.var,true⟩∧cG .var m 69 4 v l.length (avP l)∧mO m0 v
 lt:a < m0.next
 next:m0.next≤m.next
 mm:m.mm=m0.mm
 at_:∀ j k,m0.at_ j=some k→j < m0.next→j≠a→m.at_ j=some k
structure ayP (m m':aF) (pv:AV):Prop where
 next:m.next≤m'.next
 mm:m'.mm=m.mm
 at_:∀ j k,m.at_ j=some k→j < m.next→cI pv≠some j→m'.at_ j=some k
theorem aoB {P:Program} {once:Nat→Bool} {n id a:Nat} {b:Code} {K:bB→aF→Prop} {Q:Ex→bB→aF→Prop} {e:bB} {m:aF} (R:bB→aF→Prop) (c:∀ e m,R e m→K e m) (d:zN (eB P once n b) (o8 id (o8 a (qB R Q))) e m):zN (eB P once n b) (o8 id (o8 a (qB K Q))) e m :=
 alM (.loop b) _ _ e m (aej (aej (aei c fun _ _ _ h=>h))) d
def dD (k r c w:Int) (v:AV):AV := .agg [aC k,aC r,aC c,aC w,v]
theorem avQ (k r c w:Int) (d:bG k r c w=true):aR ayS 211 [aA k r c w] ⟨aC (d8 k r c),[]⟩:=by
 have a:=gX d;have w1:azv.wrap (k+r)=k+r:=eD (by omega) (by omega);have f:azv.wrap (4*(k+r))=4*(k+r):=eD (by omega) (by omega);have b:azv.wrap (12+4*(k+r))=12+4*(k+r):=eD (by omega) (by omega);have e:azv.wrap (12+4*(k+r)+c)=d8 k r c:=eD (by omega) (by omega);replace a:=Hid.mk a;refine aX Tryz.func211 aB (h:=?_);unfold Tryz.f211;simp only [↓pre,zab,asm,simprocAttr,aA,w1,f,b,e]
def tE (k r c w:Int) (L:List (List UInt8)):Bool:=decide ((L.length:Int)=(k+r)*w*2) && L.all fun b=>eV k r c b.length
def fA (k r c w:Int) (L:List (List UInt8)):Int:=if bG k r c w=true then (if tE k r c w L=true then 0 else 90) else 2
theorem ail {k r c w:Int} (h:bG k r c w=true):0≤(k+r)*w∧(k+r)*w≤4096:=by
 have b:=jA.1 h;have a:(k+r)*w≤16*w:=Int.mul_le_mul_of_nonneg_right (by omega) (by omega);exact ⟨Int.mul_nonneg (by omega) (by omega),by omega⟩
theorem abQ (k r c w:Int) (v:AV) (L:List (List UInt8)) (cells:List AV) (s:fQ v L cells):aR ayS 124 [dD k r c w v] ⟨aC (fA k r c w L),[]⟩:=by
 have hp:=s.rd.plain;have Q:=b6 s.rd;have ho:=bQ s.rd;have z:=oR k r c w;unfold fA dD;cases J:bG k r c w with
 | false =>
  simp only [J,azx,if_false] at z ⊢;refine aX Tryz.func124 aB (h:=?_);unfold Tryz.f124;simp only [↓pre,zab,yB,simprocAttr,Q]
  (first | refine aH (z) (by first | rfl | simp only [aA,aD, *]) ?_ | refine aG (z) (by first | rfl | simp only [aA,aD, *]) (by intro k;first | rfl | simp only [ *,zaa]) ?_);simp only [↓pre,zab,iS,simprocAttr]
 | true =>
  simp only [J,if_true] at z ⊢;have t:=gX J;have A:=ail J;have hs:=avQ k r c w J;have w1:azv.wrap ((k+r)*w)=(k+r)*w:=eD (by omega) (by omega);have W:azv.wrap ((k+r)*w*2)=(k+r)*w*2:=eD (by omega) (by omega);by_cases O:(L.length:Int)=(k+r)*w*2
  ·generalize f:(if tE k r c w L=true then (0:Int) else 90)=E;have C:∀ b:List UInt8,b∈L→eV k r c b.length=false→E=90:=fun b A h=>by
    rw [←f,if_neg];intro y;unfold tE at y;rw [aAn,aAr] at y;rw [y.2 b A] at h;cases h
   have o:(∀ b∈L,eV k r c b.length=true)→E=0:=fun h=>by
    rw [←f,if_pos];unfold tE;rw [decide_eq_true O,Bool.true_and,aAr];exact h
   have B:∀ n:Nat,eV k r c n=(decide ((n:Int)=0) || decide ((n:Int)=d8 k r c)):=fun _=>rfl
   obtain ⟨N,P⟩:∃ N:Nat,L.length=N:=⟨_,rfl⟩
   have a1:N≤8192:=by omega
   replace t:=Hid.mk t;replace A:=Hid.mk A;replace f:=Hid.mk f;replace C:=Hid.mk C;replace o:=Hid.mk o;replace P:=Hid.mk P;have a0:=P.out;refine aX Tryz.func124 aB (h:=?_);unfold Tryz.f124;simp only [↓pre,zab,yB,simprocAttr,Q]
   (first | refine aH (z) (by first | rfl | simp only [aA,aD, *]) ?_ | refine aG (z) (by first | rfl | simp only [aA,aD, *]) (by intro k;first | rfl | simp only [ *,zaa]) ?_);simp only [↓pre,zag,yB,simprocAttr,s.rd.len',w1,W,O]
   rw [bS];refine bU (fun q e m=>∃ i,q+i=N∧e 1 = .tptr 0 [aC k,aC r,aC c,aC w,v]∧e 27=v∧e 28=aC ((k+r)*w*2)∧e 29=aC (i:Nat)∧Hid (∀ j b,j < i→L[j]? = some b→eV k r c b.length=true)) N ⟨0,by omega,rfl,rfl,rfl,rfl,⟨fun j b h=>by omega⟩⟩ ?_;rintro q e m ⟨i,H,K,u,p,g,X⟩;replace H:=Hid.mk H;by_cases Y:i < N
   ·have d:((i:Nat):Int) < (k+r)*w*2:=by omega
    have V:=bY (n:=i) (by omega);obtain ⟨b,G⟩:∃ b,L[i]? = some b:=⟨_,azj (by omega)⟩
    obtain ⟨a,x,U,l⟩:=s.at_ i b G;have F:i < L.length:=by omega
    have fa:=b6 l;have oa:=bQ l;have step:eV k r c b.length=true→∀ j M,j < i+1→L[j]? = some M→eV k r c M.length=true:=fun h j M S D=>by
     by_cases T:j=i
     ·subst T;rw [G] at D;cases D;exact h
     ·exact X.out j M (by omega) D
    replace step:=Hid.mk step;by_cases I:(b.length:Int)=0
    ·simp only [↓pre,zag,yB,simprocAttr,K,u,p,g,d,s.rd.addr',F,U,l.len',I,V];exact ⟨q - 1,by have:=H.out;omega,i+1,by have:=H.out;omega,rfl,⟨step.out (by rw [B,decide_eq_true I];rfl)⟩⟩
    ·by_cases y:(b.length:Int)=d8 k r c
     ·have hz:¬ d8 k r c=0:=fun h=>I (y.trans h)
      simp only [↓pre,zag,yB,simprocAttr,K,u,p,g,d,s.rd.addr',F,U,l.len',y,hz]
      (first | refine aH (hs) (by first | rfl | simp only [aA,aD, *]) ?_ | refine aG (hs) (by first | rfl | simp only [aA,aD, *]) (by intro k;first | rfl | simp only [ *,zaa]) ?_);simp only [↓pre,zad,simprocAttr,K,u,p,g,V]
      exact ⟨q - 1,by have:=H.out;omega,i+1,by have:=H.out;omega,rfl,⟨step.out (by rw [B,decide_eq_true y,Bool.or_true])⟩⟩
     ·have R:=C.out b (az5 G) (by rw [B,decide_eq_false I,decide_eq_false y];rfl);subst R;simp only [↓pre,zag,yB,simprocAttr,K,u,p,g,d,s.rd.addr',F,U,l.len',I]
      (first | refine aH (hs) (by first | rfl | simp only [aA,aD, *]) ?_ | refine aG (hs) (by first | rfl | simp only [aA,aD, *]) (by intro k;first | rfl | simp only [ *,zaa]) ?_);simp only [↓pre,zad,simprocAttr,y]
   ·have d:¬ ((i:Nat):Int) < (k+r)*w*2:=by omega
    have R:=o.out fun b A=>by
     obtain ⟨j,S⟩:=List.getElem?_of_mem A;have:=(ay5.1 S).1;exact X.out j b (by omega) S
    subst R;simp only [↓pre,zad,simprocAttr,p,g,d]
  ·have Z:tE k r c w L=false:=by unfold tE;rw [decide_eq_false O];rfl
   rw [Z,if_neg (by decide)];replace t:=Hid.mk t;replace A:=Hid.mk A;refine aX Tryz.func124 aB (h:=?_);unfold Tryz.f124;simp only [↓pre,zab,yB,simprocAttr,Q]
   (first | refine aH (z) (by first | rfl | simp only [aA,aD, *]) ?_ | refine aG (z) (by first | rfl | simp only [aA,aD, *]) (by intro k;first | rfl | simp only [ *,zaa]) ?_);simp only [↓pre,zag,yB,simprocAttr,s.rd.len',w1,W,O]
theorem aoC (v:AV) (b:List UInt8) (x:List AV) (g:aZ v b.length (aL b++x)) (j:b.length≤65536):aR ayS 153 [v] ⟨if b.length=0 then aN else .tree b.length b.length (aL b) true,[]⟩:=by
 refine d6 ?_;have q:=g.plain;by_cases e:b.length=0
 ·rw [if_pos e];have a:(b.length:Int)=0:=by omega
  refine bI Tryz.func153 aB (h:=?_);unfold Tryz.f153;simp only [↓pre,zag,amh,simprocAttr,g.len',a];exact ⟨0,gB⟩
 ·rw [if_neg e];have a:¬ (b.length:Int)=0:=by omega
  have k:=fun m=>rN m (n:=b.length) j
  have d:∀ m,f9 ayS 5 1 m v=some (aL b,b.length):=fun m=>by
   rcases g.form with ⟨_,h⟩ | ⟨_,_,_,h⟩ | ⟨c,f,rfl,o⟩
   ·exact absurd h e
   ·exact absurd h e
   ·rw [acz (by rw [aAZ,iB];omega),azD,List.take_left' (iB b)]
  have i:∀ m:aF,p7 ayS 5 (m.push ⟨aY b.length fun _=>0,5,.flat,true⟩) (.sl m.next 0 b.length b.length true) v=some ⟨aC (b.length:Nat),m.push ⟨aL b,5,.flat,true⟩,none⟩:=fun m=>by
   have p:cE ayS 5=some 1:=by kernel_rfl
   have l:bP ayS 5 = .flat:=by kernel_rfl
   have j:(m.push ⟨aY b.length fun _=>0,5,.flat,true⟩).at_ m.next=some ⟨aY b.length fun _=>0,5,.flat,true⟩:=by rw [aT,if_pos rfl]
   simp only [p7,p,d,j,aAh,l];rw [if_pos ⟨trivial,trivial,by rw [eK];omega⟩,ah2 rfl,Nat.min_self,azD,aA7 (by rw [iB];omega)];congr 4;unfold cP;rw [iB,List.take_zero,List.nil_append,Nat.zero_add,List.drop_eq_nil_of_le (by rw [eK];omega),aBi]
  refine bI Tryz.func153 aB (h:=?_);unfold Tryz.f153;simp only [↓pre,zag,amh,ada,simprocAttr,g.len',a,k,i];exact ⟨0,by rw [uC (by rw [aT,if_pos rfl]),aBu]⟩
theorem yT (b:List UInt8):aZ (if b.length=0 then aN else .tree b.length b.length (aL b) true) b.length (aL b++[]):=by
 rw [aBi];split
 ·rename_i h;exact ⟨.inl ⟨rfl,h⟩⟩
 ·exact ⟨.inr (.inr ⟨_,_,rfl,ay7 _⟩)⟩
theorem adi {v:AV} {n:Nat} {cs:List AV} (h:aZ v n cs):i7 v=false:=by
 rcases h.form with ⟨rfl,_⟩ | ⟨_,_,rfl,_⟩ | ⟨_,_,rfl,_⟩ <;> rfl
theorem avR {P:Program} {t:TypeId} {v:AV} {n sz i j:Nat} {cs:List AV} (h:aZ v n cs) (g:(bZ P t).bind (cE P)=some sz) (hi:i < j) (k:j≤n):∃ d,mH P t (some i) (some j) (some j) v=some d∧aZ d (j - i) (cs.drop (i*sz)):=by
 obtain ⟨el,a,b⟩:=ayQ g;rcases h.form with ⟨rfl,e⟩ | ⟨_,_,rfl,e⟩ | ⟨c,f,rfl,l⟩
 ·omega
 ·omega
 ·refine ⟨.tree (j - i) (j - i) (cs.drop (i*sz)) true, ?_,⟨.inr (.inr ⟨_,true,rfl,ay7 _⟩)⟩⟩;simp only [mH,a,b,jE,Option.isSome_some,Option.isNone_some,Bool.and_false,azx,if_false,aAh,aAB];rw [if_pos (by omega),if_neg (by omega)];simp
def tF (L:List (List UInt8)) (W row:Nat) (n:Nat):List bO:=(aAm n).map fun i=>(L.getD ((i*W+row)*2) [],L.getD ((i*W+row)*2+1) [])
theorem adj (L:List (List UInt8)) (W row n:Nat):(tF L W row n).length=n:=by simp [tF]
theorem avS {L:List (List UInt8)} {W row n i:Nat} (h:i < n):(tF L W row n)[i]? = some (L.getD ((i*W+row)*2) [],L.getD ((i*W+row)*2+1) []):=by
 unfold tF;rw [azl,List.getElem?_range h];rfl
theorem avT (L:List (List UInt8)) (W row n:Nat):tF L W row (n+1)=tF L W row n++[(L.getD ((n*W+row)*2) [],L.getD ((n*W+row)*2+1) [])]:=by
 unfold tF;rw [List.range_succ,List.map_append];rfl
def kX (b:List UInt8):AV:=if b.length=0 then aN else .tree b.length b.length (aL b) true
def mY (ps:List bO):List AV:=ps.flatMap fun p=>[kX p.1,kX p.2]
theorem avU (ps:List bO) (p:bO):mY (ps++[p])=mY ps++[kX p.1,kX p.2]:=by simp [mY]
theorem avV (ps:List bO):(mY ps).length=ps.length*2:=by
 induction ps with
 | nil=>rfl
 | cons p ps a =>
  simp only [mY,aBC,aAZ,aAC,List.length_nil] at a ⊢;omega
theorem avW {ps:List bO} {i:Nat} {p:bO} (h:ps[i]? = some p):(mY ps)[i*2]? = some (kX p.1)∧(mY ps)[i*2+1]? = some (kX p.2):=by
 induction ps generalizing i with
 | nil=>simp at h
 | cons q ps a =>
  unfold mY;rw [aBC];cases i with
  | zero=>simp at h;subst h;exact ⟨rfl,rfl⟩
  | succ i =>
   have:=a (i:=i) (by simpa using h);rw [show (i+1)*2=i*2+1+1 by omega];exact this
theorem avX (ps:List bO):fV (bD ps.length (mY ps)) ps (mY ps):=by
 refine ⟨dY _ _,fun i p a => ?_⟩;obtain ⟨c,b⟩:=avW a;exact ⟨_,_,[],[],c,b,yT _,yT _⟩
theorem avY (ps:List bO):∀ c∈mY ps,eH c:=by
 intro c a;obtain ⟨p,_,h⟩:=List.mem_flatMap.1 a;simp only [az4,aBT,or_false] at h;rcases h with rfl | rfl
 ·exact kT (yT _)
 ·exact kT (yT _)
def kG (k r c w:Int) (L:List (List UInt8)) (row:Int):Int:=if fA k r c w L=0 then (if row < 0∨w≤row then 2 else 0) else fA k r c w L
def eI (k r w:Int) (L:List (List UInt8)) (row:Int):List bO:=tF L w.toNat row.toNat (k+r).toNat
def adk (k r c w:Int) (L:List (List UInt8)) (row:Int):AV:=if kG k r c w L row=0 then .tup [bD (k+r).toNat (mY (eI k r w L row)),aC 0] else .tup [aN,aC (kG k r c w L row)]
theorem abR {k r c w:Int} {L:List (List UInt8)} (h:fA k r c w L=0):bG k r c w=true∧(L.length:Int)=(k+r)*w*2∧∀ b∈L,eV k r c b.length=true:=by
 unfold fA at h;split at h
 ·rename_i d;split at h
  ·rename_i a;unfold tE at a;rw [aAn,aAr] at a;exact ⟨d,of_decide_eq_true a.1,a.2⟩
  ·omega
 ·omega
theorem aoD {k r c w:Int} (a:bG k r c w=true) {n:Nat} (h:eV k r c n=true):n≤140:=by
 have:=jA.1 a;unfold eV d8 at h;rw [Bool.or_eq_true,decide_eq_true_eq,decide_eq_true_eq] at h;omega
theorem aoE {k r w:Int} {row W N i:Nat} (b:w=(W:Int)) (a:k+r=(N:Int)) (f:row < W) (hi:i < N) {n:Nat} (c:(n:Int)=(k+r)*w*2):(i*W+row)*2+2≤n:=by
 have d:(i+1)*W≤N*W:=azC _ hi;rw [azX,aBW] at d;have e:(n:Int)=((N*W*2:Nat):Int):=by rw [c,b,a];simp
 omega
theorem aim (k r c w row:Int) (v:AV) (L:List (List UInt8)) (cells:List AV) (B:fQ v L cells):aR ayS 83 [dD k r c w v,aC row] ⟨adk k r c w L row,[]⟩:=by
 refine d6 ?_;have hp:=B.rd.plain;have Z:=b6 B.rd;have ho:=bQ B.rd;have a:=abQ k r c w v L cells B;unfold adk kG;unfold dD at a ⊢;by_cases A:fA k r c w L=0
 ·rw [if_pos A];rw [A] at a;obtain ⟨hm,hl,g⟩:=abR A;by_cases d:row < 0∨w≤row
  ·rw [if_pos d,if_neg (by decide)];have C:=fun m=>eW (bN (.slice none 0 0)) (bN (.int .i64 2)) 1 m
   replace C:=Hid.mk C;replace A:=Hid.mk A;by_cases X:row < 0
   ·refine bI Tryz.func83 aB (h:=?_);unfold Tryz.f83;simp only [↓pre,zab,wG,simprocAttr,Z]
    (first | refine aH (a) (by first | rfl | simp only [aD, *]) ?_ | refine aG (a) (by first | rfl | simp only [aA,aD, *]) (by intro k;first | rfl | simp only [ *,zaa]) ?_);simp only [↓pre,zad,simprocAttr,X]
    exact ⟨1,C.out _⟩
   ·have h2:w≤row:=by omega
    refine bI Tryz.func83 aB (h:=?_);unfold Tryz.f83;simp only [↓pre,zab,wG,simprocAttr,Z]
    (first | refine aH (a) (by first | rfl | simp only [aD, *]) ?_ | refine aG (a) (by first | rfl | simp only [aA,aD, *]) (by intro k;first | rfl | simp only [ *,zaa]) ?_);simp only [↓pre,zad,wG,simprocAttr,X,h2]
    exact ⟨1,C.out _⟩
  ·rw [if_neg d,if_pos rfl];have x:=gX hm;have K:=jA.1 hm;have X:¬ row < 0:=by omega
   have h2:¬ w≤row:=by omega
   obtain ⟨N,I⟩:∃ N:Nat,k+r=(N:Int):=⟨(k+r).toNat,by omega⟩
   obtain ⟨W,hW⟩:∃ W:Nat,w=(W:Int):=⟨w.toNat,by omega⟩
   obtain ⟨b,b0⟩:∃ b:Nat,row=(b:Int):=⟨row.toNat,by omega⟩
   have p:=fun i (hi:i < N)=>aoE hW I (row:=b) (by omega) hi hl
   have f:=avT L W b;have F:=adj L W b;unfold eI;rw [show (k+r).toNat=N by omega,show w.toNat=W by omega,show row.toNat=b by omega];have wN:azv.wrap (k+r)=(N:Int):=by rw [I];exact cD (by omega)
   have J:∀ i:Nat,i < N→i*W≤4096:=fun i hi=>by
    have:i*W≤16*256:=aBZ (by omega) (by omega);omega
   generalize tF L W b=RP at *
   have M:mY (RP 0)=[]:=azY (by rw [avV,F]);replace x:=Hid.mk x;replace K:=Hid.mk K;replace p:=Hid.mk p;replace f:=Hid.mk f;replace F:=Hid.mk F;replace A:=Hid.mk A;replace hl:=Hid.mk hl;replace I:=Hid.mk I;replace g:=Hid.mk g;replace J:=Hid.mk J;replace M:=Hid.mk M;replace d:=Hid.mk d;refine bI Tryz.func83 aB (h:=?_);unfold Tryz.f83;simp only [↓pre,zab,wG,simprocAttr,Z]
   (first | refine aH (a) (by first | rfl | simp only [aD, *]) ?_ | refine aG (a) (by first | rfl | simp only [aA,aD, *]) (by intro k;first | rfl | simp only [ *,zaa]) ?_);simp only [↓pre,zad,wG,simprocAttr,X,h2,wN]
   rw [bS];refine bU (fun q e m=>∃ i lv,q+i=N∧e 1=aC row∧e 2 = .tptr 0 [aC k,aC r,aC c,aC w,v]∧e 7=lv∧e 31=aC (N:Nat)∧e 32=aC (i:Nat)∧Hid (cG .var m 131 2 lv i (mY (RP i)))) N ⟨0,_,by omega,rfl,rfl,rfl,rfl,rfl,⟨by rw [M.out];exact fC⟩⟩ ?_;rintro q e m ⟨i,lv,R,e1,e2,e7,E,D,hJ⟩;replace R:=Hid.mk R;by_cases T:i < N
   ·have s:((i:Nat):Int) < ((N:Nat):Int):=by omega
    have wi:=bY (n:=i) (by have:=x.out;have:=I.out;omega);have U:=p.out i T;have b8:=J.out i T;have b1:b≤256:=by have:=K.out;have:=d.out;omega
    have w1:azv.wrap ((i:Int)*w)=((i*W:Nat):Int):=by rw [hW,show (i:Int)*(W:Int)=((i*W:Nat):Int) by simp];exact cD (by omega)
    have w2:azv.wrap (((i*W:Nat):Int)+row)=((i*W+b:Nat):Int):=by rw [b0,show ((i*W:Nat):Int)+(b:Int)=((i*W+b:Nat):Int) by simp];exact cD (by omega)
    have w3:azv.wrap (((i*W+b:Nat):Int)*2)=(((i*W+b)*2:Nat):Int):=by rw [show ((i*W+b:Nat):Int)*2=(((i*W+b)*2:Nat):Int) by simp];exact cD (by omega)
    have w4:azv.wrap ((((i*W+b)*2:Nat):Int)+2)=(((i*W+b)*2+2:Nat):Int):=by rw [show ((((i*W+b)*2:Nat):Int)+2)=(((i*W+b)*2+2:Nat):Int) by simp];exact cD (by omega)
    have f:=f.out i;generalize S:(i*W+b)*2=at_ at *
    have n1:jW (.val (.int .i64 (at_:Nat)))=some at_:=ad4;have n2:jW (.val (.int .i64 ((at_+2:Nat):Int)))=some (at_+2):=ad4;obtain ⟨u,su,Y⟩:=avR (P:=ayS) (t:=45) (sz:=1) B.rd (by kernel_rfl) (i:=at_) (j:=at_+2) (by omega) (by omega);rw [show at_+2 - at_=2 by omega,azD] at Y;have Q:L[at_]? = some (L.getD at_ []):=by rw [azp,azj (by omega)];rfl
    have V:L[at_+1]? = some (L.getD (at_+1) []):=by rw [azp,azj (by omega)];rfl
    have b9:=aoD hm (g.out _ (az5 Q));have c2:=aoD hm (g.out _ (az5 V));obtain ⟨a0,x0,a3,H⟩:=B.at_ _ _ Q;obtain ⟨a1,x1,a6,G⟩:=B.at_ _ _ V;have a2:(cells.drop at_)[0]? = some a0:=by rw [aAs];exact a3
    have a7:(cells.drop at_)[1]? = some a1:=by rw [aAs];exact a6
    have t0:=aoC a0 _ x0 H (by omega);have t1:=aoC a1 _ x1 G (by omega);have O:=yT (L.getD at_ []);have r1:=yT (L.getD (at_+1) []);rw [←show kX (L.getD at_ [])=(if (L.getD at_ []).length=0 then aN else .tree (L.getD at_ []).length (L.getD at_ []).length (aL (L.getD at_ [])) true) from rfl] at t0 O;rw [←show kX (L.getD (at_+1) [])=(if (L.getD (at_+1) []).length=0 then aN else .tree (L.getD (at_+1) []).length (L.getD (at_+1) []).length (aL (L.getD (at_+1) [])) true) from rfl] at t1 r1;have o:=avU (RP i) (L.getD at_ [],L.getD (at_+1) []);rw [←f] at o;simp only at o;generalize kX (L.getD at_ [])=T0 at *
    generalize kX (L.getD (at_+1) [])=T1 at *
    have pu:=Y.plain;have b7:=H.plain;have c3:=G.plain;have b2:=bQ H;have b5:=bQ G;have o0:=bQ O;have o1:=bQ r1;have k0:=yS O;have k1:=yS r1;have c0:=yR O;have c1:=yR r1;have s0:=cH O;have s1:=cH r1;have a4:∀ m,gF ayS m 24 1 [(0,.agg [T0,T1])]=some ⟨.tree 1 1 [T0,T1] true,m,none⟩:=fun m=>zP (el:=131) (sz:=2) (z:=[.val (.slice none 0 0),.val (.slice none 0 0)]) (by kernel_rfl) (by kernel_rfl) (by kernel_rfl) rfl (by simp [j5,adi O,adi r1]) (by decide)
    have b4:=fun m=>B.rd.slOk (P:=ayS) (m:=m) (t:=45)
    replace f:=Hid.mk f;replace o:=Hid.mk o;replace S:=Hid.mk S;replace U:=Hid.mk U;simp only [↓pre,zag,wG,simprocAttr,e1,e2,e7,E,D,s,w1,w2,w3,w4,dB,n1,n2,su,B.rd.sliceX,Y.addr',a2]
    (first | refine aH (t0) (by first | rfl | simp only [aD, *]) ?_ | refine aG (t0) (by first | rfl | simp only [aD, *]) (by intro k;first | rfl | simp only [*]) ?_);simp only [↓pre,zag,wG,simprocAttr,Y.addr',a7];(first | refine aH (t1) (by first | rfl | simp only [aD, *]) ?_ | refine aG (t1) (by first | rfl | simp only [aD, *]) (by intro k;first | rfl | simp only [*]) ?_);simp only [↓pre,zab,wG,bE,simprocAttr,↓k0,↓k1,↓c0,↓c1,a4,Nat.zero_mul,aBW]
    refine pA (sz:=2) (y:=48) (zl:=[.slice none 0 0,.slice none 0 0]) (by kernel_rfl) hJ.out (by kernel_rfl) (by kernel_rfl) (by kernel_rfl) rfl zQ rfl (by have:=x.out;have:=I.out;omega) (by have:=x.out;have:=I.out;omega) ?_;intro a9 m' a5 b3;refine dE (by kernel_rfl) ?_;simp only [↓pre,zab,simprocAttr,e1,e2,E,D,wi];refine ⟨q - 1,by have:=R.out;omega,i+1,a9,by have:=R.out;omega,rfl,rfl,⟨?_⟩⟩;rw [o.out];exact a5
   ·have s:¬ ((i:Nat):Int) < ((N:Nat):Int):=by omega
    have hi:i=N:=by have:=R.out;omega
    subst hi;have l:=fun k=>afc hJ.out (avY _) k
    replace l:=Hid.mk l;simp only [↓pre,zad,simprocAttr,e7,E,D,s];exact ⟨1,by rw [j8,dM,l.out,aAh,dM,gB,i8];rfl⟩
 ·rw [if_neg A,if_neg A];have C:=fun m=>eW (bN (.slice none 0 0)) (bN (.int .i64 (fA k r c w L))) 1 m
  replace C:=Hid.mk C;refine bI Tryz.func83 aB (h:=?_);unfold Tryz.f83;simp only [↓pre,zab,wG,simprocAttr,Z]
  (first | refine aH (a) (by first | rfl | simp only [aD, *]) ?_ | refine aG (a) (by first | rfl | simp only [aA,aD, *]) (by intro k;first | rfl | simp only [ *,zaa]) ?_);simp only [↓pre,zad,simprocAttr,A]
  exact ⟨1,C.out _⟩
theorem afs (k r c w:Int) (L:List (List UInt8)) (row:Int) (a:0≤k+r):fV (bD (k+r).toNat (mY (eI k r w L row))) (eI k r w L row) (mY (eI k r w L row)):=by
 have:=avX (eI k r w L row);unfold eI at this ⊢;rw [adj] at this;exact this
theorem aao {k r c w:Int} {L:List (List UInt8)} {row:Int} (h:kG k r c w L row=0):dS k r c (eI k r w L row)=true∧bG k r c w=true:=by
 unfold kG at h;split at h
 ·rename_i g;obtain ⟨d,m,a⟩:=abR g;have f:=gX d;refine ⟨?_,d⟩;unfold dS eI;rw [aAn];refine ⟨decide_eq_true (by rw [adj];omega),aAr.2 fun p e => ?_⟩;unfold tF at e;obtain ⟨i,_,rfl⟩:=List.mem_map.1 e;have:∀ j,eV k r c (L.getD j []).length=true:=fun j=>by
   rw [azp];cases l:L[j]? with
   | none=>rfl
   | some b=>exact a b (az5 l)
  unfold kC;rw [this,this];rfl
 ·contradiction
def pS (k c:Int) (l:List bJ):List UInt8:=pQ (dO l) (wI k c).toNat
def ain (k c w:Int) (l:List bJ):AV:=if kF w l=true then .tup [.tree (wI k c).toNat (wI k c).toNat (aL (pS k c l)) true,aC 0] else .tup [aN,aC 150]
def abS:Nat→Bool:=fun d=>d != 31 && d != 32
theorem avZ (k r c w:Int) (p:bG k r c w=true) (v:AV) (l:List bJ) (z:qR v l) (E:1≤l.length) (i:(l.length:Int)≤lI k c):aR ayS 274 [aA k r c w,v] ⟨ain k c w l,[]⟩:=by
 refine d6 ?_;have g:=ahs k r c w;simp only [p,if_true] at g;have t:=g9 p;have f:=jA.1 p;have j:=sQ t.1 t.2;have s:l.length≤128:=by unfold lI at i;omega
 have d:=aoh k r c w v l z (by omega);obtain ⟨x,n⟩:=z;have G:=n.plain;have A:¬ ((l.length:Nat):Int) < 1:=by omega
 have B:¬ lI k c < ((l.length:Nat):Int):=by omega
 unfold ain;by_cases a:kF w l=true
 ·rw [if_pos a];rw [a] at d;have b:∀ x∈l,(0≤x.1∧x.1≤1073741824)∧0≤x.2∧x.2≤1073741824:=fun y D=>by
   have:=aAr.1 a y D;unfold jP at this;have:=of_decide_eq_true this;omega
  have e:Own aF.empty 5 1 aN ([]:List AV).length []:=fC;have C:=aog aF.empty aN [] v l ⟨x,n⟩ e b (by omega) (by simp);have o:=aif l _ _ _ e;rw [List.nil_append,List.length_nil,Nat.zero_add] at o;have u:=aoj k r c w p _ _ _ o (by rw [rP];unfold wI;unfold lI at i;omega);generalize qS aF.empty aN [] l=F at *
  replace b:=Hid.mk b;replace o:=Hid.mk o;replace f:=Hid.mk f;replace j:=Hid.mk j;simp only [aC,aN] at C u;refine bI Tryz.func274 abS (h:=?_);unfold Tryz.f274;simp only [↓pre,zah,acN,abS,simprocAttr,aA,bne]
  (first | refine aH (g) (by first | rfl | simp only [aA,aD, *]) ?_ | refine aG (g) (by first | rfl | simp only [aA,aD, *]) (by intro k;first | rfl | simp only [ *,zaa]) ?_);simp only [↓pre,za,acN,abS,simprocAttr,bne,n.len',A,B];(first | refine aH (d) (by first | rfl | simp only [aD, *]) ?_ | refine aG (d) (by first | rfl | simp only [aA,aD, *]) (by intro k;first | rfl | simp only [ *,zaa]) ?_);simp only [↓pre,zah,acN,abS,simprocAttr,bne]
  refine rC C ?_;refine dE (by kernel_rfl) ?_;simp only [↓pre,zah,abS,simprocAttr,bne];refine rC u ?_;refine dE (by kernel_rfl) ?_;simp only [↓pre,zah,abS,simprocAttr,bne];refine ⟨0, ?_⟩;rw [j8,dM,uC (by rw [aT,if_pos rfl]),aAh,dM,gB,i8,aBu];rfl
 ·rw [if_neg a];rw [Bool.not_eq_true] at a;rw [a] at d;have q:=fun m=>eW (bN (.slice none 0 0)) (bN (.int .i64 150)) 1 m
  replace q:=Hid.mk q;refine bI Tryz.func274 aB (h:=?_);unfold Tryz.f274;simp only [↓pre,zab,acN,simprocAttr,aA]
  (first | refine aH (g) (by first | rfl | simp only [aA,aD, *]) ?_ | refine aG (g) (by first | rfl | simp only [aA,aD, *]) (by intro k;first | rfl | simp only [ *,zaa]) ?_);simp only [↓pre,zag,acN,simprocAttr,n.len',A,B];(first | refine aH (d) (by first | rfl | simp only [aD, *]) ?_ | refine aG (d) (by first | rfl | simp only [aA,aD, *]) (by intro k;first | rfl | simp only [ *,zaa]) ?_);simp only [↓pre,zad,simprocAttr]
  exact ⟨1,q.out _⟩
def rW (k c w:Int) (bs:List UInt8) (n:Int):Int:=if n < 1∨lI k c < n then 20 else if kF w (dP bs n.toNat)=true∧pS k c (dP bs n.toNat)=bs then 0 else 150
def abT (k c w:Int) (bs:List UInt8) (n:Int):AV:=if rW k c w bs n=0 then .tup [bD n.toNat (cA (dP bs n.toNat)),aC 0] else .tup [aN,aC (rW k c w bs n)]
theorem av0 (k r c w:Int) (C:bG k r c w=true) (v:AV) (bs:List UInt8) (x:List AV) (z:aZ v bs.length (aL bs++x)) (B:(bs.length:Int)=wI k c) (n:Int):aR ayS 217 [aA k r c w,v,aC n] ⟨abT k c w bs n,[]⟩:=by
 refine d6 ?_;have g:=ahs k r c w;have i:=aot k r c w v bs.length _ z;simp only [C,if_true,B] at g i;have D:=g9 C;have o:=sQ D.1 D.2;have I:=z.plain;unfold abT rW;by_cases y:n < 1∨lI k c < n
 ·rw [if_pos y,if_neg (by decide)];have l:=fun m=>eW (bN (.slice none 0 0)) (bN (.int .i64 20)) 1 m
  replace l:=Hid.mk l;replace o:=Hid.mk o;by_cases q:n < 1
  ·refine bI Tryz.func217 aB (h:=?_);unfold Tryz.f217;simp only [↓pre,zab,rH,simprocAttr,aA]
   (first | refine aH (i) (by first | rfl | simp only [aD, *]) ?_ | refine aG (i) (by first | rfl | simp only [aA,aD, *]) (by intro k;first | rfl | simp only [ *,zaa]) ?_);simp only [↓pre,zad,rH,simprocAttr];(first | refine aH (g) (by first | rfl | simp only [aA,aD, *]) ?_ | refine aG (g) (by first | rfl | simp only [aA,aD, *]) (by intro k;first | rfl | simp only [ *,zaa]) ?_);simp only [↓pre,zad,simprocAttr,q]
   exact ⟨1,l.out _⟩
  ·have t:lI k c < n:=by omega
   refine bI Tryz.func217 aB (h:=?_);unfold Tryz.f217;simp only [↓pre,zab,rH,simprocAttr,aA]
   (first | refine aH (i) (by first | rfl | simp only [aD, *]) ?_ | refine aG (i) (by first | rfl | simp only [aA,aD, *]) (by intro k;first | rfl | simp only [ *,zaa]) ?_);simp only [↓pre,zad,rH,simprocAttr];(first | refine aH (g) (by first | rfl | simp only [aA,aD, *]) ?_ | refine aG (g) (by first | rfl | simp only [aA,aD, *]) (by intro k;first | rfl | simp only [ *,zaa]) ?_);simp only [↓pre,zad,simprocAttr,q,t]
   exact ⟨1,l.out _⟩
 ·rw [if_neg y];have q:¬ n < 1:=by omega
  have t:¬ lI k c < n:=by omega
  obtain ⟨N,E⟩:∃ N:Nat,n=(N:Int):=⟨n.toNat,by omega⟩
  subst E;rw [aA8];have F:6*N≤bs.length:=by unfold wI at B;unfold lI at t;omega
  have s:=avF v bs x N z F (by unfold wI at B;omega);have e:(dP bs N).length=N:=abN _ _;have d:=dY N (cA (dP bs N));have j:=avZ k r c w C (bD N (cA (dP bs N))) (dP bs N) ⟨[],by rw [aBi,e];exact d⟩ (by omega) (by rw [e];omega);have u:(pS k c (dP bs N)).length=(wI k c).toNat:=by
   unfold pS;refine afo ?_;rw [rP,e];omega
  have p:=aov (.tree (wI k c).toNat (wI k c).toNat (aL (pS k c (dP bs N))) true) v (pS k c (dP bs N)) bs [] x ⟨.inr (.inr ⟨_,true,by rw [u,aBi],by rw [u];exact ay7 _⟩)⟩ z;have f:=fun m=>eW (kT d) (bN (.int .i64 0)) 1 m
  have l:=fun m=>eW (bN (.slice none 0 0)) (bN (.int .i64 150)) 1 m
  unfold ain at j;have H:=d.plain;have st:=cH d;generalize bD N (cA (dP bs N))=G at *
  generalize pS k c (dP bs N)=A at *
  replace f:=Hid.mk f;replace l:=Hid.mk l;replace e:=Hid.mk e;replace d:=Hid.mk d;replace o:=Hid.mk o;replace y:=Hid.mk y;by_cases a:kF w (dP bs N)=true
  ·rw [if_pos a] at j;by_cases b:A=bs
   ·rw [show (if kF w (dP bs N)=true∧A=bs then (0:Int) else 150)=0 from if_pos ⟨a,b⟩,if_pos rfl];rw [decide_eq_true b] at p;replace a:=Hid.mk a;replace b:=Hid.mk b;refine bI Tryz.func217 aB (h:=?_);unfold Tryz.f217;simp only [↓pre,zab,rH,simprocAttr,aA]
    (first | refine aH (i) (by first | rfl | simp only [aD, *]) ?_ | refine aG (i) (by first | rfl | simp only [aA,aD, *]) (by intro k;first | rfl | simp only [ *,zaa]) ?_);simp only [↓pre,zad,rH,simprocAttr];(first | refine aH (g) (by first | rfl | simp only [aA,aD, *]) ?_ | refine aG (g) (by first | rfl | simp only [aA,aD, *]) (by intro k;first | rfl | simp only [ *,zaa]) ?_);simp only [↓pre,zad,simprocAttr,q,t];(first | refine aH (s) (by first | rfl | simp only [aD, *]) ?_ | refine aG (s) (by first | rfl | simp only [aA,aD, *]) (by intro k;first | rfl | simp only [ *,zaa]) ?_);simp only [↓pre,zab,rH,simprocAttr,st];(first | refine aH (j) (by first | rfl | simp only [aD, *]) ?_ | refine aG (j) (by first | rfl | simp only [aA,aD, *]) (by intro k;first | rfl | simp only [ *,zaa]) ?_);simp only [↓pre,zab,simprocAttr];(first | refine aH (p) (by first | rfl | simp only [aD, *]) ?_ | refine aG (p) (by first | rfl | simp only [aA,aD, *]) (by intro k;first | rfl | simp only [ *,zaa]) ?_);simp only [↓pre,zad,simprocAttr]
    exact ⟨1,f.out _⟩
   ·rw [show (if kF w (dP bs N)=true∧A=bs then (0:Int) else 150)=150 from if_neg (fun h=>b h.2),if_neg (by decide)];rw [decide_eq_false b] at p;replace a:=Hid.mk a;replace b:=Hid.mk b;refine bI Tryz.func217 aB (h:=?_);unfold Tryz.f217;simp only [↓pre,zab,rH,simprocAttr,aA]
    (first | refine aH (i) (by first | rfl | simp only [aD, *]) ?_ | refine aG (i) (by first | rfl | simp only [aA,aD, *]) (by intro k;first | rfl | simp only [ *,zaa]) ?_);simp only [↓pre,zad,rH,simprocAttr];(first | refine aH (g) (by first | rfl | simp only [aA,aD, *]) ?_ | refine aG (g) (by first | rfl | simp only [aA,aD, *]) (by intro k;first | rfl | simp only [ *,zaa]) ?_);simp only [↓pre,zad,simprocAttr,q,t];(first | refine aH (s) (by first | rfl | simp only [aD, *]) ?_ | refine aG (s) (by first | rfl | simp only [aA,aD, *]) (by intro k;first | rfl | simp only [ *,zaa]) ?_);simp only [↓pre,zab,rH,simprocAttr,st];(first | refine aH (j) (by first | rfl | simp only [aD, *]) ?_ | refine aG (j) (by first | rfl | simp only [aA,aD, *]) (by intro k;first | rfl | simp only [ *,zaa]) ?_);simp only [↓pre,zab,simprocAttr];(first | refine aH (p) (by first | rfl | simp only [aD, *]) ?_ | refine aG (p) (by first | rfl | simp only [aA,aD, *]) (by intro k;first | rfl | simp only [ *,zaa]) ?_);simp only [↓pre,zad,simprocAttr]
    exact ⟨1,l.out _⟩
  ·rw [if_neg a] at j;rw [show (if kF w (dP bs N)=true∧A=bs then (0:Int) else 150)=150 from if_neg (fun h=>a h.1),if_neg (by decide)];replace a:=Hid.mk a;simp only [aN] at j;refine bI Tryz.func217 aB (h:=?_);unfold Tryz.f217;simp only [↓pre,zab,rH,simprocAttr,aA]
   (first | refine aH (i) (by first | rfl | simp only [aD, *]) ?_ | refine aG (i) (by first | rfl | simp only [aA,aD, *]) (by intro k;first | rfl | simp only [ *,zaa]) ?_);simp only [↓pre,zad,rH,simprocAttr];(first | refine aH (g) (by first | rfl | simp only [aA,aD, *]) ?_ | refine aG (g) (by first | rfl | simp only [aA,aD, *]) (by intro k;first | rfl | simp only [ *,zaa]) ?_);simp only [↓pre,zad,simprocAttr,q,t];(first | refine aH (s) (by first | rfl | simp only [aD, *]) ?_ | refine aG (s) (by first | rfl | simp only [aA,aD, *]) (by intro k;first | rfl | simp only [ *,zaa]) ?_);simp only [↓pre,zab,rH,simprocAttr,st];(first | refine aH (j) (by first | rfl | simp only [aD, *]) ?_ | refine aG (j) (by first | rfl | simp only [aA,aD, *]) (by intro k;first | rfl | simp only [ *,zaa]) ?_);simp only [↓pre,zad,simprocAttr]
   exact ⟨1,l.out _⟩
theorem av1 (l:List bJ) (r:l.length≤1000000):fH ayS 132 [bD l.length (cA l)] aF.empty fun a m=>Own m 67 2 a l.length (cA l):=by
 by_cases b:l.length=0
 ·have e:bD l.length (cA l)=aN:=by unfold bD;rw [if_pos b]
  rw [e];refine bI Tryz.func132 aB (h:=?_);unfold Tryz.f132;have i:∀ x y,dR ayS .eql 31 x y aN (.val (.slice none 0 0))=some (aV true):=fun x y=>by
   have:bZ ayS 31=some 67:=by kernel_rfl
   rfl
  unfold aN at *
  simp only [↓pre,zad,simprocAttr,i];rw [b,azY b];exact fC
 ·have e:bD l.length (cA l) = .tree l.length l.length (cA l) false:=by unfold bD;rw [if_neg b]
  rw [e];have i:∀ x y,dR ayS .eql 31 x y (.tree l.length l.length (cA l) false) (.val (.slice none 0 0))=some (aV false):=fun x y=>by
   have:bZ ayS 31=some 67:=by kernel_rfl
   simp [dR,this,rY,aV]
  have g:∀ m,gF ayS m 31 0 []=some ⟨.tree 0 0 [] true,m,none⟩:=fun m=>zP (el:=67) (sz:=2) (z:=[]) (by kernel_rfl) (by kernel_rfl) (by kernel_rfl) rfl rfl (by decide)
  have d:∀ m,gA ayS 67 m (.tree 0 0 [] true) (.tree l.length l.length (cA l) false)=some ⟨.sl m.next 0 l.length l.length false,m.push ⟨cA l,67,.flat,true⟩,none⟩:=fun m=>by
   have q:cE ayS 67=some 2:=by kernel_rfl
   have p:lB ayS 67=some 16:=by kernel_rfl
   have k:gN ayS 67=some [.int .i64 0,.int .i64 0]:=by kernel_rfl
   have o:bP ayS 67 = .flat:=by kernel_rfl
   have j:=acz (P:=ayS) (m:=m) (el:=67) (sz:=2) (n:=l.length) (c:=l.length) (cs:=cA l) (f:=false) (by rw [tD];omega);rw [aA7 (by rw [tD];omega)] at j;simp only [gA,q,p,k,o,j,eE,aAh];rw [if_pos ⟨by omega,by omega,rfl⟩];simp [b,bL]
  replace e:=Hid.mk e;refine bI Tryz.func132 aB (h:=?_);unfold Tryz.f132;simp only [↓pre,zad,asb,bE,simprocAttr,i,g,d];exact ⟨.inr ⟨_,rfl,by rw [aT,if_pos rfl],by rw [bM];omega,by omega⟩,tD _⟩
theorem av3 (l:List bJ) (b:l.length≤1000000):aR ayS 132 [bD l.length (cA l)] (rS (fun a=>a) l):=aam (sK (av1 l b) fun _ _ h=>aoq h)
def jR (k r c w:Int) (L:List (List UInt8)) (x:bJ):List UInt8:=mE k r c w (eI k r w L x.1) 1 x.2 k.toNat
def tG (k r c w:Int) (L:List (List UInt8)) (x:bJ) (n:Int):Int:=if iZ k r c w (eI k r w L x.1) 1 x.2 < k.toNat then 5 else rW k c w (jR k r c w L x) n
def yU (k r c w:Int) (L:List (List UInt8)) (x:bJ) (n:Int):List bJ:=dP (jR k r c w L x) n.toNat
def aio (k r c w:Int) (L:List (List UInt8)) (x:bJ) (n:Int):AV:=if tG k r c w L x n=0 then .tup [bD n.toNat (cA (yU k r c w L x n)),aC 0] else .tup [aN,aC (tG k r c w L x n)]
theorem abU {w:Int} {x:bJ} (h:jP w x=true):(0≤x.1∧x.1 < w)∧1≤x.2∧x.2≤1073741824:=by
 unfold jP at h;exact of_decide_eq_true h
theorem aap {k r c w:Int} {L:List (List UInt8)} {row:Int} (a:fA k r c w L=0) (h:0≤row∧row < w):kG k r c w L row=0:=by
 unfold kG;rw [if_pos a,if_neg (by omega)]
theorem av5 (k r c w:Int) (v:AV) (L:List (List UInt8)) (cells:List AV) (s:fQ v L cells) (G:fA k r c w L=0) (x:bJ) (H:jP w x=true) (n:Int):aR ayS 134 [dD k r c w v,.agg [aC x.1,aC x.2],aC n] ⟨aio k r c w L x n,[]⟩:=by
 refine d6 ?_;obtain ⟨y,z⟩:=abU H;have O:=s.rd.plain;have u:=b6 s.rd;have N:=bQ s.rd;have j:=aim k r c w x.1 v L cells s;have f:=aap G y;unfold adk at j;rw [if_pos f] at j;obtain ⟨A,C⟩:=aao f;have l:=gX C;have e:=afs k r c w L x.1 (by omega);have a:=aid k r c w 1 x.2 _ _ _ e C A (.inl rfl) (by unfold hU;exact decide_eq_true z);have M:=e.rd.plain;have p:=cH e.rd;unfold aio tG yU jR;unfold qQ at a;unfold dD at j ⊢;generalize bD (k+r).toNat (mY (eI k r w L x.1))=K at *
 generalize eI k r w L x.1=ps at *
 by_cases b:iZ k r c w ps 1 x.2 < k.toNat
 ·rw [if_pos b] at a;rw [if_pos b,if_neg (by decide)];have i:=fun m=>eW (bN (.slice none 0 0)) (bN (.int .i64 5)) 1 m
  simp only [aN] at a;replace i:=Hid.mk i;replace e:=Hid.mk e;replace l:=Hid.mk l;replace b:=Hid.mk b;replace f:=Hid.mk f;refine bI Tryz.func134 aB (h:=?_);unfold Tryz.f134;simp only [↓pre,zab,yC,simprocAttr,u]
  (first | refine aH (j) (by first | rfl | simp only [aD, *]) ?_ | refine aG (j) (by first | rfl | simp only [aA,aD, *]) (by intro k;first | rfl | simp only [ *,zaa]) ?_);simp only [↓pre,zad,yC,simprocAttr,p];(first | refine aH (a) (by first | rfl | simp only [aD, *]) ?_ | refine aG (a) (by first | rfl | simp only [aA,aD, *]) (by intro k;first | rfl | simp only [ *,zaa]) ?_);simp only [↓pre,zad,simprocAttr]
  exact ⟨1,i.out _⟩
 ·rw [if_neg b] at a;rw [if_neg b];have q:=wY k r c w ps 1 x.2 k.toNat;have B:((k.toNat*c.toNat:Nat):Int)=wI k c:=by unfold wI;rw [Int.natCast_mul,aB0 (by omega),aB0 (by omega)]
  have g:=dY (k.toNat*c.toNat) (aL (mE k r c w ps 1 x.2 k.toNat));have d:=av0 k r c w C (bD (k.toNat*c.toNat) (aL (mE k r c w ps 1 x.2 k.toNat))) (mE k r c w ps 1 x.2 k.toNat) [] (by rw [aBi,q];exact g) (by rw [q];exact B) n;have J:=g.plain;have F:=cH g;unfold abT at d;generalize mE k r c w ps 1 x.2 k.toNat=D at *
  generalize bD (k.toNat*c.toNat) (aL D)=P at *
  replace e:=Hid.mk e;replace g:=Hid.mk g;replace l:=Hid.mk l;replace b:=Hid.mk b;replace f:=Hid.mk f;by_cases t:rW k c w D n=0
  ·rw [if_pos t] at d ⊢;have o:=dY n.toNat (cA (dP D n.toNat));have i:=fun m=>eW (kT o) (bN (.int .i64 0)) 1 m
   have st:=cH o;generalize bD n.toNat (cA (dP D n.toNat))=I at *
   replace i:=Hid.mk i;replace t:=Hid.mk t;replace o:=Hid.mk o;refine bI Tryz.func134 aB (h:=?_);unfold Tryz.f134;simp only [↓pre,zab,yC,simprocAttr,u]
   (first | refine aH (j) (by first | rfl | simp only [aD, *]) ?_ | refine aG (j) (by first | rfl | simp only [aA,aD, *]) (by intro k;first | rfl | simp only [ *,zaa]) ?_);simp only [↓pre,zad,yC,simprocAttr,p];(first | refine aH (a) (by first | rfl | simp only [aD, *]) ?_ | refine aG (a) (by first | rfl | simp only [aA,aD, *]) (by intro k;first | rfl | simp only [ *,zaa]) ?_);simp only [↓pre,zad,yC,simprocAttr,F];(first | refine aH (d) (by first | rfl | simp only [aD, *]) ?_ | refine aG (d) (by first | rfl | simp only [aA,aD, *]) (by intro k;first | rfl | simp only [ *,zaa]) ?_);simp only [↓pre,zab,simprocAttr,st]
   exact ⟨1,i.out _⟩
  ·rw [if_neg t] at d ⊢;have i:=fun m=>eW (bN (.slice none 0 0)) (bN (.int .i64 (rW k c w D n))) 1 m
   generalize rW k c w D n=E at *
   simp only [aN] at d;replace i:=Hid.mk i;refine bI Tryz.func134 aB (h:=?_);unfold Tryz.f134;simp only [↓pre,zab,yC,simprocAttr,u]
   (first | refine aH (j) (by first | rfl | simp only [aD, *]) ?_ | refine aG (j) (by first | rfl | simp only [aA,aD, *]) (by intro k;first | rfl | simp only [ *,zaa]) ?_);simp only [↓pre,zad,yC,simprocAttr,p];(first | refine aH (a) (by first | rfl | simp only [aD, *]) ?_ | refine aG (a) (by first | rfl | simp only [aA,aD, *]) (by intro k;first | rfl | simp only [ *,zaa]) ?_);simp only [↓pre,zad,yC,simprocAttr,F];(first | refine aH (d) (by first | rfl | simp only [aD, *]) ?_ | refine aG (d) (by first | rfl | simp only [aA,aD, *]) (by intro k;first | rfl | simp only [ *,zaa]) ?_);simp only [↓pre,zab,simprocAttr]
   exact ⟨1,i.out _⟩
end Go.Proofs.YtaekhhlgnbhnpaaGreat
set_option linter.unusedVariables false
set_option linter.unusedSimpArgs false
set_option maxRecDepth 10000
namespace Go.Tw
open Go
theorem xZ.mono {P:Program} {f:FuncId} {args:List AV} {m:aF} {Q Q':AV→aF→Prop} (h:xZ P f args m Q) (e:∀ r m',Q r m'→Q' r m'):xZ P f args m Q' :=
 ⟨h.1,fun w I ρ vs a b c d=>(h.2 w I ρ vs a b c d).mono fun i u w' ⟨g,v,r,m',I',ρ',h1,h2,h3⟩=>⟨g,v,r,m',I',ρ',h1,e _ _ h2,h3⟩⟩
section
variable {v:Value} {cs:List AV} {a b c d:Nat} {f:Bool} {k:IntKind} {n:Int}
theorem aoF:(AV.val v).cells=[.val v]:=rfl
theorem aoG:(AV.agg cs).cells=cs:=rfl
theorem aoH:(AV.sl a b c d f).cells=[.sl a b c d f]:=rfl
theorem aoI:(AV.tree a b cs f).cells=[.tree a b cs f]:=rfl
theorem aoJ:g8 (.agg cs)=true:=rfl
theorem aoK:g8 (.val (.int k n))=true:=rfl
theorem aoL:g8 (.val (.bool f))=true:=rfl
theorem aoM:g8 (.val (.slice none 0 0))=true:=rfl
theorem aoN:g8 (.sl a b c d f)=true:=rfl
theorem aoO:g8 (.tree a b cs f)=true:=rfl
end
def kY:=(⟨@aoF,@aoG,@aoH,@aoI,@aoJ,@aoK,@aoL,@aoM,@aoN,@aoO⟩:_∧_∧_∧_∧_∧_∧_∧_∧_∧_)
end Go.Tw
namespace Go.Proofs.YtaekhhlgnbhnpaaGreat
open Go Go.Tw Go.Proofs Go.Gf
structure ObB (m:aF) (d0 d1 d2 ve lv sv:AV) (E:Int):Prop where
 d:m.at_ 0=some ⟨[d0,d1,d2],33,.var,true⟩
 v:m.at_ 1=some ⟨[ve],3,.var,true⟩
 l:m.at_ 2=some ⟨[lv],31,.var,true⟩
 s:m.at_ 3=some ⟨[sv],31,.var,true⟩
 e:m.at_ 4=some ⟨[aC E],28,.var,true⟩
theorem av6 (m:aF) {d0 d1 d2 ve lv sv:AV} (h:ObB m d0 d1 d2 ve lv sv 0):xZ ayS 131 [.ptr 4 0,.ptr 0 0,.ptr 1 0,.ptr 2 0,.ptr 3 0] m fun _ m'=>m'=m:=by
 have a:=h.e;refine ald follows Tryz.func131 (by unfold Tryz.f131;rfl) (by unfold Tryz.f131;simp) aB (by unfold Tryz.f131;simp) (by kernel_rfl) ?_;unfold Tryz.f131;simp only [↓pre,zab,amg,simprocAttr,a]
theorem av7 (m:aF) {d0 d1 d2 ve lv sv:AV} {E:Int} (b:E≠0) (h:ObB m d0 d1 d2 ve lv sv E):xZ ayS 131 [.ptr 4 0,.ptr 0 0,.ptr 1 0,.ptr 2 0,.ptr 3 0] m fun _ m'=>ObB m' (aC 0) (aC 0) aN (aC 0) aN aN E:=by
 obtain ⟨c,d,e,hs,a⟩:=h;refine ald follows Tryz.func131 (by unfold Tryz.f131;rfl) (by unfold Tryz.f131;simp) aB (by unfold Tryz.f131;simp) (by kernel_rfl) ?_;unfold Tryz.f131;simp only [↓pre,zae,amg,aBj,simprocAttr,aJ,c,d,e,hs,a,b];refine ⟨?_, ?_, ?_, ?_, ?_⟩ <;> simp [aO,a,aN,aC]
def qT (k r c w:Int) (L:List (List UInt8)):List bJ→Int→Int
 | [],_=>0
 | x::xs,n=>if tG k r c w L x (min n (lI k c))=0 then qT k r c w L xs (n - min n (lI k c)) else tG k r c w L x (min n (lI k c))
def oB (k r c w:Int) (L:List (List UInt8)):List bJ→Int→List bJ
 | [],_=>[]
 | x::xs,n=>yU k r c w L x (min n (lI k c))++oB k r c w L xs (n - min n (lI k c))
theorem aft (k r c w:Int) (L:List (List UInt8)) (x:bJ) (n:Int):(yU k r c w L x n).length=n.toNat:=abN _ _
theorem afu {k r c w:Int} {L:List (List UInt8)} {x:bJ} {n:Int} (h:tG k r c w L x n=0):1≤n∧n≤lI k c:=by
 unfold tG at h;split at h
 ·omega
 ·unfold rW at h;split at h
  ·omega
  ·omega
def dC (k r c w:Int) (L:List (List UInt8)) (row:Int):List UInt8:=fY k r c w (eI k r w L row)
def jS (k r c w:Int) (L:List (List UInt8)) (row:Int):Int:=if kG k r c w L row=0 then (if i4 k r c w (eI k r w L row)=0 then (if dQ (dC k r c w L row)=0 then 0 else qT k r c w L (cY (dC k r c w L row)) (oS k r c w (cK (dC k r c w L row)))) else i4 k r c w (eI k r w L row)) else kG k r c w L row
def pU (k r c w:Int) (L:List (List UInt8)) (row:Int):List bJ:=if dQ (dC k r c w L row)=0 then [] else cY (dC k r c w L row)
def gV (k r c w:Int) (L:List (List UInt8)) (row:Int):List bJ:=if dQ (dC k r c w L row)=0 then cY (dC k r c w L row) else oB k r c w L (cY (dC k r c w L row)) (oS k r c w (cK (dC k r c w L row)))
def xB (l:List bJ):AV:=bD l.length (cA l)
def aip (k r c w:Int) (L:List (List UInt8)) (row:Int):AV:=if jS k r c w L row=0 then .tup [rU (cK (dC k r c w L row)) (dQ (dC k r c w L row)) (cY (dC k r c w L row)),aC (gT k r c w (eI k r w L row)),xB (pU k r c w L row),xB (gV k r c w L row),aC 0] else .tup [oX,aC 0,aN,aN,aC (jS k r c w L row)]
theorem av8 {a b c d e:AV} (i:eH a) (g:eH b) (h:eH c) (k:eH d) (j:eH e):eH (.tup [a,b,c,d,e]):=ac7 fun x f=>by
 simp only [az4,aBT,or_false] at f;rcases f with rfl | rfl | rfl | rfl | rfl <;> assumption
theorem av9:eH oX:=wW fun c a=>by
 simp only [az4,aBT,or_false] at a;rcases a with rfl | rfl | rfl <;> exact bN _
theorem awa {k r c w:Int} {ps:List bO} (h:i4 k r c w ps=0):eJ k r c w ps=0∧gT k r c w ps≠0∧¬ iZ k r c w ps 2 (gT k r c w ps) < k.toNat∧mX k r c w (fY k r c w ps)=0:=by
 unfold i4 at h;split at h
 ·rename_i b;split at h
  ·contradiction
  ·rename_i d;split at h
   ·contradiction
   ·rename_i a;exact ⟨b,d,a,h⟩
 ·contradiction
theorem afv {k r c w:Int} {ps:List bO} (h:i4 k r c w ps=0):kW k r c w (cK (fY k r c w ps)) (dQ (fY k r c w ps)) (cY (fY k r c w ps))=0:=by
 obtain ⟨d,_,_,a⟩:=awa h;unfold mX at a;split at a
 ·split at a
  ·split at a
   ·rename_i b;unfold rT at b;rw [aAn,aAn,decide_eq_true_eq,decide_eq_true_eq] at b;exact b.2.1
   ·contradiction
  ·contradiction
 ·contradiction
theorem aoP {k r c w len dep:Int} {l:List bJ} (h:kW k r c w len dep l=0):oE k r c w len=0∧dep=min (oF k r c w len) 1∧(l.length:Int)=if dep=0 then oS k r c w len else oF k r c w len:=by
 obtain ⟨e,b⟩:=adb h;unfold rR at b;simp only [aAn,decide_eq_true_eq] at b;obtain ⟨f,j,d,g⟩:=b;have i:=ac9 (r:=r) (w:=w) (n:=len) e;refine ⟨f,by omega, ?_⟩;rw [d];by_cases a:dep=0
 ·rw [if_neg (by omega),if_pos a]
 ·rw [if_pos (by omega),if_neg a]
end Go.Proofs.YtaekhhlgnbhnpaaGreat
namespace Go.Proofs.YtaekhhlgnbhnpaaGreat
open Go Go.Tw Go.Proofs Go.Gf
abbrev obR:List ResultVar:=[.cell 4 33,.cell 5 3,.cell 6 31,.cell 7 31,.cell 8 28]
abbrev obC:List AV:=[.ptr 4 0,.ptr 0 0,.ptr 1 0,.ptr 2 0,.ptr 3 0]
structure ObE (e:bB):Prop where
 a:e 4 = .ptr 0 0
 b:e 5 = .ptr 1 0
 c:e 6 = .ptr 2 0
 d:e 7 = .ptr 3 0
 e:e 8 = .ptr 4 0
theorem aoQ {m:aF} {e:bB} {d0 d1 d2 ve lv sv:AV} {E:Int} (h:ObB m d0 d1 d2 ve lv sv E) (g:ObE e):oK ayS obR e m=some (.tup [.agg [d0,d1,d2],ve,lv,sv,aC E]):=by
 obtain ⟨j,k,l,hs,b⟩:=h;obtain ⟨f,c,i,a,d⟩:=g;simp only [oK,uT,xN,lO,f,c,i,a,d,j,k,l,hs,b,aAh,if_neg (show ¬ fZ.var=fZ.hole by decide),oJ,show xK ayS 33=some true by kernel_rfl,show cE ayS 33=some 3 by kernel_rfl,show xK ayS 3=some false by kernel_rfl,show xK ayS 31=some false by kernel_rfl,show xK ayS 28=some false by kernel_rfl];rfl
structure oC (m:aF) (dv:AV) (D:List bJ) (lv:AV) (LL:List bJ) (sv:AV) (SS:List bJ):Prop where
 d:Own m 67 2 dv D.length (cA D)
 l:Own m 67 2 lv LL.length (cA LL)
 s:Own m 67 2 sv SS.length (cA SS)
 dl:∀ b,cI dv=some b→cI lv≠some b
 ds:∀ b,cI dv=some b→cI sv≠some b
 ls:∀ b,cI lv=some b→cI sv≠some b
 db:∀ b,cI dv=some b→5≤b
 lb:∀ b,cI lv=some b→5≤b
 sb:∀ b,cI sv=some b→5≤b
theorem oC.box {m m':aF} {dv lv sv:AV} {D g i:List bJ} (h:oC m dv D lv g sv i) (e:m.next≤m'.next) (f:∀ j k,5≤j→j < m.next→m.at_ j=some k→m'.at_ j=some k):oC m' dv D lv g sv i :=
 ⟨h.d.keep e fun b k a c=>f b k (h.db b a) (aan h.d b a) c,h.l.keep e fun b k a c=>f b k (h.lb b a) (aan h.l b a) c,h.s.keep e fun b k a c=>f b k (h.sb b a) (aan h.s b a) c,h.dl,h.ds,h.ls,h.db,h.lb,h.sb⟩
theorem oC.app {m m':aF} {dv lv sv f:AV} {D n r c:List bJ} (h:oC m dv D lv n sv r) (q:Own m' 67 2 f c.length (cA c)) (o:m.next≤m'.next) (p:∀ j k,m.at_ j=some k→j < m.next→cI sv≠some j→m'.at_ j=some k) (i:∀ j,cI f=some j→j=m.next∨cI sv=some j) (s:5≤m.next):oC m' dv D lv n f c :=
 ⟨h.d.keep o fun b k a g=>p b k g (aan h.d b a) (h.ds b a),h.l.keep o fun b k a g=>p b k g (aan h.l b a) (h.ls b a),q,h.dl,
  fun b a g=>(i b g).elim (fun e=>by have:=aan h.d b a;omega) (h.ds b a),fun b a g=>(i b g).elim (fun e=>by have:=aan h.l b a;omega) (h.ls b a),h.db,h.lb,fun b a=>(i b a).elim (fun e=>by omega) (h.sb b)⟩
theorem adf.three {m a:aF} {dv:AV} {D:List bJ} (h:adf m a dv D) (d:5≤m.next):oC a dv D aN [] aN [] :=
 ⟨h.own,fC,fC,fun _ _ h=>(by cases h),fun _ _ h=>(by cases h),fun _ h=>(by cases h),fun b c=>by have:=h.blk b c;omega,fun _ h=>(by cases h),fun _ h=>(by cases h)⟩
theorem oC.ofS {m c:aF} {dv sv:AV} {D S:List bJ} (h:oC m dv D aN [] aN []) (a:adf m c sv S) (d:5≤m.next):oC c dv D aN [] sv S :=
 h.app a.own a.next (fun j k b e _=>a.keep j k b e) (fun j b => .inl (a.blk j b)) d
theorem oC.ofL {m c:aF} {dv lv:AV} {D b:List bJ} (h:oC m dv D aN [] aN []) (f:adf m c lv b) (e:5≤m.next):oC c dv D lv b aN []:=by
 have a:=h.ofS f e;exact ⟨a.d,a.s,fC,a.ds,fun _ _ h=>(by cases h),fun _ _ h=>(by cases h),a.db,a.sb,fun _ h=>(by cases h)⟩
def ObQ (E len dep W:Int) (D b c:List bJ) (a:AV) (m:aF):Prop:=(E=0∧∃ dv lv sv,a = .tup [.agg [aC len,aC dep,dv],aC W,lv,sv,aC 0]∧oC m dv D lv b sv c)∨(E≠0∧a = .tup [oX,aC 0,aN,aN,aC E])
theorem adl {m:aF} {e:bB} {d0 d1 d2 ve lv sv:AV} {E len dep W:Int} {D c f:List bJ} (a:E≠0) (h:ObB m d0 d1 d2 ve lv sv E) (d:ObE e):agS ayS obR 131 obC (ObQ E len dep W D c f) .ret e m :=
 (av7 m a h).mono fun _ m' b=>by
  rw [aoQ b d];exact .inr ⟨a,rfl⟩
theorem aoR {m:aF} {e:bB} {len dep W:Int} {dv lv sv:AV} {D a b:List bJ} (f:oC m dv D lv a sv b) (h:ObB m (aC len) (aC dep) dv (aC W) lv sv 0) (d:ObE e):agS ayS obR 131 obC (ObQ 0 len dep W D a b) .ret e m :=
 (av6 m h).mono fun _ m' c=>by
  subst c;rw [aoQ h d];exact .inl ⟨rfl,_,_,_,rfl,f⟩
def i5:Nat→Bool:=fun d=>d != 4 && d != 5 && d != 6 && d != 7 && d != 8
theorem awb (k r c w row:Int) (v:AV) (L:List (List UInt8)) (cells:List AV) (hv:fQ v L cells):fH ayS 59 [dD k r c w v,aC row] aF.empty (ObQ (jS k r c w L row) (cK (dC k r c w L row)) (dQ (dC k r c w L row)) (gT k r c w (eI k r w L row)) (cY (dC k r c w L row)) (pU k r c w L row) (gV k r c w L row)):=by
 have hp:=hv.rd.plain;have hf:=b6 hv.rd;have ho:=bQ hv.rd;have z:=abQ k r c w v L cells hv;have F:=aim k r c w row v L cells hv;unfold jS;unfold dD at z F ⊢;unfold adk at F;have n4:gN ayS 33=some [.int .i64 0,.int .i64 0,.slice none 0 0]:=by kernel_rfl
 by_cases hR:kG k r c w L row=0
 ·rw [if_pos hR] at F ⊢;obtain ⟨n3,hm⟩:=aao hR;have hE:fA k r c w L=0:=by
   unfold kG at hR;split at hR
   ·assumption
   ·assumption
  have a3:¬ row < 0∧¬ w≤row:=by
   unfold kG at hR;rw [if_pos hE] at hR;split at hR
   ·omega
   ·omega
  obtain ⟨h1,h2⟩:=a3;rw [hE] at z;have b9:=gX hm;have H:=afs k r c w L row (by omega);have C:=avO k r c w _ _ _ H;have k9:=H.rd.plain;have h9:=cH H.rd;have m0:=bQ H.rd;unfold pU gV dC;generalize bD (k+r).toNat (mY (eI k r w L row))=RV at *
  generalize eI k r w L row=ps at *
  unfold aik at C;refine ale follows Tryz.func59 (by unfold Tryz.f59;rfl) (by unfold Tryz.f59;simp) i5 (by unfold Tryz.f59;simp) (by kernel_rfl) (by kernel_rfl) (by unfold Tryz.f59;decide) (by kernel_rfl) ?_;unfold agT Tryz.f59;by_cases hC:i4 k r c w ps=0
  ·rw [if_pos hC] at C ⊢;have hD:=afv hC;obtain ⟨j1,l0,a6,c8,f5⟩:=abM hD;obtain ⟨h8,h3,h6⟩:=aoP hD;have hw:=g9 hm;have f7:=yE hw.1 hw.2;have h7:=av3 (cY (fY k r c w ps)) (by unfold dI at c8;omega);have c7:=amK k r c w (cK (fY k r c w ps));have e0:=ahs k r c w;simp only [hm,if_true] at e0;rw [h8] at c7;generalize gT k r c w ps=W at *
   generalize dQ (fY k r c w ps)=PD at *
   generalize cK (fY k r c w ps)=PL at *
   generalize cY (fY k r c w ps)=u at *
   generalize X:(if PD=0 then (0:Int) else qT k r c w L u (oS k r c w PL))=EQ;generalize a0:(if PD=0 then ([]:List bJ) else u)=LQ;generalize Z:(if PD=0 then u else oB k r c w L u (oS k r c w PL))=SQ;replace X:=Hid.mk X;replace a0:=Hid.mk a0;replace Z:=Hid.mk Z;replace f5:=Hid.mk f5;replace h3:=Hid.mk h3;replace h6:=Hid.mk h6;replace H:=Hid.mk H;replace b9:=Hid.mk b9;replace hw:=Hid.mk hw;replace f7:=Hid.mk f7;replace hD:=Hid.mk hD;replace c8:=Hid.mk c8;replace a6:=Hid.mk a6;simp only [aC] at C F;simp only [↓pre,zaj,j2,kY,i5,aM,simprocAttr,bne,aBS,hf]
   (first | refine aH (z) (by first | rfl | simp only [aD, *]) ?_ | refine aG (z) (by first | rfl | simp only [aA,aD, *]) (by intro k;first | rfl | simp only [ *,zaa]) ?_);simp only [↓pre,zaj,j2,i5,aBj,simprocAttr,bne,aJ,aBS,h1,h2];(first | refine aH (F) (by first | rfl | simp only [aD, *]) ?_ | refine aG (F) (by first | rfl | simp only [aA,aD, *]) (by intro k;first | rfl | simp only [ *,zaa]) ?_);simp only [↓pre,zaj,j2,i5,simprocAttr,bne,aJ,aBS,h9]
   refine ade (fun a => .tup [.agg [.val (.int .i64 PL),.val (.int .i64 PD),a],.val (.int .i64 W),.val (.int .i64 0)]) C (qE 3 _ (by simp [c9,plain,k9])).1 (fun _ _=>rfl) (fun _ _=>by simp [jX,lP]) fun dv m1 hN => ?_
   have f:=hN.abs;clear hN;have c0:=f.keep 0 ⟨[.val (.int .i64 0),.val (.int .i64 0),.val (.slice none 0 0)],33,.var,true⟩ (by simp [aO,aT,bM,a8]) (by simp [bX,bM,a8]);have c1:=f.keep 1 ⟨[.val (.int .i64 0)],3,.var,true⟩ (by simp [aO,aT,bM,a8]) (by simp [bX,bM,a8]);have c2:=f.keep 2 ⟨[.val (.slice none 0 0)],31,.var,true⟩ (by simp [aO,aT,bM,a8]) (by simp [bX,bM,a8]);have c3:=f.keep 3 ⟨[.val (.slice none 0 0)],31,.var,true⟩ (by simp [aO,aT,bM,a8]) (by simp [bX,bM,a8]);have c4:=f.keep 4 ⟨[.val (.int .i64 0)],28,.var,true⟩ (by simp [aO]) (by simp [bX,bM,a8]);have hT:=f.three (by simp [bX,bM,a8]);have b7:5≤m1.next:=Nat.le_trans (by simp [bX,bM,a8]) f.next;have k1:=f.cells;have k2:=f.ok;have k3:=f.one;clear f;replace hT:=Hid.mk hT;replace b7:=Hid.mk b7;simp only [↓pre,za,j2,kY,i5,aBj,aBd,simprocAttr,bne,aJ,aBS,c0,c1,c4];by_cases c5:PD=0
   ·have q1:=X.out;have q2:=a0.out;have q3:=Z.out;rw [if_pos c5] at q1 q2 q3;clear X a0 Z;subst q1 q2 q3 c5;simp only [↓pre,za,j2,i5,aBj,aBd,simprocAttr,bne,aBS];generalize D:aF.put (aF.put (aF.put m1 _ _) _ _) _ _=M;have tM:=hT.out.box (m':=M) (by rw [←D];simp [bX]) (fun j k h5 _ hk=>by rw [←D,aO,if_neg (by omega),aO,if_neg (by omega),aO,if_neg (by omega)];exact hk);have nM:5≤M.next:=by rw [←D];simpa [bX] using b7.out
    have d0:M.at_ 0=some ⟨[.val (.int .i64 PL),.val (.int .i64 0),dv],33,.var,true⟩:=by rw [←D];simp [aO]
    have d1:M.at_ 1=some ⟨[.val (.int .i64 W)],3,.var,true⟩:=by rw [←D];simp [aO]
    have d2:=c2;have d3:=c3;rw [show m1.at_ 2=M.at_ 2 by rw [←D];simp [aO]] at d2;rw [show m1.at_ 3=M.at_ 3 by rw [←D];simp [aO]] at d3;have d4:M.at_ 4=some ⟨[.val (.int .i64 0)],28,.var,true⟩:=by rw [←D];simp [aO]
    clear D c0 c1 c2 c3 c4;refine ade (fun a=>a) h7 (aop tM.d) (fun _ _=>rfl) (fun _ _=>by simp [jX]) fun sv m2 hN => ?_
    have f:=hN.abs;clear hN;have t2:=tM.ofS f nM;have b0:=f.keep 0 _ d0 (by omega);have b1:=f.keep 1 _ d1 (by omega);have b2:=f.keep 2 _ d2 (by omega);have b3:=f.keep 3 _ d3 (by omega);have b4:=f.keep 4 _ d4 (by omega);have k4:=f.cells;have k5:=f.ok;have k6:=f.one;replace f:=Hid.mk f;replace t2:=Hid.mk t2;replace tM:=Hid.mk tM;simp only [↓pre,zah,j2,i5,simprocAttr,bne,aJ,aBS,k4,k5,b3];refine aoR (t2.out.box (by simp [bX]) (fun j k h5 _ hk=>by rw [aO,if_neg (by omega)];exact hk)) ⟨?_, ?_, ?_, ?_, ?_⟩ ⟨rfl,rfl,rfl,rfl,rfl⟩
    all_goals simp [aO,b0,b1,b2,b4,aC,aN]
   ·have q1:=X.out;have q2:=a0.out;have q3:=Z.out;rw [if_neg c5] at q1 q2 q3;clear X a0 Z;subst q2;simp only [↓pre,za,j2,i5,aBj,aBd,simprocAttr,bne,aBS,c5];generalize D:aF.put (aF.put (aF.put m1 _ _) _ _) _ _=M;have tM:=hT.out.box (m':=M) (by rw [←D];simp [bX]) (fun j k h5 _ hk=>by rw [←D,aO,if_neg (by omega),aO,if_neg (by omega),aO,if_neg (by omega)];exact hk);have nM:5≤M.next:=by rw [←D];simpa [bX] using b7.out
    have d0:M.at_ 0=some ⟨[.val (.int .i64 PL),.val (.int .i64 PD),dv],33,.var,true⟩:=by rw [←D];simp [aO]
    have d1:M.at_ 1=some ⟨[.val (.int .i64 W)],3,.var,true⟩:=by rw [←D];simp [aO]
    have d2:=c2;have d3:=c3;rw [show m1.at_ 2=M.at_ 2 by rw [←D];simp [aO]] at d2;rw [show m1.at_ 3=M.at_ 3 by rw [←D];simp [aO]] at d3;have d4:M.at_ 4=some ⟨[.val (.int .i64 0)],28,.var,true⟩:=by rw [←D];simp [aO]
    clear D c0 c1 c2 c3 c4;refine ade (fun a=>a) h7 (aop tM.d) (fun _ _=>rfl) (fun _ _=>by simp [jX]) fun f1 m2 hN => ?_
    have f:=hN.abs;clear hN;have t2:=tM.ofL f nM;have b0:=f.keep 0 _ d0 (by omega);have b1:=f.keep 1 _ d1 (by omega);have b2:=f.keep 2 _ d2 (by omega);have b3:=f.keep 3 _ d3 (by omega);have b4:=f.keep 4 _ d4 (by omega);have k4:=f.cells;have k5:=f.ok;have k6:=f.one;have n2:=Nat.le_trans nM f.next;replace f:=Hid.mk f;replace t2:=Hid.mk t2;replace tM:=Hid.mk tM;have g6:PD=1:=by have:=a6.out;omega
    have f2:0≤oS k r c w PL∧oS k r c w PL≤40000:=by
     have hw:=hw.out;have:=abr (a:=PL) (b:=wI k c) j1 l0 (by unfold wI;omega) (by unfold wI;omega);unfold oS;rw [if_pos h8];unfold sI;omega
    have f3:=sQ hw.out.1 hw.out.2;have a2:5≤lI k c∧lI k c≤128:=f3;have l1:u.length≤126:=by have:=c8.out;have:=f7.out;unfold dI at *;omega
    have V:=fun (i:Nat) (x:bJ) (hi:u[i]? = some x) n=>av5 k r c w v L cells hv hE x (by
     have:=f5.out x (az5 hi);unfold jP;exact decide_eq_true this) n
    have A:=fun i x hi=>xA u [] i x hi
    rw [aBi] at A;unfold dD at V;have e3:=avA t2.out.l;generalize oS k r c w PL=OS at *
    generalize e1:lI k c=LI at *
    replace e1:=Hid.mk e1;replace g6:=Hid.mk g6;replace q1:=Hid.mk q1;replace q3:=Hid.mk q3;replace f2:=Hid.mk f2;replace V:=Hid.mk V;replace A:=Hid.mk A;replace a2:=Hid.mk a2;replace f3:=Hid.mk f3;simp only [aC] at c7 e0;simp only [↓pre,za,j2,i5,aBj,simprocAttr,bne,aJ,aBS,k4,k5,b0,b2]
    (first | refine aH (c7) (by first | rfl | simp only [aA,aD, *]) ?_ | refine aG (c7) (by first | rfl | simp only [aA,aD, *]) (by intro k;first | rfl | simp only [ *,zaa]) ?_);simp only [↓pre,za,j2,i5,simprocAttr,bne,aJ,aBS,b4];(first | refine aH (e0) (by first | rfl | simp only [aA,aD, *]) ?_ | refine aG (e0) (by first | rfl | simp only [aA,aD, *]) (by intro k;first | rfl | simp only [ *,zaa]) ?_);simp only [↓pre,za,j2,i5,simprocAttr,bne,aJ,aBS,e3]
    rw [bS];refine bU (fun q e m=>∃ i left Y lv,q+i=u.length∧ObE e∧e 2 = .tptr 0 [aC k,aC r,aC c,aC w,v]∧e 10=aC left∧e 11=aC LI∧e 74=f1∧e 75=aC (u.length:Nat)∧e 76=aC (i:Nat)∧Hid ((0≤left∧left≤40000)∧ObB m (aC PL) (aC PD) dv (aC W) f1 lv 0∧5≤m.next∧oC m dv u f1 u lv Y∧qT k r c w L (u.drop i) left=EQ∧Y++oB k r c w L (u.drop i) left=SQ∧Y.length≤i*128)) u.length ⟨0,OS,[],aN,by omega,⟨rfl,rfl,rfl,rfl,rfl⟩,rfl,rfl,rfl,rfl,rfl,rfl,⟨f2.out,⟨by simp [aO,b0,aC],by simp [aO,b1,aC],by simp [aO],by simp [aO,b3,aN],by simp [aO,aC]⟩,by simpa [bX] using n2,t2.out.box (by simp [bX]) (fun j k h5 _ hk=>by rw [aO,if_neg (by omega),aO,if_neg (by omega),aO,if_neg (by omega)];exact hk),q1.out,q3.out,by simp⟩⟩ ?_;clear b0 b1 b2 b3 b4 d0 d1 d2 d3 d4;rintro q e m ⟨i,left,Y,lv,hq,he,e2,f4,f8,f6,c6,b5,hJ⟩;replace hq:=Hid.mk hq;obtain ⟨k8,hB,k7,g,o,B,a9⟩:=hJ.out;clear hJ;obtain ⟨e4,e5,e6,e7,e8⟩:=he;obtain ⟨b0,b1,b2,b3,b4⟩:=hB;have g0:¬ (0=m.next):=by omega
    have g1:¬ (1=m.next):=by omega
    have g2:¬ (2=m.next):=by omega
    have g3:¬ (3=m.next):=by omega
    have g4:¬ (4=m.next):=by omega
    by_cases a4:i < u.length
    ·have U:((i:Nat):Int) < ((u.length:Nat):Int):=by omega
     have wi:=bY (n:=i) (by omega);obtain ⟨b,h0,h4,n1⟩:=g.l.sl (by omega);have gb:¬ b=m.next:=by omega
     have m5:=g.lb b (by rw [h0];rfl);have l2:¬ b=4:=by omega
     subst h0;obtain ⟨x,hx⟩:∃ x,u[i]? = some x:=⟨_,azj a4⟩
     obtain ⟨ha,hb⟩:=A.out i x hx;obtain ⟨ht,g5⟩:=rL ha hb;have S:u.drop i=x::u.drop (i+1):=by
      rw [List.drop_eq_getElem_cons a4];congr 1;rw [azj a4] at hx;exact Option.some.inj hx
     have p:=V.out i x hx (min left LI);rw [S] at o B;simp only [qT,oB,e1.out] at o B;unfold aio at p;replace S:=Hid.mk S;replace hx:=Hid.mk hx;have R:=aft k r c w L x (min left LI);have a7:=afu (k:=k) (r:=r) (c:=c) (w:=w) (L:=L) (x:=x) (n:=min left LI);by_cases Q:tG k r c w L x (min left LI)=0
     ·rw [if_pos Q] at o p;obtain ⟨k0,i0⟩:=a7 Q;obtain ⟨N,hN⟩:∃ N:Nat,min left LI=(N:Int):=⟨(min left LI).toNat,by omega⟩
      rw [hN] at o p B R k0 i0;rw [aA8] at p R;generalize yU k r c w L x ↑N=LR at *
      have a1:=dY N (cA LR);have pT:=a1.plain;have sT:=cH a1;have lT:=fun t ht=>a1.len' (P:=ayS) (t:=t) ht
      have T:=fun m=>a1.src (P:=ayS) (m:=m) (el:=67) (sz:=2) (by rw [tD];omega)
      rw [show (cA LR).take (N*2)=cA LR from aA7 (by rw [tD];omega)] at T;generalize bD N (cA LR)=TR at *
      have n0:N≤128:=by have:=a2.out;omega
      have wl:azv.wrap (left - (N:Int))=left - (N:Int):=eD (by omega) (by omega);replace R:=Hid.mk R;replace o:=Hid.mk o;replace B:=Hid.mk B;replace g:=Hid.mk g;replace a9:=Hid.mk a9;replace a7:=Hid.mk a7;replace a1:=Hid.mk a1;replace T:=Hid.mk T;replace Q:=Hid.mk Q;have l3:4 < m.next:=k7;simp only [↓pre,zam,j2,kY,i5,aM,simprocAttr,bne,aJ,aBS,e2,f4,f8,f6,c6,b5,U,a4,h4,ht,g5,hN]
      (first | refine aH (p) (by first | rfl | simp only [aD, *]) ?_ | refine aG (p) (by first | rfl | simp only [aA,aD, *]) (by intro k;first | rfl | simp only [ *,zaa]) ?_);simp only [↓pre,za,j2,i5,bE,simprocAttr,bne,aJ,aBS,e7,e8,b3,b4,g3,g4,sT]
      generalize G:aF.put (aF.put (aF.push m _) _ _) _ _=m3;have c0:m3.at_ 0=some ⟨[aC PL,aC PD,dv],33,.var,true⟩:=by rw [←G];simp [aO,aT,b0,g0]
      have c1:m3.at_ 1=some ⟨[aC W],3,.var,true⟩:=by rw [←G];simp [aO,aT,b1,g1]
      have c2:m3.at_ 2=some ⟨[.sl b 0 u.length u.length false],31,.var,true⟩:=by rw [←G];simp [aO,aT,b2,g2]
      have c3:m3.at_ 3=some ⟨[lv],31,.var,true⟩:=by rw [←G];simp [aO,aT,b3,g3]
      have c4:m3.at_ 4=some ⟨[aC 0],28,.var,true⟩:=by rw [←G];simp [aO,aC]
      have cn:5≤m3.next:=by rw [←G];simp only [bX,bM];omega
      have co:=g.out.box (m':=m3) (by rw [←G];simp only [bX,bM];omega) fun j kk h5 hj hk=>by
       rw [←G,aO,if_neg (by omega),aO,if_neg (by omega),aT,if_neg (by omega)];exact hk
      clear G g;have O:=a9.out;have l4:N≤1000000:=by omega
      refine x4 (kd := .flat) (y:=16) (zl:=[.int .i64 0,.int .i64 0]) (by kernel_rfl) co.s (by kernel_rfl) (by kernel_rfl) (by kernel_rfl) rfl (T.out m3) (by rw [tD];have:=R.out;omega) (by omega) (by omega) ?_;intro a5 m4 b8 j0 I e9;have J:∀ j,j≤4→cI lv≠some j:=fun j h1 h2=>by have:=co.sb j h2;omega
      have d0:=I 0 _ c0 (by omega) (J 0 (by omega));have d1:=I 1 _ c1 (by omega) (J 1 (by omega));have d2:=I 2 _ c2 (by omega) (J 2 (by omega));have d3:=I 3 _ c3 (by omega) (J 3 (by omega));have d4:=I 4 _ c4 (by omega) (J 4 (by omega));have f0:oC m4 dv u (.sl b 0 u.length u.length false) u a5 (Y++LR):=co.app (by rw [afn,aAZ,R.out];exact b8) j0 I e9 cn;have i1:a5.cells=[a5]∧g8 a5=true:=by
       rcases b8.form with ⟨rfl,_⟩ | ⟨b,rfl,_⟩
       ·exact ⟨rfl,rfl⟩
       ·exact ⟨rfl,rfl⟩
      obtain ⟨i2,i3⟩:=i1;replace I:=Hid.mk I;replace e9:=Hid.mk e9;replace co:=Hid.mk co;replace f0:=Hid.mk f0;replace J:=Hid.mk J;replace b8:=Hid.mk b8;replace O:=Hid.mk O;simp only [↓pre,za,j2,i5,simprocAttr,bne,aJ,aBS,e2,e7,f4,f8,f6,c6,b5,d3,i2,i3,lT,wl,wi];refine ⟨q - 1,by have:=hq.out;omega,i+1,left - N,Y++LR,a5,by have:=hq.out;omega,⟨e4,e5,e6,e7,e8⟩,rfl,rfl,⟨⟨by omega,by omega⟩,⟨?_, ?_, ?_, ?_, ?_⟩,by omega,f0.out.box (by rw [bX];exact ay7 _) (fun j kk h5 hj hk=>by rw [aO,if_neg (by omega)];exact hk),o.out,by rw [List.append_assoc];exact B.out,by rw [aAZ];have:=R.out;have:=O.out;omega⟩⟩
      ·rw [aO,if_neg (by decide)];exact d0
      ·rw [aO,if_neg (by decide)];exact d1
      ·rw [aO,if_neg (by decide)];exact d2
      ·rw [aO,if_pos rfl]
      ·rw [aO,if_neg (by decide)];exact d4
     ·rw [if_neg Q] at o p;generalize tG k r c w L x (min left LI)=E at *
      replace o:=Hid.mk o;replace g:=Hid.mk g;replace a7:=Hid.mk a7;unfold aN at p;simp only [↓pre,zam,j2,kY,i5,aM,simprocAttr,bne,aJ,aBS,e2,f4,f8,f6,c6,b5,U,a4,h4,ht,g5]
      (first | refine aH (p) (by first | rfl | simp only [aD, *]) ?_ | refine aG (p) (by first | rfl | simp only [aA,aD, *]) (by intro k;first | rfl | simp only [ *,zaa]) ?_);simp only [↓pre,za,j2,i5,simprocAttr,bne,aJ,aBS,e8,b4,g4,Q]
      rw [←o.out];refine adl (d0:=aC PL) (d1:=aC PD) (d2:=dv) (ve:=aC W) (lv := .sl b 0 u.length u.length false) (sv:=lv) Q ⟨?_, ?_, ?_, ?_, ?_⟩ ⟨e4,e5,e6,e7,e8⟩
      all_goals simp [aO,aT,b0,b1,b2,b3,g0,g1,g2,g3,aC]
    ·have U:¬ ((i:Nat):Int) < ((u.length:Nat):Int):=by omega
     rw [List.drop_of_length_le (by omega)] at o B;simp only [qT,oB,aBi] at o B;replace o:=Hid.mk o;replace B:=Hid.mk B;replace g:=Hid.mk g;simp only [↓pre,zah,i5,simprocAttr,bne,c6,b5,U];rw [←o.out,←B.out];exact aoR g.out ⟨b0,b1,b2,b3,b4⟩ ⟨e4,e5,e6,e7,e8⟩
  ·rw [if_neg hC] at C;rw [if_neg hC];unfold oX aN at C;simp only [aC] at C F;replace H:=Hid.mk H;replace b9:=Hid.mk b9;replace hR:=Hid.mk hR;generalize i4 k r c w ps=E at *
   simp only [↓pre,zaj,j2,kY,i5,aM,simprocAttr,bne,aBS,hf]
   (first | refine aH (z) (by first | rfl | simp only [aD, *]) ?_ | refine aG (z) (by first | rfl | simp only [aA,aD, *]) (by intro k;first | rfl | simp only [ *,zaa]) ?_);simp only [↓pre,zaj,j2,i5,aBj,simprocAttr,bne,aJ,aBS,h1,h2];(first | refine aH (F) (by first | rfl | simp only [aD, *]) ?_ | refine aG (F) (by first | rfl | simp only [aA,aD, *]) (by intro k;first | rfl | simp only [ *,zaa]) ?_);simp only [↓pre,zaj,j2,i5,simprocAttr,bne,aJ,aBS,h9];(first | refine aH (C) (by first | rfl | simp only [aD, *]) ?_ | refine aG (C) (by first | rfl | simp only [aA,aD, *]) (by intro k;first | rfl | simp only [ *,zaa]) ?_);simp only [↓pre,zaj,j2,kY,i5,aBj,aBd,simprocAttr,bne,aJ,aBS,hC]
   exact adl hC ⟨rfl,rfl,rfl,rfl,rfl⟩ ⟨rfl,rfl,rfl,rfl,rfl⟩
 ·have K:kG k r c w L row=if fA k r c w L=0 then (if row < 0∨w≤row then 2 else 0) else fA k r c w L:=rfl
  rw [if_neg hR];refine ale follows Tryz.func59 (by unfold Tryz.f59;rfl) (by unfold Tryz.f59;simp) i5 (by unfold Tryz.f59;simp) (by kernel_rfl) (by kernel_rfl) (by unfold Tryz.f59;decide) (by kernel_rfl) ?_;unfold agT Tryz.f59;by_cases hE:fA k r c w L=0
  ·rw [if_pos hE] at K;rw [hE] at z;have a3:row < 0∨w≤row:=by
    by_cases h:row < 0∨w≤row
    ·exact h
    ·rw [if_neg h] at K;exact absurd K hR
   rw [if_pos a3] at K;rw [K] at *
   by_cases h1:row < 0
   ·simp only [↓pre,zaj,j2,kY,i5,aM,simprocAttr,bne,aBS,hf]
    (first | refine aH (z) (by first | rfl | simp only [aD, *]) ?_ | refine aG (z) (by first | rfl | simp only [aA,aD, *]) (by intro k;first | rfl | simp only [ *,zaa]) ?_);simp only [↓pre,zaj,j2,i5,simprocAttr,bne,aJ,aBS,h1]
    exact adl (E:=2) (by decide) ⟨rfl,rfl,rfl,rfl,rfl⟩ ⟨rfl,rfl,rfl,rfl,rfl⟩
   ·have h2:w≤row:=by omega
    simp only [↓pre,zaj,j2,kY,i5,aM,simprocAttr,bne,aBS,hf]
    (first | refine aH (z) (by first | rfl | simp only [aD, *]) ?_ | refine aG (z) (by first | rfl | simp only [aA,aD, *]) (by intro k;first | rfl | simp only [ *,zaa]) ?_);simp only [↓pre,zaj,j2,i5,aBj,simprocAttr,bne,aJ,aBS,h1,h2]
    exact adl (E:=2) (by decide) ⟨rfl,rfl,rfl,rfl,rfl⟩ ⟨rfl,rfl,rfl,rfl,rfl⟩
  ·rw [if_neg hE] at K;rw [K];simp only [↓pre,zaj,j2,kY,i5,aM,simprocAttr,bne,aBS,hf]
   (first | refine aH (z) (by first | rfl | simp only [aD, *]) ?_ | refine aG (z) (by first | rfl | simp only [aA,aD, *]) (by intro k;first | rfl | simp only [ *,zaa]) ?_);simp only [↓pre,zaj,j2,i5,simprocAttr,bne,aJ,aBS,hE]
   exact adl hE ⟨rfl,rfl,rfl,rfl,rfl⟩ ⟨rfl,rfl,rfl,rfl,rfl⟩
theorem awc (k r c w row:Int) (v:AV) (L:List (List UInt8)) (cells:List AV) (e:fQ v L cells):aR ayS 59 [dD k r c w v,aC row] ⟨aip k r c w L row,[]⟩:=d6 (sK (awb k r c w row v L cells e) fun a m h=>⟨1,by
 unfold aip;rcases h with ⟨h,dv,lv,sv,rfl,b⟩ | ⟨h,rfl⟩
 ·rw [if_pos h];unfold rU xB;simp [j8,aaX,dM,vK b.d,vK b.l,vK b.s,i8,aC,gB]
 ·rw [if_neg h];exact av8 av9 (bN _) (bN _) (bN _) (bN _) 1 m⟩)
theorem awd {n o cnt:Nat} {f g:Nat→UInt8} {a:List AV} (i:a.length=cnt) (e:o+cnt≤n) (c:∀ j,j < cnt→a[j]? = some (bA (g (o+j)))) (d:∀ j,j < n→¬ (o≤j∧j < o+cnt)→f j=g j):cP (aY n f) o a=aY n g:=by
 refine aAf fun j => ?_
 rw [aga _ _ _ (by rw [eK];omega)];by_cases b:j < n
 ·rw [iO g b];by_cases h:o≤j∧j < o+a.length
  ·rw [if_pos h,c _ (by omega),show o+(j - o)=j by omega]
  ·rw [if_neg h,iO f b,d j b (by omega)]
 ·rw [if_neg (by omega),ay3 (by rw [eK];omega),ay3 (by rw [eK];omega)]
def pV (k r c w:Int) (L:List (List UInt8)) (x:bJ):Bool:=decide (iZ k r c w (eI k r w L x.1) 1 x.2 < k.toNat)
def nG (W fr to i:Nat):Bool:=decide (max fr (i*W) < min to ((i+1)*W))
def jE (k r c w:Int) (L:List (List UInt8)) (l:List bJ) (fr to:Nat):Int:=if (aAm l.length).any (fun i=>nG (wI k c).toNat fr to i && pV k r c w L (l.getD i (0,0)))=true then 5 else 0
def adm (k r c w:Int) (L:List (List UInt8)) (l:List bJ) (p:Nat):UInt8:=if p < l.length*(wI k c).toNat then (jR k r c w L (l.getD (p / (wI k c).toNat) (0,0))).getD (p % (wI k c).toNat) 0 else 0
def jT (k r c w:Int) (L:List (List UInt8)) (l:List bJ) (fr to:Nat):List UInt8:=tab (to - fr) fun j=>adm k r c w L l (fr+j)
def yV (k r c w:Int) (L:List (List UInt8)) (l:List bJ) (fr to:Nat):AV:=if jE k r c w L l fr to=0 then .tup [kX (jT k r c w L l fr to),aC 0] else .tup [aN,aC (jE k r c w L l fr to)]
theorem awe {k r c w:Int} {L:List (List UInt8)} {l:List bJ} {fr to:Nat} (h:to≤fr):yV k r c w L l fr to = .tup [aN,aC 0]:=by
 have b:jE k r c w L l fr to=0:=by
  unfold jE;rw [if_neg];intro a;obtain ⟨i,_,hi⟩:=aA5.1 a;unfold nG at hi;rw [aAn,decide_eq_true_eq] at hi;omega
 have a:kX (jT k r c w L l fr to)=aN:=by
  unfold kX jT;rw [pJ,if_pos (by omega)]
 unfold yV;rw [if_pos b,a]
theorem awf {m:aF} {n fr to i W A Z:Nat} {d:Nat→UInt8} {D:List UInt8} {dv:AV} (r:m.at_ 0=some ⟨aY n fun j=>if fr+j < i*W then d j else 0,5,.flat,true⟩) (b:f9 ayS 5 1 m dv=some (((aL D).drop (A - i*W)).take ((W - (A - i*W))*1),W - (A - i*W))) (s:D.length=W) (e:∀ j,i*W≤fr+j→fr+j < i*W+W→d j=D.getD (fr+j - i*W) 0) (o:A=max fr (i*W)) (k:Z=min to ((i+1)*W)) (h:(i+1)*W=i*W+W) (u:to - fr=n) (p:A < Z) :
 p7 ayS 5 m (.sl 0 (A - fr) (Z - A) (n - (A - fr)) true) dv=some ⟨aC (min (W - (A - i*W)) (Z - A):Nat),m.put 0 (some ⟨aY n fun j=>if fr+j < (i+1)*W then d j else 0,5,.flat,true⟩),none⟩:=by
 have t:cE ayS 5=some 1:=by kernel_rfl
 have l:bP ayS 5 = .flat:=by kernel_rfl
 simp only [p7,t,b,r,aAh,l];rw [if_pos ⟨trivial,trivial,by rw [eK];omega⟩];have c:min (W - (A - i*W)) (Z - A)=Z - A:=by omega
 rw [c,azD,azD];congr 4;refine awd (cnt:=Z - A) (by rw [List.length_take,List.length_take,aA9,iB];omega) (by omega) (fun j g => ?_) (fun j g q => ?_)
 ·rw [azE,if_pos g,azE,if_pos (by omega),aAs,if_pos (by omega),e (A - fr+j) (by omega) (by omega)];unfold aL;have a:A - i*W+j < D.length:=by omega
  rw [azl,azj a,azp,show fr+(A - fr+j) - i*W=A - i*W+j by omega,azj a];rfl
 ·by_cases f:fr+j < i*W
  ·rw [if_pos f,if_pos (by omega)]
  ·rw [if_neg f,if_neg (by omega)]
def qU:Nat→Bool:=fun d=>d != 89
set_option maxHeartbeats 2000000 in
theorem awg (k r c w:Int) (v:AV) (L:List (List UInt8)) (cells:List AV) (hv:fQ v L cells) (hE:fA k r c w L=0) (sv:AV) (l:List bJ) (hs:qR sv l) (V:∀ x∈l,jP w x=true) (hl:l.length≤20000) (fr to:Nat) (e9:to≤40000):aR ayS 103 [dD k r c w v,sv,aC (fr:Nat),aC (to:Nat)] ⟨yV k r c w L l fr to,[]⟩:=by
 refine d6 ?_;have hp:=hv.rd.plain;have hf:=b6 hv.rd;have ho:=bQ hv.rd;obtain ⟨hm,_,_⟩:=abR hE;obtain ⟨x0,N⟩:=hs;have a3:=ahr k r c w;simp only [hm,if_true] at a3;have hw:=g9 hm;have d0:=jA.1 hm;have c7:=gX hm;unfold dD;by_cases c5:to≤fr
 ·rw [awe c5];have h1:((to:Nat):Int)≤((fr:Nat):Int):=by omega
  have hz:=fun m=>eW (bN (.slice none 0 0)) (bN (.int .i64 0)) 1 m
  replace hz:=Hid.mk hz;refine bI Tryz.func103 qU (h:=?_);unfold Tryz.f103;simp only [↓pre,zah,yA,qU,simprocAttr,bne,hf,h1];exact ⟨1,hz.out _⟩
 ·have h1:¬ ((to:Nat):Int)≤((fr:Nat):Int):=by omega
  obtain ⟨W,hW⟩:∃ W:Nat,wI k c=(W:Int):=⟨(wI k c).toNat,by unfold wI;omega⟩
  have c8:(wI k c).toNat=W:=by omega
  have b1:32≤W∧W≤768:=by unfold wI at hW;omega
  have a6:k.toNat*c.toNat=W:=by
   have:((k.toNat*c.toNat:Nat):Int)=wI k c:=by unfold wI;rw [Int.natCast_mul,aB0 (by omega),aB0 (by omega)]
   omega
  obtain ⟨n,hn⟩:∃ n,to - fr=n:=⟨_,rfl⟩
  have wn:azv.wrap (((to:Nat):Int) - ((fr:Nat):Int))=((n:Nat):Int):=by rw [show ((to:Nat):Int) - ((fr:Nat):Int)=((n:Nat):Int) by omega];exact cD (by omega)
  have d1:=fun m=>rN m (n:=n) (by omega)
  have F:=fun (x:bJ) (o:x∈l)=>by
   have e6:=aap hE (abU (V x o)).1;have h:=aim k r c w x.1 v L cells hv;unfold adk at h;rw [if_pos e6] at h;exact h
  have f:=fun (x:bJ) (o:x∈l)=>aid k r c w 1 x.2 _ _ _ (afs k r c w L x.1 (by omega)) hm (aao (aap hE (abU (V x o)).1)).1 (.inl rfl) (by unfold hU;exact decide_eq_true (abU (V x o)).2)
  have X:=fun (x:bJ)=>(afs k r c w L x.1 (by omega)).rd
  have a2:=fun (x:bJ)=>wY k r c w (eI k r w L x.1) 1 x.2 k.toNat
  unfold dD at F;unfold yV jT adm jE;rw [hW] at a3;rw [c8,hn];unfold qQ at f;rw [a6] at f a2;have b4:∀ x,pV k r c w L x=decide (iZ k r c w (eI k r w L x.1) 1 x.2 < k.toNat):=fun _=>rfl
  have a9:∀ x,jR k r c w L x=mE k r c w (eI k r w L x.1) 1 x.2 k.toNat:=fun _=>rfl
  generalize b0:(if (aAm l.length).any (fun i=>nG W fr to i && pV k r c w L (l.getD i (0,0)))=true then (5:Int) else 0)=EE;have S:∀ (i:Nat) (x:bJ),l[i]? = some x→nG W fr to i=true→pV k r c w L x=true→EE=5:=fun i x o h1 h2=>by
   rw [←b0,if_pos];refine aA5.2 ⟨i,aAw.2 (ay5.1 o).1, ?_⟩;rw [h1,azp,o];exact h2
  have C:(∀ (i:Nat) (x:bJ),l[i]? = some x→nG W fr to i=true→pV k r c w L x=false)→EE=0:=fun h=>by
   rw [←b0,if_neg];intro h2;obtain ⟨i,hi,h3⟩:=aA5.1 h2;have c2:=aAw.1 hi;rw [aAn,azp,azj c2] at h3;have:=h i _ (azj c2) h3.1;rw [show (some l[i]).getD (0,0)=l[i] from rfl,this] at h3;exact absurd h3.2 (by decide)
  generalize b2:(fun j=>if fr+j < l.length*W then (jR k r c w L (l.getD ((fr+j) / W) (0,0))).getD ((fr+j) % W) 0 else (0:UInt8))=K;have b3:∀ (i:Nat) (x:bJ) (j:Nat),l[i]? = some x→i*W≤fr+j→fr+j < i*W+W→K j=(jR k r c w L x).getD (fr+j - i*W) 0:=fun i x j o h1 h2=>by
   rw [←b2];have hi:=(ay5.1 o).1;have h3:(i+1)*W≤l.length*W:=azC _ hi;rw [azX,aBW] at h3;have b8:(fr+j) / W=i:=by
    refine Nat.div_eq_of_lt_le h1 ?_;rw [azX,aBW];exact h2
   have d4:(fr+j) % W=fr+j - i*W:=by
    have:=Nat.div_add_mod (fr+j) W;rw [b8,Nat.mul_comm] at this;omega
   simp only [b8,d4];rw [if_pos (by omega),azp (l:=l),o];rfl
  have a5:∀ j,¬ fr+j < l.length*W→K j=0:=fun j h=>by rw [←b2];simp only;rw [if_neg h]
  clear b2 b0 c8;generalize H:(if EE=0 then AV.tup [kX (tab n K),aC 0] else AV.tup [aN,aC EE])=f0;replace H:=Hid.mk H;replace S:=Hid.mk S;replace C:=Hid.mk C;replace b3:=Hid.mk b3;replace a5:=Hid.mk a5;replace d0:=Hid.mk d0;replace c7:=Hid.mk c7;replace hw:=Hid.mk hw;replace b1:=Hid.mk b1;replace F:=Hid.mk F;replace f:=Hid.mk f;replace X:=Hid.mk X;replace a2:=Hid.mk a2;replace a6:=Hid.mk a6;replace hn:=Hid.mk hn;replace V:=Hid.mk V;replace b4:=Hid.mk b4;replace a9:=Hid.mk a9;replace hW:=Hid.mk hW;have a4:=fun (i:Nat) (x:bJ) (hi:l[i]? = some x)=>xA l x0 i x hi
  replace a4:=Hid.mk a4;have e8:=N.plain;refine bI Tryz.func103 qU (h:=?_);unfold Tryz.f103;simp only [↓pre,zah,yA,qU,simprocAttr,bne,hf,h1]
  (first | refine aH (a3) (by first | rfl | simp only [aA,aD, *]) ?_ | refine aG (a3) (by first | rfl | simp only [aA,aD, *]) (by intro k;first | rfl | simp only [ *,zaa]) ?_);simp only [↓pre,za,yA,qU,simprocAttr,bne,wn,d1,N.len']
  rw [bS];refine bU (fun q e m=>∃ i,q+i=l.length∧e 1=sv∧e 2=aC (fr:Nat)∧e 3=aC (to:Nat)∧e 4 = .tptr 0 [aC k,aC r,aC c,aC w,v]∧e 10=aC (W:Nat)∧e 12 = .sl 0 0 n n true∧e 36=aC (l.length:Nat)∧e 37=aC (i:Nat)∧Hid (m.at_ 0=some ⟨aY n fun j=>if fr+j < i*W then K j else 0,5,.flat,true⟩∧∀ (j:Nat) (x:bJ),j < i→l[j]? = some x→nG W fr to j=true→pV k r c w L x=false)) l.length ⟨0,by omega,rfl,rfl,rfl,rfl,rfl,rfl,rfl,rfl,⟨by rw [aT,if_pos (by decide)];congr 3;funext j;rw [Nat.zero_mul,if_neg (by omega)],fun j x h=>by omega⟩⟩ ?_;rintro q e m ⟨i,hq,e1,e2,e3,e4,U,Y,R,O,hJ⟩;replace hq:=Hid.mk hq;obtain ⟨G,g⟩:=hJ.out;clear hJ;by_cases T:i < l.length
  ·have s:((i:Nat):Int) < ((l.length:Nat):Int):=by omega
   have wi:=bY (n:=i) (by omega);obtain ⟨x,o⟩:∃ x,l[i]? = some x:=⟨_,azj T⟩
   have f1:(i+1)*W≤20000*768:=aBZ (by omega) b1.out.2;have c0:(i+1)*W=i*W+W:=by rw [azX,aBW]
   have w1:azv.wrap (((i:Nat):Int)*((W:Nat):Int))=((i*W:Nat):Int):=by rw [show ((i:Nat):Int)*((W:Nat):Int)=((i*W:Nat):Int) by simp];exact cD (by omega)
   have w2:azv.wrap (((i+1:Nat):Int)*((W:Nat):Int))=(((i+1)*W:Nat):Int):=by rw [show ((i+1:Nat):Int)*((W:Nat):Int)=(((i+1)*W:Nat):Int) by simp];exact cD (by omega)
   obtain ⟨A,hA,b9⟩:∃ A:Nat,max ((fr:Nat):Int) ((i*W:Nat):Int)=(A:Int)∧A=max fr (i*W):=⟨max fr (i*W),by omega,rfl⟩
   obtain ⟨Z,hZ,c3⟩:∃ Z:Nat,min ((to:Nat):Int) (((i+1)*W:Nat):Int)=(Z:Int)∧Z=min to ((i+1)*W):=⟨min to ((i+1)*W),by omega,rfl⟩
   have p:nG W fr to i=decide (A < Z):=by unfold nG;rw [b9,c3]
   by_cases a7:A < Z
   ·rw [decide_eq_true a7] at p;have E:¬ ((Z:Nat):Int)≤((A:Nat):Int):=by omega
    obtain ⟨ha,c6⟩:=a4.out i x o;have c4:=az5 o;have hr:=F.out x c4;have z:=f.out x c4;have M:=X.out x;have pR:=M.plain;have sR:=cH M;have I:=b4.out x;generalize bD (k+r).toNat (mY (eI k r w L x.1))=RV at *
    by_cases a1:iZ k r c w (eI k r w L x.1) 1 x.2 < k.toNat
    ·rw [if_pos a1] at z;rw [decide_eq_true a1] at I;have h5:=S.out i x o p I;have a:=H.out;rw [h5,if_neg (by decide)] at a;have hz:=fun m=>eW (bN (.slice none 0 0)) (bN (.int .i64 5)) 1 m
     replace hz:=Hid.mk hz;replace a:=Hid.mk a;replace g:=Hid.mk g;replace G:=Hid.mk G;replace M:=Hid.mk M;simp only [aN] at z;simp only [↓pre,za,yA,qU,simprocAttr,bne,e1,e2,e3,e4,U,R,O,s,T,w1,wi,w2,hA,hZ,E,N.addr',ha]
     (first | refine aH (hr) (by first | rfl | simp only [aD, *]) ?_ | refine aG (hr) (by first | rfl | simp only [aD, *]) (by intro k;first | rfl | simp only [sq, *]) ?_);simp only [↓pre,za,yA,qU,simprocAttr,bne,e1,e4,T,N.addr',c6];(first | refine aH (z) (by first | rfl | simp only [aA,aD, *]) ?_ | refine aG (z) (by first | rfl | simp only [aD, *]) (by intro k;first | rfl | simp only [ *,zaa]) ?_);simp only [↓pre,zah,qU,simprocAttr,bne]
     rw [←a.out];exact ⟨1,hz.out _⟩
    ·rw [if_neg a1] at z;rw [decide_eq_false a1] at I;have e5:=a2.out x;have a0:=b3.out i x;rw [a9.out x] at a0;generalize mE k r c w (eI k r w L x.1) 1 x.2 k.toNat=D at *
     have J:=dY W (aL D);have pD:=J.plain;have sD:=cH J;obtain ⟨dv,s2,r2⟩:=J.slice (P:=ayS) (t:=52) (sz:=1) (lo:=some (A - i*W)) (hi:=none) (by kernel_rfl) (by simp only [aAB,aAA];omega) (by simp);simp only [aAB,aAA,azD] at r2;have Q:=fun m=>r2.src (P:=ayS) (m:=m) (el:=5) (sz:=1) (by rw [aA9,iB];omega)
     have e7:=fun d c m lo hi mx=>J.sliceX (P:=ayS) (m:=m) (t:=52) (d:=d) (c:=c) (lo:=lo) (hi:=hi) (mx:=mx)
     generalize bD W (aL D)=DV at *
     have wA:azv.wrap (((A:Nat):Int) - ((fr:Nat):Int))=((A - fr:Nat):Int):=by rw [show ((A:Nat):Int) - ((fr:Nat):Int)=((A - fr:Nat):Int) by omega];exact cD (by omega)
     have wZ:azv.wrap (((Z:Nat):Int) - ((fr:Nat):Int))=((Z - fr:Nat):Int):=by rw [show ((Z:Nat):Int) - ((fr:Nat):Int)=((Z - fr:Nat):Int) by omega];exact cD (by omega)
     have wD:azv.wrap (((A:Nat):Int) - ((i*W:Nat):Int))=((A - i*W:Nat):Int):=by rw [show ((A:Nat):Int) - ((i*W:Nat):Int)=((A - i*W:Nat):Int) by omega];exact cD (by omega)
     have c1:=hn.out;have d3:slOk ayS m 52 (.sl 0 0 n n true)=true:=by
      have:bZ ayS 52=some 5:=by kernel_rfl
      simp [slOk,G,this]
     have e0:mH ayS 52 (some (A - fr)) (some (Z - fr)) none (.sl 0 0 n n true)=some (.sl 0 (A - fr) (Z - A) (n - (A - fr)) true):=by
      have h3:bZ ayS 52=some 5:=by kernel_rfl
      have h4:cE ayS 5=some 1:=by kernel_rfl
      simp only [mH,h3,h4,Option.isSome_none,Bool.false_and,azx,if_false,aAh,aAB,aAA,Go.Tw.jE];rw [if_pos (by omega),if_neg (by omega)];simp;omega
     have d2:p7 ayS 5 m (.sl 0 (A - fr) (Z - A) (n - (A - fr)) true) dv=some ⟨aC (min (W - (A - i*W)) (Z - A):Nat),m.put 0 (some ⟨aY n fun j=>if fr+j < (i+1)*W then K j else 0,5,.flat,true⟩),none⟩:=awf G (Q m) e5 (fun j=>a0 j o) b9 c3 c0 c1 a7;have b:∀ (j:Nat) (y:bJ),j < i+1→l[j]? = some y→nG W fr to j=true→pV k r c w L y=false:=fun j y hj hy u=>by
      by_cases b5:j=i
      ·subst b5;rw [o] at hy;cases hy;exact I
      ·exact g j y (by omega) hy u
     replace g:=Hid.mk g;replace b:=Hid.mk b;replace G:=Hid.mk G;replace M:=Hid.mk M;replace J:=Hid.mk J;replace r2:=Hid.mk r2;replace Q:=Hid.mk Q;replace a0:=Hid.mk a0;simp only [↓pre,za,yA,qU,simprocAttr,bne,e1,e2,e3,e4,U,R,O,s,T,w1,wi,w2,hA,hZ,E,N.addr',ha]
     (first | refine aH (hr) (by first | rfl | simp only [aD, *]) ?_ | refine aG (hr) (by first | rfl | simp only [aD, *]) (by intro k;first | rfl | simp only [sq, *]) ?_);simp only [↓pre,za,yA,qU,simprocAttr,bne,e1,e4,T,N.addr',c6];(first | refine aH (z) (by first | rfl | simp only [aA,aD, *]) ?_ | refine aG (z) (by first | rfl | simp only [aD, *]) (by intro k;first | rfl | simp only [sq, *]) ?_);simp only [↓pre,za,yA,qU,ada,aBa,simprocAttr,bne,e2,U,Y,w1,wA,wZ,wD,d3,e0,e7,s2,d2,dB]
     refine dE (by kernel_rfl) ?_;simp only [↓pre,za,qU,simprocAttr,bne,e1,e2,e3,e4,U,Y,R,O,wi];exact ⟨q - 1,by have:=hq.out;omega,i+1,by have:=hq.out;omega,rfl,⟨rfl,b.out⟩⟩
   ·rw [decide_eq_false a7] at p;have E:((Z:Nat):Int)≤((A:Nat):Int):=by omega
    have b:∀ (j:Nat) (y:bJ),j < i+1→l[j]? = some y→nG W fr to j=true→pV k r c w L y=false:=fun j y hj hy u=>by
     by_cases b5:j=i
     ·subst b5;rw [p] at u;cases u
     ·exact g j y (by omega) hy u
    have c1:=hn.out;have B:(aY n fun j=>if fr+j < i*W then K j else 0)=aY n fun j=>if fr+j < (i+1)*W then K j else 0:=qP fun j hj=>by
     by_cases h5:fr+j < i*W
     ·rw [if_pos h5,if_pos (by omega)]
     ·rw [if_neg h5,if_neg (by omega)]
    rw [B] at G;replace g:=Hid.mk g;replace b:=Hid.mk b;replace G:=Hid.mk G;replace B:=Hid.mk B;simp only [↓pre,zah,qU,simprocAttr,bne,e1,e2,e3,e4,U,Y,R,O,s,w1,wi,w2,hA,hZ,E];exact ⟨q - 1,by have:=hq.out;omega,i+1,by have:=hq.out;omega,rfl,⟨G.out,b.out⟩⟩
  ·have s:¬ ((i:Nat):Int) < ((l.length:Nat):Int):=by omega
   have hi:i=l.length:=by have:=hq.out;omega
   have h0:=C.out fun j x o u=>g j x (by have:=(ay5.1 o).1;omega) o u
   have a:=H.out;rw [h0,if_pos rfl] at a;have B:(aY n fun j=>if fr+j < i*W then K j else 0)=aL (tab n K):=by
    rw [show aL (tab n K)=aY n K from rfl];refine qP fun j hj => ?_
    rw [hi];by_cases h5:fr+j < l.length*W
    ·rw [if_pos h5]
    ·rw [if_neg h5,a5.out j h5]
   rw [B] at G;have b7:kX (tab n K) = .tree n n (aL (tab n K)) true:=by
    unfold kX;rw [pJ,if_neg (by have:=hn.out;omega)]
   rw [b7] at a;replace g:=Hid.mk g;replace G:=Hid.mk G;replace B:=Hid.mk B;replace a:=Hid.mk a;replace b7:=Hid.mk b7;simp only [↓pre,zah,qU,simprocAttr,bne,Y,R,O,s];rw [←a.out];exact ⟨0,by rw [j8,dM,uC G.out,aAh,dM,gB,i8,aBu];rfl⟩
theorem awh {w:Int} {l:List bJ} (h:kF w l=true):∀ x∈l,jP w x=true:=fun x a=>aAr.1 h x a
theorem aoS {k r c w:Int} {L:List (List UInt8)} (f:lI k c≤128):∀ (l:List bJ) (n:Int),qT k r c w L l n=0→(∀ x∈oB k r c w L l n,jP w x=true)∧(oB k r c w L l n).length≤l.length*128
 | [],n,_=>⟨fun x a=>by simp [oB] at a,by simp [oB]⟩
 | y::l,n,h=>by
  unfold qT at h;split at h
  ·rename_i b;obtain ⟨g,j⟩:=aoS f l _ h;obtain ⟨e,i⟩:=afu b;unfold oB;refine ⟨fun x a => ?_, ?_⟩
   ·rcases List.mem_append.1 a with a | a
    ·unfold tG at b;split at b
     ·omega
     ·unfold rW at b;split at b
      ·omega
      ·split at b
       ·rename_i d;exact awh d.1 x a
       ·omega
    ·exact g x a
   ·rw [aAZ,aft,aAC];omega
  ·contradiction
theorem afw {k r c w:Int} {L:List (List UInt8)} {row:Int} (h:jS k r c w L row=0):fA k r c w L=0∧kG k r c w L row=0∧i4 k r c w (eI k r w L row)=0∧(∀ x∈gV k r c w L row,jP w x=true)∧(gV k r c w L row).length≤20000∧0≤cK (dC k r c w L row)∧cK (dC k r c w L row)≤32768:=by
 unfold jS at h;split at h
 ·rename_i e;split at h
  ·rename_i m;have s:=afv m;obtain ⟨a,b,l,j,i⟩:=abM s;obtain ⟨q,u⟩:=aao e;have d:=g9 u;have v:=yE d.1 d.2;have y:=sQ d.1 d.2;have n:fA k r c w L=0:=by
    unfold kG at e;split at e
    ·assumption
    ·assumption
   refine ⟨n,e,m, ?_⟩;have o:(cY (dC k r c w L row)).length≤126:=by unfold dI at j;unfold dC;omega
   have g:∀ x∈cY (dC k r c w L row),jP w x=true:=fun x p=>by
    have:=i x p;unfold jP;exact decide_eq_true this
   unfold gV;split at h
   ·rename_i f;rw [if_pos f];exact ⟨g,by omega,a,b⟩
   ·rename_i f;rw [if_neg f];obtain ⟨t,z⟩:=aoS (by unfold lI;omega) _ _ h;exact ⟨t,by omega,a,b⟩
  ·contradiction
 ·contradiction
def afx (k r c w:Int) (L:List (List UInt8)) (row:Int):AV:=if jS k r c w L row=0 then yV k r c w L (gV k r c w L row) 0 (cK (dC k r c w L row)).toNat else .tup [aN,aC (jS k r c w L row)]
theorem awi (k r c w:Int) (L:List (List UInt8)) (l:List bJ) (fr to:Nat):∃ a e,yV k r c w L l fr to = .tup [a,aC e]∧(∀ j,shift j a=a)∧eH a:=by
 have h:=yT (jT k r c w L l fr to);unfold yV;split
 ·exact ⟨_,_,rfl,fun j=>cH h j,kT h⟩
 ·exact ⟨_,_,rfl,fun j=>rfl,bN _⟩
theorem afy (k r c w row:Int) (v:AV) (L:List (List UInt8)) (cells:List AV) (p:fQ v L cells):aR ayS 29 [dD k r c w v,aC row] ⟨afx k r c w L row,[]⟩:=by
 refine d6 ?_;have K:=p.rd.plain;have z:=b6 p.rd;have J:=bQ p.rd;have b:=awc k r c w row v L cells p;unfold afx;unfold aip at b;unfold dD at b ⊢;by_cases n:jS k r c w L row=0
 ·rw [if_pos n] at b ⊢;obtain ⟨D,_,_,l,d,o,q⟩:=afw n;obtain ⟨N,s⟩:∃ N:Nat,cK (dC k r c w L row)=(N:Int):=⟨(cK (dC k r c w L row)).toNat,by omega⟩
  have i:=dY (cY (dC k r c w L row)).length (cA (cY (dC k r c w L row)));have j:=dY (pU k r c w L row).length (cA (pU k r c w L row));have g:=dY (gV k r c w L row).length (cA (gV k r c w L row));have f:=awg k r c w v L cells p D (bD (gV k r c w L row).length (cA (gV k r c w L row))) (gV k r c w L row) ⟨[],by rw [aBi];exact g⟩ l d 0 N (by omega);obtain ⟨a,e,t,u,x⟩:=awi k r c w L (gV k r c w L row) 0 N;have y:=fun m=>eW x (bN (.int .i64 e)) 1 m
  replace y:=Hid.mk y;rw [s,aA8,t];rw [t] at f;unfold rU xB at b;unfold dD at f;rw [s] at b;generalize bD (cY (dC k r c w L row)).length (cA (cY (dC k r c w L row)))=M at *
  generalize bD (pU k r c w L row).length (cA (pU k r c w L row))=H at *
  generalize bD (gV k r c w L row).length (cA (gV k r c w L row))=O at *
  have C:=b6 i;have G:=bQ i;have A:=cH i;have E:=cH j;have B:=cH g;have F:=g.plain;generalize dQ (dC k r c w L row)=I at *
  generalize gT k r c w (eI k r w L row)=W at *
  simp only [aC,Int.cast_ofNat_Int] at b f;replace n:=Hid.mk n;replace s:=Hid.mk s;replace l:=Hid.mk l;replace d:=Hid.mk d;replace o:=Hid.mk o;replace q:=Hid.mk q;replace t:=Hid.mk t;replace i:=Hid.mk i;replace j:=Hid.mk j;replace g:=Hid.mk g;refine bI Tryz.func29 aB (h:=?_);unfold Tryz.f29;simp only [↓pre,zab,aes,simprocAttr,z]
  (first | refine aH (b) (by first | rfl | simp only [aD, *]) ?_ | refine aG (b) (by first | rfl | simp only [aA,aD, *]) (by intro k;first | rfl | simp only [ *,zaa]) ?_);simp only [↓pre,zag,aes,aM,simprocAttr,aJ,C,A,E,B];(first | refine aH (f) (by first | rfl | simp only [aD, *]) ?_ | refine aG (f) (by first | rfl | simp only [aA,aD, *]) (by intro k;first | rfl | simp only [ *,zaa]) ?_);simp only [↓pre,zae,simprocAttr,u]
  exact ⟨1,y.out _⟩
 ·rw [if_neg n] at b ⊢;unfold oX aN at b;simp only [aC] at b;refine bI Tryz.func29 aB (h:=?_);unfold Tryz.f29;simp only [↓pre,zab,aes,simprocAttr,z]
  (first | refine aH (b) (by first | rfl | simp only [aD, *]) ?_ | refine aG (b) (by first | rfl | simp only [aA,aD, *]) (by intro k;first | rfl | simp only [ *,zaa]) ?_);simp only [↓pre,zag,aes,aM,simprocAttr,aJ,n]
  exact ⟨1,eW (bN (.slice none 0 0)) (bN (.int .i64 (jS k r c w L row))) 1 _⟩
theorem aoT {a b:Int} (e:0≤a) (d:1≤b):a≤gR a b*b:=by
 unfold gR;have g:=Int.emod_nonneg (a+b - 1) (show b≠0 by omega);have f:=Int.emod_lt_of_pos (a+b - 1) (show 0 < b by omega);have c:=Int.mul_ediv_add_emod (a+b - 1) b;rw [Int.mul_comm] at c;omega
theorem aoU {k r c w:Int} {L:List (List UInt8)} (e:1≤lI k c):∀ (l:List bJ) (n:Int),qT k r c w L l n=0→0≤n→n≤(l.length:Int)*lI k c→((oB k r c w L l n).length:Int)=n
 | [],n,_,h0,hn=>by
  have:n=0:=by simp at hn;omega
  subst this;rfl
 | y::l,n,h,h0,hn=>by
  unfold qT at h;split at h
  ·rename_i g;obtain ⟨b,f⟩:=afu g;have d:n - min n (lI k c)≤(l.length:Int)*lI k c:=by
    rw [aAC,Int.natCast_add,Int.add_mul] at hn;have:(0:Int)≤(l.length:Int)*lI k c:=Int.mul_nonneg (by omega) (by omega);omega
   have a:=aoU e l _ h (by omega) d;unfold oB;rw [aAZ,aft,Int.natCast_add,a];omega
  ·contradiction
theorem awj {k r c w:Int} {L:List (List UInt8)} {row:Int} (h:jS k r c w L row=0):oE k r c w (cK (dC k r c w L row))=0∧((pU k r c w L row).length:Int)=oF k r c w (cK (dC k r c w L row))∧((gV k r c w L row).length:Int)=oS k r c w (cK (dC k r c w L row)):=by
 obtain ⟨_,x,o,_,_,g,l⟩:=afw h;have p:=afv o;change kW k r c w (cK (dC k r c w L row)) (dQ (dC k r c w L row)) (cY (dC k r c w L row))=0 at p;obtain ⟨s,b⟩:=adb p;unfold rR at b;simp only [aAn,decide_eq_true_eq] at b;obtain ⟨j,y,e,_⟩:=b;have m:=g9 s;have z:=sQ m.1 m.2;have q:1≤lI k c:=by unfold lI;omega
 have v:=ac9 (n:=cK (dC k r c w L row)) s;refine ⟨j, ?_⟩;unfold jS at h;rw [if_pos x,if_pos o] at h;unfold pU gV;by_cases d:dQ (dC k r c w L row)=0
 ·rw [if_pos d,if_pos d];rw [d] at y e;rw [if_neg (by decide)] at e;exact ⟨by simp;omega,e⟩
 ·rw [if_neg d] at h;rw [if_neg d,if_neg d];have i:dQ (dC k r c w L row)=1:=by omega
  rw [i,if_pos rfl] at e;have a:oF k r c w (cK (dC k r c w L row))≠0:=by omega
  have hs:oS k r c w (cK (dC k r c w L row))=sI k c (cK (dC k r c w L row)):=by unfold oS;rw [if_pos j]
  have u:oF k r c w (cK (dC k r c w L row))=gR (sI k c (cK (dC k r c w L row))) (lI k c):=by
   unfold oF at a ⊢;rw [if_pos j] at a ⊢;unfold fI at a ⊢;split
   ·rename_i t;rw [if_pos t] at a;exact absurd rfl a
   ·rfl
  have f:0≤sI k c (cK (dC k r c w L row)):=by
   unfold sI wI;exact (abr g l (by omega) (by omega)).1
  refine ⟨e,aoU q _ _ h (by rw [hs];exact f) ?_⟩;rw [e,u,hs];exact aoT f q
theorem adn {P:Program} {t:TypeId} {x y:Operand} {a b:List UInt8}:dR P .neq t x y (oT a) (oT b)=some (.val (.bool (!decide (a=b)))):=by
 rw [←aou];exact agV
theorem awk (n m:Nat) (f:Nat→UInt8):tab n f++tab m (fun j=>f (n+j))=tab (n+m) f:=by
 refine aAf fun j => ?_
 by_cases h:j < n
 ·rw [List.getElem?_append_left (by rw [pJ];exact h),abE f h,abE f (by omega)]
 ·rw [List.getElem?_append_right (by rw [pJ];omega),pJ];by_cases a:j < n+m
  ·rw [abE _ (by omega),abE f a,show n+(j - n)=j by omega]
  ·rw [ay3 (by rw [pJ];omega),ay3 (by rw [pJ];omega)]
section
variable {k r c w:Int} {L:List (List UInt8)} {l:List bJ}
theorem awl {fr mi to:Nat} (b:fr≤mi) (a:mi≤to):jT k r c w L l fr mi++jT k r c w L l mi to=jT k r c w L l fr to:=by
 unfold jT;have:=awk (mi - fr) (to - mi) fun j=>adm k r c w L l (fr+j)
 rw [show mi - fr+(to - mi)=to - fr by omega] at this;rw [←this];congr 1;unfold tab;refine List.map_congr_left fun j _ => ?_
 rw [←Nat.add_assoc,show fr+(mi - fr)=mi by omega]
theorem afz {fr to:Nat} (h:to≤fr):jT k r c w L l fr to=[]:=by
 unfold jT;rw [show to - fr=0 by omega];simp [tab]
end
def pW (a b:Nat):Nat→Nat
 | 0=>0
 | i+1=>if b.testBit i then pW a b i ^^^ (a <<< i) else pW a b i
def oY (x:Nat):Nat→Nat
 | 0=>x
 | j+1=>oY (if x.testBit (8+j) then x ^^^ (285 <<< j) else x) j
theorem aoV:∀ (j x y:Nat),oY (x ^^^ y) j=oY x j ^^^ oY y j
 | 0,x,y=>rfl
 | j+1,x,y=>by
  have e:∀ z:Nat,oY z (j+1)=oY (if z.testBit (8+j) then z ^^^ (285 <<< j) else z) j:=fun z=>rfl
  rw [e,e,e,←aoV j];congr 1;rw [Nat.testBit_xor];cases x.testBit (8+j) <;> cases y.testBit (8+j)
  ·rfl
  ·show (x ^^^ y) ^^^ _=x ^^^ (y ^^^ _);rw [aB1]
  ·show (x ^^^ y) ^^^ _=(x ^^^ _) ^^^ y;rw [aB1,aB1,Nat.xor_comm y]
  ·show x ^^^ y=(x ^^^ (285 <<< j)) ^^^ (y ^^^ (285 <<< j));rw [aB1,←aB1 (285 <<< j),Nat.xor_comm (285 <<< j) y,aB1 y,Nat.xor_self,Nat.xor_zero]
def aoW:Bool:=(aAm 256).all fun a=>(aAm 8).all fun i=>oY (a <<< i) 7 == gmul a (2 ^ i)
theorem awm:aoW=true:=by kernel_rfl
theorem awn {a i:Nat} (c:a < 256) (hi:i < 8):oY (a <<< i) 7=gmul a (2 ^ i):=by
 have h:=awm;unfold aoW at h;rw [aAr] at h;have b:=h a (aAw.2 c);rw [aAr] at b;simpa using b i (aAw.2 hi)
theorem awo {b i:Nat}:b % 2 ^ (i+1)=if b.testBit i then (b % 2 ^ i) ^^^ 2 ^ i else b % 2 ^ i:=by
 refine Nat.eq_of_testBit_eq fun j => ?_
 cases d:b.testBit i with
 | true =>
  rw [if_pos rfl,Nat.testBit_xor,aB2,aB2,Nat.testBit_two_pow];by_cases c:j=i
  ·subst c;simp [d]
  ·have f:¬ i=j:=fun e=>c e.symm
   by_cases a:j < i
   ·simp [f,a,show j < i+1 by omega]
   ·simp [f,a,show ¬ j < i+1 by omega]
 | false =>
  rw [if_neg (by decide),aB2,aB2];by_cases c:j=i
  ·subst c;simp [d]
  ·by_cases a:j < i
   ·simp [a,show j < i+1 by omega]
   ·simp [a,show ¬ j < i+1 by omega]
theorem aoX {a b:Nat} (c:a < 256):∀ i,i≤8→oY (pW a b i) 7=gmul a (b % 2 ^ i)
 | 0,_=>by
  show oY 0 7=gmul a (b % 1);rw [Nat.mod_one];unfold gmul;rw [ahW];rfl
 | i+1,h=>by
  have d:=aoX (b:=b) c i (by omega);rw [awo];unfold pW;split
  ·rw [aoV,d,awn c (by omega)];unfold gmul;rw [ahG]
  ·exact d
theorem awp {a b:Nat} (c:a < 256) (d:b < 256):oY (pW a b 8) 7=gmul a b:=by
 rw [aoX c 8 (ay7 _),aAW d]
theorem aoY {a b:Nat} (d:a < 256):∀ i,i≤8→pW a b i < 2 ^ 15
 | 0,_=>by show 0 < _;decide
 | i+1,h=>by
  have c:=aoY (b:=b) d i (by omega);unfold pW;split
  ·refine aB3 c ?_;rw [aB4];have:2 ^ i≤2 ^ 7:=aB5 (by decide) (by omega)
   calc a*2 ^ i≤a*2 ^ 7:=Nat.mul_le_mul_left _ this
    _ < 2 ^ 15:=by omega
  ·exact c
section
variable {P:Program} {t:TypeId} {x y:Operand} {k yk:IntKind} {a:Int}
theorem afA {n:Nat}:dR P .shr t x y (.val (.int k a)) (.val (.int yk (n:Nat)))=some (.val (.int k (a / 2 ^ min n k.bits))):=by
 have c:¬ ((n:Nat):Int) < 0:=by omega
 have b:a.fdiv (2 ^ min n k.bits)=a / 2 ^ min n k.bits:=Int.fdiv_eq_ediv_of_nonneg _ (Int.le_of_lt (Int.pow_pos (by decide)));simp only [dR,pZ,eqGuard,binOp,Op.shift,c,aA8,Bind.bind,Pure.pure,if_false,b];simp [cF,Sem.bind]
theorem aoZ {n:Nat}:dR P .shl t x y (.val (.int k a)) (.val (.int yk (n:Nat)))=some (.val (.int k (k.wrap (a*2 ^ min n k.bits)))):=by
 have b:¬ ((n:Nat):Int) < 0:=by omega
 simp only [dR,pZ,eqGuard,binOp,Op.shift,b,aA8,Bind.bind,Pure.pure,if_false];simp [cF,Sem.bind]
end
theorem afB {n:Nat} (h:n < 4294967296):IntKind.u32.wrap (n:Int)=(n:Int):=by
 simp [IntKind.wrap,aAP,aAQ];omega
theorem ao0 {a b:Nat} (c:a < 4294967296) (d:b < 4294967296):v6 .u32 a b=((a ^^^ b:Nat):Int):=by
 have h:a ^^^ b < 4294967296:=aB3 (n:=32) c d;unfold v6;rw [uX,uX,BitVec.toNat_xor,aAV,aAV];simp only [aAP];rw [aAW (by omega),aAW (by omega)];exact afB h
theorem awq {a:Nat} (b:a < 4294967296):sH .u32 a 1=((a % 2:Nat):Int):=by
 unfold sH;rw [show (1:Int)=((1:Nat):Int) from rfl,uX,uX,BitVec.toNat_and,aAV,aAV];simp only [aAP];rw [aAW (by omega),aAW (by omega),aB6];exact afB (by omega)
theorem ao1 (n i b:Nat) (h:i≤b):((n:Nat):Int) / 2 ^ min i b=((n / 2 ^ i:Nat):Int):=by
 rw [Nat.min_eq_left h];simp
theorem awr {n i:Nat} (a:n < 4294967296) (hi:i≤32):sH .u32 (((n:Nat):Int) / 2 ^ min i 32) 1=if n.testBit i then 1 else 0:=by
 rw [ao1 _ _ _ hi,awq (Nat.lt_of_le_of_lt (Nat.div_le_self _ _) a),aB7];by_cases h:n / 2 ^ i % 2=1
 ·rw [decide_eq_true h,h];rfl
 ·rw [decide_eq_false h,show n / 2 ^ i % 2=0 by omega];rfl
theorem aws {n i:Nat} (c:n < 256) (hi:i≤8):sH .u8 (((n:Nat):Int) / 2 ^ min i 8) 1=if n.testBit i then 1 else 0:=by
 have b:n / 2 ^ i < 256:=Nat.lt_of_le_of_lt (Nat.div_le_self _ _) c;have a:=ae8 (azN (n / 2 ^ i)) 1;rw [mS b,UInt8.toNat_and,mS b,show ((1:UInt8).toNat:Int)=1 from rfl,show (1:UInt8).toNat=1 from rfl,aB6] at a;rw [ao1 _ _ _ hi,a,aB7];by_cases h:n / 2 ^ i % 2=1
 ·rw [decide_eq_true h,h];rfl
 ·rw [decide_eq_false h,show n / 2 ^ i % 2=0 by omega];rfl
theorem ao2 {n i:Nat} (a:n < 512) (hi:i≤8):IntKind.u32.wrap (((n:Nat):Int)*2 ^ min i 32)=((n <<< i:Nat):Int):=by
 have h:n*2 ^ i < 4294967296:=by
  have:2 ^ i≤2 ^ 8:=aB5 (by decide) hi;have:=aBZ (Nat.le_of_lt a) this;omega
 rw [Nat.min_eq_left (by omega),aB4,show ((n:Nat):Int)*2 ^ i=((n*2 ^ i:Nat):Int) by simp,afB h]
theorem aiq {n:Nat} (h:n < 18446744073709551616):IntKind.u64.wrap (n:Int)=(n:Int):=by
 simp [IntKind.wrap,aAP,aAQ];omega
theorem awt {a b:Nat} (c:a < 256) (d:b < 256):oY (pW a b 8) 7=gmul a b:=awp c d
theorem afC (a b:UInt8):aR ayS 351 [bA a,bA b] ⟨bA (aQ a b),[]⟩:=by
 have z:=jN a;have E:=jN b;have D:IntKind.u32.wrap ((a.toNat:Nat):Int)=(a.toNat:Nat):=afB (by omega);have v:=awt z E;have C:=ae0 z E;have o:=fun i h=>aoY (b:=b.toNat) z (i:=i) h
 replace o:=Hid.mk o;replace v:=Hid.mk v;refine aX Tryz.func351 aB (h:=?_);unfold Tryz.f351;simp only [↓pre,simprocAttr,sx,bA];rw [bS];refine x5 (fun e m=>e 5 = .val (.int .u32 ((pW a.toNat b.toNat 8:Nat):Int))) (fun e m g => ?_) ?_
 ·have L:=o.out 8 (ay7 _);generalize pW a.toNat b.toNat 8=X at *
  simp only [↓pre,simprocAttr];rw [bS];refine bU (fun q e m=>∃ x,e 5 = .val (.int .u32 ((x:Nat):Int))∧e 7=aC ((7+q:Nat):Int)∧Hid (q≤7)∧Hid (x < 2 ^ 15∧oY x q=oY X 7)) 7 ⟨X,g,rfl,⟨ay7 _⟩,⟨L,rfl⟩⟩ ?_;clear g;rintro q e m ⟨x,g,y,t,K⟩;by_cases P:q=0
  ·subst P;have c:¬ (8:Int)≤((7+0:Nat):Int):=by omega
   have p:x=gmul a.toNat b.toNat:=by rw [←v.out,←K.out.2];rfl
   subst p;have F:=yL C;rw [show azN (gmul a.toNat b.toNat)=aQ a b from rfl] at F;simp only [↓pre,zab,aeN,bE,fO,simprocAttr,eq_self,g,y,F]
  ·obtain ⟨j,rfl⟩:∃ j,q=j+1:=⟨q - 1,by omega⟩
   rw [show 7+(j+1)=8+j by omega] at y;obtain ⟨p,w⟩:=K.out;have O:j≤6:=by have:=t.out;omega
   have c:(8:Int)≤((8+j:Nat):Int):=by omega
   have w1:IntKind.u64.wrap ((8+j:Nat):Int)=((8+j:Nat):Int):=aiq (by omega);have N:azv.wrap (((8+j:Nat):Int) - 8)=((j:Nat):Int):=by rw [eD (by omega) (by omega)];omega
   have M:IntKind.u64.wrap ((j:Nat):Int)=((j:Nat):Int):=aiq (by omega);have H:azv.wrap (((8+j:Nat):Int) - 1)=((7+j:Nat):Int):=by rw [eD (by omega) (by omega)];omega
   have d:=awr (n:=x) (i:=8+j) (by omega) (by omega);have r:IntKind.u32.wrap (285*2 ^ min j 32)=((285 <<< j:Nat):Int):=ao2 (n:=285) (i:=j) (by omega) (by omega);have s:285 <<< j < 2 ^ 15:=by
    rw [aB4];have:2 ^ j≤2 ^ 6:=aB5 (by decide) O;omega
   have l:=ao0 (a:=x) (b:=285 <<< j) (by omega) (by omega);have k:x ^^^ (285 <<< j) < 2 ^ 15:=aB3 p s;have hs:oY x (j+1)=oY (if x.testBit (8+j) then x ^^^ (285 <<< j) else x) j:=rfl;rw [w] at hs;cases f:x.testBit (8+j) with
   | true =>
    rw [f,if_pos rfl] at d hs;replace hs:=Hid.mk hs;replace w:=Hid.mk w;replace p:=Hid.mk p;replace k:=Hid.mk k;simp only [↓pre,zab,aeN,lF,bE,iS,afA,aoZ,simprocAttr,eq_self,aAP,g,y,c,d,r,l,w1,N,M,H];exact ⟨j,by omega,_,rfl,rfl,⟨by have:=t.out;omega⟩,⟨k.out,hs.out.symm⟩⟩
   | false =>
    rw [f,if_neg (by decide)] at d hs;have u:¬ (0:Int)=1:=by decide
    replace hs:=Hid.mk hs;replace w:=Hid.mk w;replace p:=Hid.mk p;replace k:=Hid.mk k;simp only [↓pre,zab,aeN,lF,bE,iS,fO,afA,simprocAttr,eq_self,aAP,g,y,c,d,u,w1,H];exact ⟨j,by omega,_,rfl,rfl,⟨by have:=t.out;omega⟩,⟨p.out,hs.out.symm⟩⟩
 ·refine bU (fun q e m=>∃ i,q+i=8∧e 0=bA a∧e 1=bA b∧e 5 = .val (.int .u32 ((pW a.toNat b.toNat i:Nat):Int))∧e 6 = .val (.int .u64 (i:Nat))) 8 ⟨0,by omega,rfl,rfl,rfl,rfl⟩ ?_;rintro q e m ⟨i,Q,G,J,g,B⟩;by_cases A:i < 8
  ·have c:((i:Nat):Int) < 8:=by omega
   have d:=aws E (Nat.le_of_lt A);have r:=ao2 (n:=a.toNat) (i:=i) (by omega) (by omega);have R:=o.out i (by omega);have hs:pW a.toNat b.toNat (i+1)=if b.toNat.testBit i then pW a.toNat b.toNat i ^^^ (a.toNat <<< i) else pW a.toNat b.toNat i:=rfl
   have s:a.toNat <<< i < 4294967296:=by
    rw [aB4];have:2 ^ i≤2 ^ 8:=aB5 (by decide) (by omega);have:=aBZ (Nat.le_of_lt z) this;omega
   have l:=ao0 (a:=pW a.toNat b.toNat i) (b:=a.toNat <<< i) (by omega) s;have I:IntKind.u64.wrap (((i:Nat):Int)+1)=((i+1:Nat):Int):=aiq (n:=i+1) (by omega);cases f:b.toNat.testBit i with
   | true =>
    rw [f,if_pos rfl] at d hs;rw [←hs] at l;replace hs:=Hid.mk hs;replace f:=Hid.mk f;simp only [↓pre,zab,aeN,lF,bE,iS,afA,aoZ,simprocAttr,bA,eq_self,aAP,D,G,J,g,B,c,d,r,l,I];exact ⟨q - 1,by omega,i+1,by omega,rfl,rfl⟩
   | false =>
    rw [f,if_neg (by decide)] at d hs;rw [←hs] at g;replace hs:=Hid.mk hs;replace f:=Hid.mk f;have u:¬ (0:Int)=1:=by decide
    simp only [↓pre,zab,lF,iS,fO,afA,simprocAttr,bA,eq_self,aAP,G,J,g,B,c,d,u,I];exact ⟨q - 1,by omega,i+1,by omega,rfl,rfl⟩
  ·have c:¬ ((i:Nat):Int) < 8:=by omega
   have hi:i=8:=by omega
   subst hi;simp only [↓pre,zab,fO,simprocAttr,bA,eq_self,g,B]
theorem awu {a b:UInt8} (h:aQ a b=1):a≠0∧b=cN a:=by
 have c:a≠0:=fun e=>by rw [e,uK] at h;exact absurd h (by decide)
 exact ⟨c,ac3 c (h.trans (qO c).symm)⟩
theorem ao3 (a:UInt8):aR ayS 349 [bA a] ⟨.tup [bA (if a=0 then 0 else cN a),aC (if a=0 then 10 else 0)],[]⟩:=by
 have v:=afC a;refine aX Tryz.func349 aB (h:=?_);unfold Tryz.f349;simp only [↓pre,simprocAttr,sx,bA];rw [bS];refine bU (fun q e m=>∃ b,q+b=256∧1≤b∧e 0=bA a∧e 4=aC (b:Nat)∧Hid (∀ j,1≤j→j < b→aQ a (azN j)≠1)) 255 ⟨1,by omega,by omega,rfl,rfl,⟨fun j l t=>by omega⟩⟩ ?_;rintro q e m ⟨b,y,u,r,i,s⟩;by_cases p:b < 256
 ·have c:((b:Nat):Int) < 256:=by omega
  have o:=yL p;have w:=bY (n:=b) (by omega);have d:=v (azN b);by_cases l:aQ a (azN b)=1
  ·obtain ⟨g,hi⟩:=awu l;have f:((aQ a (azN b)).toNat:Int)=1:=by rw [l];rfl
   rw [hi] at o d f;simp only [↓pre,zab,aho,bE,iS,simprocAttr,bA,eq_self,r,i,c,o]
   (first | refine aH (d) (by first | rfl | simp only [aA,aD, *]) ?_ | refine aG (d) (by first | rfl | simp only [aA,aD, *]) (by intro k;first | rfl | simp only [ *,zaa]) ?_);simp only [↓pre,zab,aho,bE,iS,simprocAttr,bA,eq_self,i,o,f]
   simp [g]
  ·have f:¬ ((aQ a (azN b)).toNat:Int)=1:=fun h=>l (UInt8.toNat_inj.1 (by show _=1;omega))
   simp only [↓pre,zab,aho,bE,iS,simprocAttr,bA,eq_self,r,i,c,o]
   (first | refine aH (d) (by first | rfl | simp only [aA,aD, *]) ?_ | refine aG (d) (by first | rfl | simp only [aA,aD, *]) (by intro k;first | rfl | simp only [ *,zaa]) ?_);simp only [↓pre,zab,fO,simprocAttr,bA,eq_self,r,i,f,w]
   refine ⟨q - 1,by omega,b+1,by omega,by omega,rfl,⟨fun j t x => ?_⟩⟩;by_cases e:j=b
   ·subst e;exact l
   ·exact s.out j t (by omega)
 ·have c:¬ ((b:Nat):Int) < 256:=by omega
  have g:a=0:=Decidable.byContradiction fun g=>by
   refine s.out (cN a).toNat ?_ (by have:=jN (cN a);omega) ?_
   ·have:(cN a).toNat≠0:=fun h=>ae2 g (UInt8.toNat_inj.1 h)
    omega
   ·rw [UInt8.ofNat_toNat,qO g]
  subst g;simp only [↓pre,zab,fO,simprocAttr,bA,eq_self,i,c]
  all_goals rfl
theorem ao4 (a b:UInt8):aR ayS 337 [bA a,bA b] ⟨.tup [bA (if b=0 then 0 else aQ a (cN b)),aC (if b=0 then 10 else 0)],[]⟩:=by
 have hi:=ao3 b;have d:=afC a (cN b);refine aX Tryz.func337 aB (h:=?_);unfold Tryz.f337;simp only [↓pre,zab,simprocAttr,bA,eq_self];by_cases c:b=0
 ·simp only [if_pos c] at hi ⊢
  (first | refine aH (hi) (by first | rfl | simp only [aA,aD, *]) ?_ | refine aG (hi) (by first | rfl | simp only [aA,aD, *]) (by intro k;first | rfl | simp only [ *,zaa]) ?_);simp only [↓pre,zab,iS,simprocAttr,bA,eq_self]
  all_goals rfl
 ·simp only [if_neg c] at hi ⊢;replace c:=Hid.mk c
  (first | refine aH (hi) (by first | rfl | simp only [aA,aD, *]) ?_ | refine aG (hi) (by first | rfl | simp only [aA,aD, *]) (by intro k;first | rfl | simp only [ *,zaa]) ?_);simp only [↓pre,zab,fO,simprocAttr,bA,eq_self];(first | refine aH (d) (by first | rfl | simp only [aA,aD, *]) ?_ | refine aG (d) (by first | rfl | simp only [aA,aD, *]) (by intro k;first | rfl | simp only [ *,zaa]) ?_);simp only [↓pre,simprocAttr,sx,bA,eq_self]
end Go.Proofs.YtaekhhlgnbhnpaaGreat