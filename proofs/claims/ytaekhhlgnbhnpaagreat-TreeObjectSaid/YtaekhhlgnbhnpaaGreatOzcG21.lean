import Derived.Test.YtaekhhlgnbhnpaaGreatOzcG20
import Derived.Test.YtaekhhlgnbhnpaaGreatOzcG18
import Derived.Test.YtaekhhlgnbhnpaaGreatOzcG09
import Derived.Test.YtaekhhlgnbhnpaaGreatOzcG19
import Derived.Test.YtaekhhlgnbhnpaaGreatOzcG11
import Derived.Test.YtaekhhlgnbhnpaaGreatOzcG12
import Derived.Test.YtaekhhlgnbhnpaaGreatOzcG15
set_option linter.unusedVariables false
set_option linter.unusedSimpArgs false
set_option maxRecDepth 10000
namespace Go.Proofs.YtaekhhlgnbhnpaaGreat
open Go Go.Tw Go.Proofs Go.Gf
def pN (bs:List UInt8):Nat:=dN ((bs.drop 5).take 2)
def dK (bs:List UInt8):Int:=(dN (bs.take 4):Nat)
def dQ (bs:List UInt8):Int:=(dN ((bs.drop 4).take 1):Nat)
def cS (bs:List UInt8):List bP:=dP (bs.drop 7) (pN bs)
def q9 (k r c w:Int) (bs:List UInt8):Bool:=decide (7+6*pN bs≤bs.length) && (decide (kT k r c w (dK bs) (dQ bs) (cS bs)=0) && decide (kU k c (dK bs) (dQ bs) (cS bs)=bs))
def mJ (k r c w:Int) (bs:List UInt8):Int:=if bU k r c w=true then (if (bs.length:Int)=wI k c then (if q9 k r c w bs=true then 0 else 150) else 20) else 2
def rA (len dep:Int) (l:List bP):AV := .agg [aD len,aD dep,bJ l.length (bI l)]
def oJ:AV := .agg [aD 0,aD 0,aO]
def abC (k r c w:Int) (bs:List UInt8):AV:=if mJ k r c w bs=0 then rA (dK bs) (dQ bs) (cS bs) else oJ
theorem aul (e:Int) (k:Nat) (m:aF):fzT k m (.tup [oJ,aD e])=some (.tup [oJ,aD e]):=iI (wH fun c hc=>by
 simp only [List.mem_cons,List.not_mem_nil,or_false] at hc
 rcases hc with rfl | rfl | rfl <;> exact b8 _) (b8 _) k m
theorem anB (len dep:Int) (l:List bP):fE (rA len dep l):=wH fun c hc=>by
 simp only [List.mem_cons,List.not_mem_nil,or_false] at hc
 rcases hc with rfl | rfl | rfl
 ·exact b8 _
 ·exact b8 _
 ·exact kD (dX _ _)
def mS:Nat→Bool:=fun d=>d != 4 && d != 7
def PaQ (E PL PD:Int) (PR:List bP) (a:AV) (m:aF):Prop:=(E=0∧∃ u,a = .tup [.agg [aD PL,aD PD,u],aD 0]∧cY m 67 2 u PR.length (bI PR))∨(E≠0∧a = .tup [.agg [.val (.int .i64 0),.val (.int .i64 0),.val (.slice none 0 0)],.val (.int .i64 E)])
theorem aum (k r c w:Int) (v:AV) (bs:List UInt8) (x:List AV) (hv:bC v bs.length (aT bs++x)):fA Tryz.prog 92 [aA k r c w,v] aF.empty (PaQ (mJ k r c w bs) (dK bs) (dQ bs) (cS bs)):=by
 have hp:=hv.plain
 have h1:=anx k r c w v bs.length _ hv
 by_cases hg:bU k r c w=true∧(bs.length:Int)=wI k c
 ·obtain ⟨hm,hl⟩:=hg
  rw [if_pos hm,if_pos hl] at h1
  have hw:=gZ hm
  have hbl:bs.length≤768∧32≤bs.length:=by unfold wI at hl;omega
  have hE:mJ k r c w bs=if q9 k r c w bs=true then 0 else 150:=by unfold mJ;rw [if_pos hm,if_pos hl]
  rw [hE]
  obtain ⟨v1,s1,r1⟩:=hv.slice (P:=Tryz.prog) (t:=52) (sz:=1) (lo:=none) (hi:=some 4) (by kernel_rfl) (by simp) (by simp only [Option.getD_some];omega)
  obtain ⟨v2,s2,r2⟩:=hv.slice (P:=Tryz.prog) (t:=52) (sz:=1) (lo:=some 4) (hi:=some 5) (by kernel_rfl) (by simp) (by simp only [Option.getD_some];omega)
  obtain ⟨v3,s3,r3⟩:=hv.slice (P:=Tryz.prog) (t:=52) (sz:=1) (lo:=some 5) (hi:=some 7) (by kernel_rfl) (by simp) (by simp only [Option.getD_some];omega)
  obtain ⟨v4,s4,r4⟩:=hv.slice (P:=Tryz.prog) (t:=52) (sz:=1) (lo:=some 7) (hi:=none) (by kernel_rfl) (by simp only [Option.getD_some,Option.getD_none];omega) (by simp)
  simp only [Option.getD_some,Option.getD_none,Nat.mul_one,Nat.sub_zero,List.drop_zero] at r1 r2 r3 r4
  rw [rY _ x 4 (by omega)] at r2
  rw [rY _ x 5 (by omega)] at r3
  rw [rY _ x 7 (by omega),←List.length_drop] at r4
  have c1:=acV v1 4 bs x r1 (by omega) (by omega)
  have c2:=acV v2 1 (bs.drop 4) x r2 (by rw [List.length_drop];omega) (by omega)
  have c3:=acV v3 2 (bs.drop 5) x r3 (by rw [List.length_drop];omega) (by omega)
  have pl1:=r1.plain
  have pl2:=r2.plain
  have pl3:=r3.plain
  have pl4:=r4.plain
  have hn2:pN bs < 65536:=zO 2 (bs.drop 5)
  rw [show dN ((bs.drop 5).take 2)=pN bs from rfl] at c3
  rw [show ((dN (bs.take 4):Nat):Int)=dK bs from rfl] at c1
  rw [show ((dN ((bs.drop 4).take 1):Nat):Int)=dQ bs from rfl] at c2
  have n4:iA (.val (.int .i64 4))=some 4:=rfl
  have n5:iA (.val (.int .i64 5))=some 5:=rfl
  have n7:iA (.val (.int .i64 7))=some 7:=rfl
  have w1:IntKind.i64.wrap (6*((pN bs:Nat):Int))=((6*pN bs:Nat):Int):=by rw [show 6*((pN bs:Nat):Int)=((6*pN bs:Nat):Int) by simp];exact dT (by omega)
  have w2:IntKind.i64.wrap (7+((6*pN bs:Nat):Int))=((7+6*pN bs:Nat):Int):=by rw [show 7+((6*pN bs:Nat):Int)=((7+6*pN bs:Nat):Int) by simp];exact dT (by omega)
  have hso:=fun m=>hv.slOk (P:=Tryz.prog) (m:=m) (t:=52)
  have hsx:=fun d c m lo hi mx=>hv.sliceX (P:=Tryz.prog) (m:=m) (t:=52) (d:=d) (c:=c) (lo:=lo) (hi:=hi) (mx:=mx)
  replace hE:=aB.mk hE
  refine bZ follows Tryz.func92 (by unfold Tryz.f92;rfl) (by unfold Tryz.f92;simp) mS (by unfold Tryz.f92;simp) (by kernel_rfl) ?_;unfold Tryz.f92
  simp only [↓pre,simprocAttr,aA,sx,nX,mS,bne,aC,bQ,bH,Option.map_none,Option.map_some,aJ,aK,aG,aH,aZ,aW,aQ,Nat.one_ne_zero,Nat.zero_ne_one,Nat.reduceEqDiff,n4,n5,n7,hso,hsx,s1,s2,s3,s4,sr]
  refine aM (h1) (by simp only [aA,aV, *]) ?_;simp only [↓pre,simprocAttr,aA,sx,nX,mS,bne,aC,bQ,bH,Option.map_none,Option.map_some,aJ,aK,aG,aH,aZ,aW,aQ,Nat.one_ne_zero,Nat.zero_ne_one,Nat.reduceEqDiff,n4,n5,n7,hso,hsx,s1,s2,s3,s4,sr];(refine cE (c1) (by simp only [aA,aV, *]) (by intro k;rfl) ?_);simp only [↓pre,simprocAttr,aA,sx,nX,mS,bne,aC,bQ,bH,Option.map_none,Option.map_some,aJ,aK,aG,aH,aZ,aW,aQ,Nat.one_ne_zero,Nat.zero_ne_one,Nat.reduceEqDiff,n4,n5,n7,hso,hsx,s1,s2,s3,s4,sr];(refine cE (c2) (by simp only [aA,aV, *]) (by intro k;rfl) ?_);simp only [↓pre,simprocAttr,aA,sx,nX,mS,bne,aC,bQ,bH,Option.map_none,Option.map_some,aJ,aK,aG,aH,aZ,aW,aQ,Nat.one_ne_zero,Nat.zero_ne_one,Nat.reduceEqDiff,n4,n5,n7,hso,hsx,s1,s2,s3,s4,sr]
  refine dJ (by kernel_rfl) ?_
  simp only [↓pre,simprocAttr,aA,sx,nX,mS,bne,aC,bQ,bH,Option.map_none,Option.map_some,aJ,aK,aG,aH,aZ,aW,aQ,Nat.one_ne_zero,Nat.zero_ne_one,Nat.reduceEqDiff,n4,n5,n7,hso,hsx,s1,s2,s3,s4,sr]
  refine dJ (by kernel_rfl) ?_
  by_cases hfit:7+6*pN bs≤bs.length
  ·have hfit':¬ ((bs.length:Nat):Int) < ((7+6*pN bs:Nat):Int):=by omega
   have c4:=auk v4 (bs.drop 7) x (pN bs) r4 (by rw [List.length_drop];omega) (by rw [List.length_drop];omega)
   rw [show dP (bs.drop 7) (pN bs)=cS bs from rfl] at c4
   have hpl:(cS bs).length=pN bs:=abB _ _
   have c5:=aui k r c w (dK bs) (dQ bs) (bJ (cS bs).length (bI (cS bs))) (cS bs) ⟨[],by rw [List.append_nil];exact dX _ _⟩ (by omega)
   have c6:=anA (.tree (kU k c (dK bs) (dQ bs) (cS bs)).length (kU k c (dK bs) (dQ bs) (cS bs)).length (aT (kU k c (dK bs) (dQ bs) (cS bs))) true) v (kU k c (dK bs) (dQ bs) (cS bs)) bs [] x ⟨.inr (.inr ⟨_,true,by rw [List.append_nil],Nat.le_refl _⟩)⟩ hv
   have hml:(kU k c (dK bs) (dQ bs) (cS bs)).length≠0:=by
    unfold kU pA oH
    simp only [List.length_append,kF]
    omega
   have hok:q9 k r c w bs=(decide (kT k r c w (dK bs) (dQ bs) (cS bs)=0) && decide (kU k c (dK bs) (dQ bs) (cS bs)=bs)):=by unfold q9;rw [decide_eq_true hfit];rfl
   rw [hok]
   unfold aeU at c5
   replace hpl:=aB.mk hpl
   generalize kU k c (dK bs) (dQ bs) (cS bs)=MB at *
   generalize kT k r c w (dK bs) (dQ bs) (cS bs)=CK at *
   generalize cS bs=PR at *
   generalize dK bs=PL at *
   generalize dQ bs=PD at *
   replace hok:=aB.mk hok
   replace hfit:=aB.mk hfit
   simp only [↓pre,simprocAttr,aA,sx,nX,mS,bne,aC,bQ,bH,Option.map_none,Option.map_some,aJ,aK,aG,aH,aZ,aW,aQ,Nat.one_ne_zero,Nat.zero_ne_one,Nat.reduceEqDiff,n4,n5,n7,hso,hsx,s1,s2,s3,s4,sr]
   refine aM (c3) (by simp only [aA,aV, *]) ?_;simp only [↓pre,simprocAttr,aA,sx,nX,mS,bne,aC,bQ,bH,Option.map_none,Option.map_some,aJ,aK,aG,aH,aZ,aW,aQ,Nat.one_ne_zero,Nat.zero_ne_one,Nat.reduceEqDiff,n4,n5,n7,hso,hsx,s1,s2,s3,s4,w1,w2,hv.len',hfit',sr]
   refine acU (fun a=>a) c4 (pW 3 _ (by simp [eB,plain,pl4])).1 (fun _ _=>rfl) (fun _ _=>by simp [jH]) fun a m1 hN => ?_
   rcases hN.form with ⟨rfl,rfl,rfl⟩ | ⟨rfl,h0,rfl⟩
   all_goals clear hN
   all_goals (
    try replace h0:=aB.mk h0
    simp only [↓pre,simprocAttr,aA,sx,nX,mS,bne,aC,bQ,bH,Option.map_none,Option.map_some,aJ,aK,aG,aH,aZ,aW,aQ,Nat.one_ne_zero,Nat.zero_ne_one,Nat.reduceEqDiff,n4,n5,n7,hso,hsx,s1,s2,s3,s4,sr]
    refine aue c5 (by first | (simp [eM,lend,aA,aD,bJ,aO];done) | simp [eM,lend,aA,aD,bJ,aG,aH,aZ,aW,aQ,h0.out]) fun b m2 hN2 => ?_
    by_cases hck:CK=0
    ·rw [if_pos hck] at hN2
     rcases hN2.form with ⟨_,h3,_⟩ | ⟨rfl,h3,rfl⟩
     ·rw [h3] at hml
      exact absurd rfl hml
     ·replace h3:=aB.mk h3
      simp only [↓pre,simprocAttr,aA,sx,nX,mS,bne,aC,bQ,bH,Option.map_none,Option.map_some,aJ,aK,aG,aH,aZ,aW,aQ,Nat.one_ne_zero,Nat.zero_ne_one,Nat.reduceEqDiff,n4,n5,n7,hso,hsx,s1,s2,s3,s4,hck,sr]
      refine aaJ c6 (by simp [eM,lend,aG,aH,aZ,aW,aQ,(vK 3 _ hp).1]) rfl rfl ?_
      by_cases heq:MB=bs
      ·simp only [↓pre,simprocAttr,aA,sx,nX,mS,bne,aC,bQ,bH,Option.map_none,Option.map_some,aJ,aK,aG,aH,aZ,aW,aQ,Nat.one_ne_zero,Nat.zero_ne_one,Nat.reduceEqDiff,n4,n5,n7,hso,hsx,s1,s2,s3,s4,heq,sr]
       first | exact .inl ⟨rfl,_,rfl,fB⟩ | exact .inl ⟨rfl,_,rfl,⟨.inr ⟨2,rfl,by simp [aG,aH,aZ,aW,aQ],by simp [aZ,aW,aQ],Nat.pos_of_ne_zero h0.out⟩,lW _⟩⟩
      ·simp only [↓pre,simprocAttr,aA,sx,nX,mS,bne,aC,bQ,bH,Option.map_none,Option.map_some,aJ,aK,aG,aH,aZ,aW,aQ,Nat.one_ne_zero,Nat.zero_ne_one,Nat.reduceEqDiff,n4,n5,n7,hso,hsx,s1,s2,s3,s4,heq,sr]
       exact .inr ⟨by decide,rfl⟩
    ·rw [if_neg hck] at hN2
     rcases hN2.form with ⟨rfl,_,rfl⟩ | ⟨_,h3,_⟩
     ·simp only [↓pre,simprocAttr,aA,sx,nX,mS,bne,aC,bQ,bH,Option.map_none,Option.map_some,aJ,aK,aG,aH,aZ,aW,aQ,Nat.one_ne_zero,Nat.zero_ne_one,Nat.reduceEqDiff,n4,n5,n7,hso,hsx,s1,s2,s3,s4,hck,sr]
      exact .inr ⟨by decide,rfl⟩
     ·exact absurd rfl h3)
  ·have hfit':((bs.length:Nat):Int) < ((7+6*pN bs:Nat):Int):=by omega
   have hok:q9 k r c w bs=false:=by unfold q9;rw [decide_eq_false hfit];rfl
   rw [hok,if_neg (by decide)]
   replace hok:=aB.mk hok
   replace hfit:=aB.mk hfit
   simp only [↓pre,simprocAttr,aA,sx,nX,mS,bne,aC,bQ,bH,Option.map_none,Option.map_some,aJ,aK,aG,aH,aZ,aW,aQ,Nat.one_ne_zero,Nat.zero_ne_one,Nat.reduceEqDiff,n4,n5,n7,hso,hsx,s1,s2,s3,s4,sr]
   refine aM (c3) (by simp only [aA,aV, *]) ?_;simp only [↓pre,simprocAttr,aA,sx,nX,mS,bne,aC,bQ,bH,Option.map_none,Option.map_some,aJ,aK,aG,aH,aZ,aW,aQ,Nat.one_ne_zero,Nat.zero_ne_one,Nat.reduceEqDiff,n4,n5,n7,hso,hsx,s1,s2,s3,s4,w1,w2,hv.len',hfit',sr]
   exact .inr ⟨by decide,rfl⟩
 ·have hE:mJ k r c w bs=(if bU k r c w=true then (if (bs.length:Int)=wI k c then 0 else 20) else 2):=by
   unfold mJ
   by_cases hm:bU k r c w=true
   ·rw [if_pos hm,if_pos hm,if_neg (fun h=>hg ⟨hm,h⟩),if_neg (fun h=>hg ⟨hm,h⟩)]
   ·rw [if_neg hm,if_neg hm]
  have hne:mJ k r c w bs≠0:=by
   rw [hE]
   by_cases hm:bU k r c w=true
   ·rw [if_pos hm,if_neg (fun h=>hg ⟨hm,h⟩)];decide
   ·rw [if_neg hm];decide
  rw [←hE] at h1
  replace hE:=aB.mk hE
  generalize mJ k r c w bs=PE at *
  refine bZ follows Tryz.func92 (by unfold Tryz.f92;rfl) (by unfold Tryz.f92;simp) mS (by unfold Tryz.f92;simp) (by kernel_rfl) ?_;unfold Tryz.f92
  simp only [↓pre,simprocAttr,aA,sx,nX,mS,bne,aC,bQ,bH,Option.map_none,Option.map_some,aJ,aK,aG,aH,aZ,aW,aQ,Nat.one_ne_zero,Nat.zero_ne_one,Nat.reduceEqDiff,sr]
  refine aM (h1) (by simp only [aA,aV, *]) ?_;simp only [↓pre,simprocAttr,aA,sx,nX,mS,bne,aC,bQ,bH,Option.map_none,Option.map_some,aJ,aK,aG,aH,aZ,aW,aQ,Nat.one_ne_zero,Nat.zero_ne_one,Nat.reduceEqDiff,hne,sr]
  exact .inr ⟨hne,rfl⟩
def ahm (E PL PD:Int) (PR:List bP):gJ:=if E=0 then q8 (fun a => .tup [.agg [aD PL,aD PD,a],aD 0]) PR else ⟨.tup [oJ,aD E],[]⟩
theorem aun (k r c w:Int) (v:AV) (bs:List UInt8) (x:List AV) (hv:bC v bs.length (aT bs++x)):aX Tryz.prog 92 [aA k r c w,v] (ahm (mJ k r c w bs) (dK bs) (dQ bs) (cS bs)):=aac (pX (aum k r c w v bs x hv) fun a m h=>by
 unfold ahm
 rcases h with ⟨h,u,rfl,ho⟩ | ⟨h,rfl⟩
 ·rw [h,if_pos rfl]
  exact auf ho
 ·rw [if_neg h]
  simp [kG,iT,canon,f9,oJ,aD,aO])
theorem uW {v:AV} {n:Nat} {cs:List AV} (h:bC v n cs):v.cells=[v]:=by
 rcases h.form with ⟨rfl,_⟩ | ⟨_,_,rfl,_⟩ | ⟨_,_,rfl,_⟩ <;> rfl
theorem uX {v:AV} {n:Nat} {cs:List AV} (h:bC v n cs):fK v=true:=by
 rcases h.form with ⟨rfl,_⟩ | ⟨_,_,rfl,_⟩ | ⟨_,_,rfl,_⟩ <;> rfl
abbrev aeW (k r c w:Int) (v:AV):AV := .agg [.val (.int .i64 k),.val (.int .i64 r),.val (.int .i64 c),.val (.int .i64 w),v]
theorem auo (k r c w:Int) (v:AV) (n:Nat) (cs:List AV) (hv:bC v n cs) (g:FuncId) (a:Int) (is:Bool) (e:Int) (hg:aX Tryz.prog g [aeW k r c w v] ⟨.tup [aD a,bB is,aD e],[]⟩):aX Tryz.prog 87 [aeW k r c w v,.clo g []] ⟨.tup [aD (if e=0 then (if is=true then a else 0) else 0),aD e],[]⟩:=by
 have f1:=cM hv
 have q1:=b6 hv
 have hp:=hv.plain
 by_cases he:e=0
 ·subst he
  rw [if_pos rfl]
  cases is with
  | true =>
   rw [if_pos rfl]
   refine bE follows Tryz.func87 (by unfold Tryz.f87;rfl) (by unfold Tryz.f87;simp) aE (by unfold Tryz.f87;simp) (by kernel_rfl) ?_;unfold Tryz.f87
   simp only [↓pre,simprocAttr,aA,sx,aa2,aE,aC,f1,q1,sr]
   refine aM (hg) (by simp only [aA,aV, *]) ?_;simp only [↓pre,simprocAttr,aA,sx,aa2,aE,aC,f1,q1,sr]
  | false =>
   rw [if_neg (by decide)]
   refine bE follows Tryz.func87 (by unfold Tryz.f87;rfl) (by unfold Tryz.f87;simp) aE (by unfold Tryz.f87;simp) (by kernel_rfl) ?_;unfold Tryz.f87
   simp only [↓pre,simprocAttr,aA,sx,aa2,aE,aC,f1,q1,sr]
   refine aM (hg) (by simp only [aA,aV, *]) ?_;simp only [↓pre,simprocAttr,aA,sx,aa2,aE,aC,f1,q1,sr]
 ·rw [if_neg he]
  refine bE follows Tryz.func87 (by unfold Tryz.f87;rfl) (by unfold Tryz.f87;simp) aE (by unfold Tryz.f87;simp) (by kernel_rfl) ?_;unfold Tryz.f87
  simp only [↓pre,simprocAttr,aA,sx,aa2,aE,aC,f1,q1,sr]
  refine aM (hg) (by simp only [aA,aV, *]) ?_;simp only [↓pre,simprocAttr,aA,sx,aa2,aE,aC,f1,q1,he,sr]
theorem aup (k r c w:Int) (v:AV) (ps:List bX) (cells:List AV) (hv:fR v ps cells):aX Tryz.prog 88 [aeW k r c w v] ⟨aep k r c w ps,[]⟩:=by
 have h:=asD k r c w v ps cells hv
 have f1:=cM hv.rd
 have q1:=b6 hv.rd
 have hp:=hv.rd.plain
 unfold aep at h ⊢
 generalize (jJ k r c w ps).getD 0 0=a at *
 generalize decide (1≤(jJ k r c w ps).length)=b at *
 generalize eK k r c w ps=e at *
 refine bE follows Tryz.func88 (by unfold Tryz.f88;rfl) (by unfold Tryz.f88;simp) aE (by unfold Tryz.f88;simp) (by kernel_rfl) ?_;unfold Tryz.f88
 simp only [↓pre,simprocAttr,aA,sx,ale,aE,f1,q1]
 refine aM (h) (by simp only [aA,aV, *]) ?_;simp only [↓pre,simprocAttr,aA,sx,ale,aE,f1,q1,bB]
def eV (k r c w:Int) (ps:List bX):Int:=(jJ k r c w ps).getD 0 0
def anC (k r c w:Int) (ps:List bX):Int:=(jJ k r c w ps).getD 1 0
theorem auq (k r c w:Int) (v:AV) (ps:List bX) (cells:List AV) (hv:fR v ps cells):aX Tryz.prog 87 [aeW k r c w v,.clo 88 []] ⟨.tup [aD (if eK k r c w ps=0 then eV k r c w ps else 0),aD (eK k r c w ps)],[]⟩:=by
 have h:=auo k r c w v _ _ hv.rd _ _ _ _ (aup k r c w v ps cells hv)
 have e:(if decide (1≤(jJ k r c w ps).length)=true then (jJ k r c w ps).getD 0 0 else 0)=eV k r c w ps:=by
  unfold eV
  split
  ·rfl
  ·rename_i h1
   have:(jJ k r c w ps).length=0:=by simp at h1;simp [h1]
   rw [List.eq_nil_of_length_eq_zero this]
   rfl
 rw [e] at h
 exact h
def fV (k r c w:Int) (ps:List bX):List UInt8:=nK k r c w ps 2 (eV k r c w ps) k.toNat
def iP (k r c w:Int) (ps:List bX):Int:=if eK k r c w ps=0 then (if eV k r c w ps=0 then 5 else if jU k r c w ps 2 (eV k r c w ps) < k.toNat then 5 else mJ k r c w (fV k r c w ps)) else eK k r c w ps
def abD (k r c w:Int) (ps:List bX):AV:=if iP k r c w ps=0 then .tup [rA (dK (fV k r c w ps)) (dQ (fV k r c w ps)) (cS (fV k r c w ps)),aD (eV k r c w ps),aD 0] else .tup [oJ,aD 0,aD (iP k r c w ps)]
theorem anD {k r c w:Int} {ps:List bX} (h:eK k r c w ps=0):bU k r c w=true∧dS k r c ps=true:=by
 unfold eK at h
 split at h
 ·rename_i h1
  split at h
  ·rename_i h2;exact ⟨h1,h2⟩
  ·omega
 ·omega
theorem anE {k r c w:Int} {ps:List bX} (hc:eK k r c w ps=0) (h:eV k r c w ps≠0):g8 (eV k r c w ps)=true:=by
 have hl:1≤(jJ k r c w ps).length:=by
  rcases Nat.eq_zero_or_pos (jJ k r c w ps).length with h0 | h0
  ·exfalso
   apply h
   unfold eV
   rw [List.eq_nil_of_length_eq_zero h0]
   rfl
  ·exact h0
 have hm:=asE hl
 have hm2:eV k r c w ps∈(jS k r c w ps).filter (nF k (f8 k r c w ps)):=hm
 have:=(amk k r c w ps).2 _ (List.mem_filter.1 hm2).1
 unfold g8
 exact decide_eq_true this
theorem ahn (bs:List UInt8) (n:Nat) (h:bs.length=n):bC (bJ n (aT bs)) bs.length (aT bs++[]):=by rw [h,List.append_nil];exact dX _ _
theorem anF {k r c w:Int} {ps:List bX} (hm:bU k r c w=true):(fV k r c w ps).length=k.toNat*c.toNat:=aaa _ _ _ _ _ _ _ _
def rB:Nat→Bool:=fun d=>d != 4 && d != 10
def CrQ (E PL PD W:Int) (PR:List bP) (a:AV) (m:aF):Prop:=(E=0∧∃ u,a = .tup [.agg [aD PL,aD PD,u],aD W,aD 0]∧cY m 67 2 u PR.length (bI PR))∨(E≠0∧a = .tup [.agg [.val (.int .i64 0),.val (.int .i64 0),.val (.slice none 0 0)],.val (.int .i64 0),.val (.int .i64 E)])
theorem aur (k r c w:Int) (v:AV) (ps:List bX) (cells:List AV) (hv:fR v ps cells):fA Tryz.prog 17 [aA k r c w,v] aF.empty (CrQ (iP k r c w ps) (dK (fV k r c w ps)) (dQ (fV k r c w ps)) (eV k r c w ps) (cS (fV k r c w ps))):=by
 have h1:=auq k r c w v ps cells hv
 have hvc:=uW hv.rd
 have hvo:=uX hv.rd
 have f1:=cM hv.rd
 have q1:=b6 hv.rd
 have hp:=hv.rd.plain
 by_cases hc:eK k r c w ps=0
 ·obtain ⟨hm,hr⟩:=anD hc
  have hE:iP k r c w ps=if eV k r c w ps=0 then 5 else if jU k r c w ps 2 (eV k r c w ps) < k.toNat then 5 else mJ k r c w (fV k r c w ps):=by unfold iP;rw [if_pos hc]
  rw [if_pos hc,hc] at h1
  have hver:=anE hc
  have hrd:=fun h=>ani k r c w 2 (eV k r c w ps) v ps cells hv hm hr (.inr rfl) (hver h)
  have hdl:=anF (ps:=ps) hm
  have hcD:fV k r c w ps=nK k r c w ps 2 (eV k r c w ps) k.toNat:=rfl
  unfold wL at hrd
  rw [←hcD] at hrd
  rw [hE]
  clear hcD hE
  generalize eV k r c w ps=W at *
  generalize fV k r c w ps=D at *
  refine bZ follows Tryz.func17 (by unfold Tryz.f17;rfl) (by unfold Tryz.f17;simp) rB (by unfold Tryz.f17;simp) (by kernel_rfl) ?_;unfold Tryz.f17
  simp only [↓pre,simprocAttr,aA,sx,tK,rB,bne,aC,bQ,aJ,aK,aG,aH,aZ,aW,aQ,f1,q1,Nat.one_ne_zero,Nat.zero_ne_one,Nat.reduceEqDiff,↓hvc,↓hvo,sr]
  refine aM (h1) (by simp only [aA,aV, *]) ?_;simp only [↓pre,simprocAttr,aA,sx,tK,rB,bne,aC,bQ,aJ,aK,aG,aH,aZ,aW,aQ,f1,q1,Nat.one_ne_zero,Nat.zero_ne_one,Nat.reduceEqDiff,↓hvc,↓hvo,sr]
  by_cases hW:W=0
  ·subst hW
   rw [if_pos rfl]
   clear hrd hver
   simp only [↓pre,simprocAttr,aA,sx,tK,rB,bne,aC,bQ,aJ,aK,aG,aH,aZ,aW,aQ,f1,q1,Nat.one_ne_zero,Nat.zero_ne_one,Nat.reduceEqDiff,↓hvc,↓hvo,sr]
   exact .inr ⟨by decide,rfl⟩
  ·rw [if_neg hW]
   have hrd:=hrd hW
   clear hver
   by_cases hlt:jU k r c w ps 2 W < k.toNat
   ·rw [if_pos hlt] at hrd ⊢
    simp only [aO] at hrd
    simp only [↓pre,simprocAttr,aA,sx,tK,rB,bne,aC,bQ,aJ,aK,aG,aH,aZ,aW,aQ,f1,q1,Nat.one_ne_zero,Nat.zero_ne_one,Nat.reduceEqDiff,↓hvc,↓hvo,hW,sr]
    refine aM (hrd) (by simp only [aA,aV, *]) ?_;simp only [↓pre,simprocAttr,aA,sx,tK,rB,bne,aC,bQ,aJ,aK,aG,aH,aZ,aW,aQ,f1,q1,Nat.one_ne_zero,Nat.zero_ne_one,Nat.reduceEqDiff,↓hvc,↓hvo,hW,sr]
    exact .inr ⟨by decide,rfl⟩
   ·rw [if_neg hlt] at hrd ⊢
    have hpa:=aun k r c w (bJ (k.toNat*c.toNat) (aT D)) D [] (ahn D _ hdl)
    have pt:=(dX (k.toNat*c.toNat) (aT D)).plain
    unfold ahm at hpa
    generalize mJ k r c w D=PE at *
    replace hlt:=aB.mk hlt
    simp only [↓pre,simprocAttr,aA,sx,tK,rB,bne,aC,bQ,aJ,aK,aG,aH,aZ,aW,aQ,f1,q1,Nat.one_ne_zero,Nat.zero_ne_one,Nat.reduceEqDiff,↓hvc,↓hvo,hW,sr]
    refine aM (hrd) (by simp only [aA,aV, *]) ?_;simp only [↓pre,simprocAttr,aA,sx,tK,rB,bne,aC,bQ,aJ,aK,aG,aH,aZ,aW,aQ,f1,q1,Nat.one_ne_zero,Nat.zero_ne_one,Nat.reduceEqDiff,↓hvc,↓hvo,hW,sr]
    by_cases he:PE=0
    ·subst he
     rw [if_pos rfl] at hpa
     refine acU (fun a => .tup [.agg [aD (dK D),aD (dQ D),a],aD 0]) hpa (pW 3 _ (by simp [eB,plain,pt])).1 (fun _ _=>rfl) (fun _ _=>by simp [jH,kW,aD]) fun a m1 hN => ?_
     rcases hN.form with ⟨rfl,h0,rfl⟩ | ⟨rfl,h0,rfl⟩
     all_goals clear hN
     all_goals (
      replace h0:=aB.mk h0
      simp only [aD]
      simp only [↓pre,simprocAttr,aA,sx,tK,rB,bne,aC,bQ,aJ,aK,aG,aH,aZ,aW,aQ,f1,q1,Nat.one_ne_zero,Nat.zero_ne_one,Nat.reduceEqDiff,↓hvc,↓hvo,sr]
      first | exact .inl ⟨rfl,_,rfl,by rw [h0.out];exact fB⟩ | exact .inl ⟨rfl,_,rfl,⟨.inr ⟨1,rfl,by simp [aG,aH,aZ,aW,aQ],by simp [aZ,aW,aQ],Nat.pos_of_ne_zero h0.out⟩,lW _⟩⟩)
    ·rw [if_neg he] at hpa
     unfold oJ aO at hpa
     simp only [aD] at hpa
     refine aM (hpa) (by simp only [aA,aV, *]) ?_;simp only [↓pre,simprocAttr,aA,sx,tK,rB,bne,aC,bQ,aJ,aK,aG,aH,aZ,aW,aQ,f1,q1,Nat.one_ne_zero,Nat.zero_ne_one,Nat.reduceEqDiff,↓hvc,↓hvo,he,sr]
     exact .inr ⟨he,rfl⟩
 ·have hE:iP k r c w ps=eK k r c w ps:=by unfold iP;rw [if_neg hc]
  rw [if_neg hc] at h1
  rw [hE]
  refine bZ follows Tryz.func17 (by unfold Tryz.f17;rfl) (by unfold Tryz.f17;simp) rB (by unfold Tryz.f17;simp) (by kernel_rfl) ?_;unfold Tryz.f17
  simp only [↓pre,simprocAttr,aA,sx,tK,rB,bne,aC,bQ,aJ,aK,aG,aH,aZ,aW,aQ,f1,q1,Nat.one_ne_zero,Nat.zero_ne_one,Nat.reduceEqDiff,↓hvc,↓hvo,sr]
  refine aM (h1) (by simp only [aA,aV, *]) ?_;simp only [↓pre,simprocAttr,aA,sx,tK,rB,bne,aC,bQ,aJ,aK,aG,aH,aZ,aW,aQ,f1,q1,Nat.one_ne_zero,Nat.zero_ne_one,Nat.reduceEqDiff,↓hvc,↓hvo,hc,sr]
  exact .inr ⟨hc,rfl⟩
def aho (E PL PD W:Int) (PR:List bP):gJ:=if E=0 then q8 (fun a => .tup [.agg [aD PL,aD PD,a],aD W,aD 0]) PR else ⟨.tup [oJ,aD 0,aD E],[]⟩
theorem aus (k r c w:Int) (v:AV) (ps:List bX) (cells:List AV) (hv:fR v ps cells):aX Tryz.prog 17 [aA k r c w,v] (aho (iP k r c w ps) (dK (fV k r c w ps)) (dQ (fV k r c w ps)) (eV k r c w ps) (cS (fV k r c w ps))):=aac (pX (aur k r c w v ps cells hv) fun a m h=>by
 unfold aho
 rcases h with ⟨h,u,rfl,ho⟩ | ⟨h,rfl⟩
 ·rw [if_pos h]
  exact aug ho
 ·rw [if_neg h]
  simp [kG,iT,canon,f9,oJ,aD,aO])

structure acW where
 dr:Nat
 row:Int
 sl:Nat
 bs:List UInt8
def acW.cells (p:acW):List AV:=[aD p.dr,aD p.row,aD p.sl,bJ p.bs.length (aT p.bs)]
def aut (l:List acW):List AV:=l.flatMap acW.cells
structure WrA (m0 m:aF) (a:Nat) (k r c w:Int) (row:AV) (num:Int) (kv:AV) (l:List acW):Prop where
 ex:∃ v,m.at_ a=some ⟨[aD k,aD r,aD c,aD w,row,aD num,kv,v],195,.var,true⟩∧cO .var m 69 4 v l.length (aut l)∧l9 m0 v
 lt:a < m0.next
 next:m0.next≤m.next
 mm:m.mm=m0.mm
 at_:∀ j k,m0.at_ j=some k→j < m0.next→j≠a→m.at_ j=some k
structure awB (m m':aF) (pv:AV):Prop where
 next:m.next≤m'.next
 mm:m'.mm=m.mm
 at_:∀ j k,m.at_ j=some k→j < m.next→cF pv≠some j→m'.at_ j=some k
def rC (l:List Bool):List AV:=l.map bB
theorem auu {l:List Bool} {i:Nat} {b:Bool} (h:l[i]? = some b):(rC l)[i]? = some (.val (.bool b)):=by
 unfold rC
 rw [List.getElem?_map,h]
 rfl
theorem auv (m:aF) {n:Nat} (hn:n≤65536):pJ Tryz.prog m 25 n n=some ⟨.sl m.next 0 n n true,m.push ⟨rC (List.replicate n false),4,.flat,true⟩,none⟩:=by
 have h1:cD Tryz.prog 25=some 4:=by kernel_rfl
 have h2:cH Tryz.prog 4=some 1:=by kernel_rfl
 have h3:hY Tryz.prog 4=some 1:=by kernel_rfl
 have h4:bW Tryz.prog 4 = .flat:=by kernel_rfl
 have hz:=aeE h2 (x := .bool false) (by kernel_rfl) n
 have hr:rC (List.replicate n false)=(List.range n).map fun _=>AV.val (.bool false):=by
  unfold rC
  rw [List.map_replicate,List.map_const',List.length_range]
  rfl
 rw [hr]
 simp only [pJ,h1,h2,h3,h4,hz,bO,Option.bind_some,Nat.mul_one]
 rw [if_pos (by omega)]
 rw [List.take_of_length_le (by simp)]


theorem anG {P:Program} {once:Nat→Bool} {n id id2:Nat} {b:Code} {K:bN→aF→Prop} {Q:Ex→bN→aF→Prop} {e:bN} {m:aF} (R:bN→aF→Prop) (h2:∀ e m,R e m→K e m) (h1:yV (eJ P once n b) (oR id (oR id2 (pR R Q))) e m):yV (eJ P once n b) (oR id (oR id2 (pR K Q))) e m :=
 akN (.loop b) _ _ e m (adR (adR (adQ h2 fun _ _ _ h=>h))) h1
def d5 (k r c w:Int) (v:AV):AV := .agg [aD k,aD r,aD c,aD w,v]
theorem auw (k r c w:Int) (hm:bU k r c w=true):aX Tryz.prog 211 [aA k r c w] ⟨aD (d7 k r c),[]⟩:=by
 have hmn:=g7 hm
 have w1:IntKind.i64.wrap (k+r)=k+r:=eD (by omega) (by omega)
 have w2:IntKind.i64.wrap (4*(k+r))=4*(k+r):=eD (by omega) (by omega)
 have w3:IntKind.i64.wrap (12+4*(k+r))=12+4*(k+r):=eD (by omega) (by omega)
 have w4:IntKind.i64.wrap (12+4*(k+r)+c)=d7 k r c:=eD (by omega) (by omega)
 replace hmn:=aB.mk hmn
 refine bE follows Tryz.func211 (by unfold Tryz.f211;rfl) (by unfold Tryz.f211;simp) aE (by unfold Tryz.f211;simp) (by kernel_rfl) ?_;unfold Tryz.f211
 simp only [↓pre,simprocAttr,aA,sx,aq4,aE,w1,w2,w3,w4]
def sQ (k r c w:Int) (L:List (List UInt8)):Bool:=decide ((L.length:Int)=(k+r)*w*2) && L.all fun b=>eS k r c b.length
def kH (k r c w:Int) (L:List (List UInt8)):Int:=if bU k r c w=true then (if sQ k r c w L=true then 0 else 90) else 2
theorem ahp {k r c w:Int} (h:bU k r c w=true):0≤(k+r)*w∧(k+r)*w≤4096:=by
 have h1:=jN.1 h
 have h2:(k+r)*w≤16*w:=Int.mul_le_mul_of_nonneg_right (by omega) (by omega)
 exact ⟨Int.mul_nonneg (by omega) (by omega),by omega⟩
theorem anH (k r c w:Int) (v:AV) (L:List (List UInt8)) (cells:List AV) (hv:gI v L cells):aX Tryz.prog 124 [d5 k r c w v] ⟨aD (kH k r c w L),[]⟩:=by
 have hp:=hv.rd.plain
 have hf:=cM hv.rd
 have ho:=b6 hv.rd
 have hd:=uO k r c w
 unfold kH d5
 cases hm:bU k r c w with
 | false =>
  simp only [hm,Bool.false_eq_true,if_false] at hd ⊢
  refine bE follows Tryz.func124 (by unfold Tryz.f124;rfl) (by unfold Tryz.f124;simp) aE (by unfold Tryz.f124;simp) (by kernel_rfl) ?_;unfold Tryz.f124
  simp only [↓pre,simprocAttr,aA,sx,rW,aE,aC,hf,ho]
  refine aM (hd) (by rfl) ?_;simp only [↓pre,simprocAttr,aA,sx,rW,aE,aC,bB,dH,cW]
 | true =>
  simp only [hm,if_true] at hd ⊢
  have hmn:=g7 hm
  have hb:=ahp hm
  have hs:=auw k r c w hm
  have w1:IntKind.i64.wrap ((k+r)*w)=(k+r)*w:=eD (by omega) (by omega)
  have w2:IntKind.i64.wrap ((k+r)*w*2)=(k+r)*w*2:=eD (by omega) (by omega)
  by_cases hl:(L.length:Int)=(k+r)*w*2
  ·generalize hres:(if sQ k r c w L=true then (0:Int) else 90)=E
   have hno:∀ b:List UInt8,b∈L→eS k r c b.length=false→E=90:=fun b hb h=>by
    rw [←hres,if_neg]
    intro h2
    unfold sQ at h2
    rw [Bool.and_eq_true,List.all_eq_true] at h2
    rw [h2.2 b hb] at h
    cases h
   have hyes:(∀ b∈L,eS k r c b.length=true)→E=0:=fun h=>by
    rw [←hres,if_pos]
    unfold sQ
    rw [decide_eq_true hl,Bool.true_and,List.all_eq_true]
    exact h
   have hln:∀ n:Nat,eS k r c n=(decide ((n:Int)=0) || decide ((n:Int)=d7 k r c)):=fun _=>rfl
   obtain ⟨N,hN⟩:∃ N:Nat,L.length=N:=⟨_,rfl⟩
   have hN2:N≤8192:=by omega
   replace hmn:=aB.mk hmn
   replace hb:=aB.mk hb
   replace hres:=aB.mk hres
   replace hno:=aB.mk hno
   replace hyes:=aB.mk hyes
   replace hN:=aB.mk hN
   have hN':=hN.out
   refine bE follows Tryz.func124 (by unfold Tryz.f124;rfl) (by unfold Tryz.f124;simp) aE (by unfold Tryz.f124;simp) (by kernel_rfl) ?_;unfold Tryz.f124
   simp only [↓pre,simprocAttr,aA,sx,rW,aE,aC,aI,hf,ho,hv.rd.len',w1,w2,sr]
   refine aM (hd) (by rfl) ?_;simp only [↓pre,simprocAttr,aA,sx,rW,aE,aC,aI,hf,ho,hv.rd.len',w1,w2,hl,sr]
   rw [b9]
   refine cA (fun q e m=>∃ i,q+i=N∧e 1 = .tptr 0 [aD k,aD r,aD c,aD w,v]∧e 27=v∧e 28=aD ((k+r)*w*2)∧e 29=aD (i:Nat)∧aB (∀ j b,j < i→L[j]? = some b→eS k r c b.length=true)) N ⟨0,by omega,rfl,rfl,rfl,rfl,⟨fun j b h=>by omega⟩⟩ ?_
   rintro q e m ⟨i,hq,e1,e27,e28,e29,hJ⟩
   replace hq:=aB.mk hq
   by_cases hlt:i < N
   ·have hlt':((i:Nat):Int) < (k+r)*w*2:=by omega
    have wi:=cI (n:=i) (by omega)
    obtain ⟨b,hbi⟩:∃ b,L[i]? = some b:=⟨_,List.getElem?_eq_getElem (by omega)⟩
    obtain ⟨a,x,ha,hra⟩:=hv.at_ i b hbi
    have hil:i < L.length:=by omega
    have fa:=cM hra
    have oa:=b6 hra
    have step:eS k r c b.length=true→∀ j b',j < i+1→L[j]? = some b'→eS k r c b'.length=true:=fun h j b' hj hb'=>by
     by_cases hji:j=i
     ·subst hji
      rw [hbi] at hb'
      cases hb'
      exact h
     ·exact hJ.out j b' (by omega) hb'
    replace step:=aB.mk step
    by_cases h1:(b.length:Int)=0
    ·simp only [↓pre,simprocAttr,aA,sx,rW,aE,aC,aI,hf,ho,hv.rd.len',w1,w2,e1,e27,e28,e29,hlt',hv.rd.addr',hil,ha,oa,hra.len',h1,wi,sr]
     exact ⟨q - 1,by have:=hq.out;omega,i+1,by have:=hq.out;omega,rfl,⟨step.out (by rw [hln,decide_eq_true h1];rfl)⟩⟩
    ·by_cases h2:(b.length:Int)=d7 k r c
     ·have hz:¬ d7 k r c=0:=fun h=>h1 (h2.trans h)
      simp only [↓pre,simprocAttr,aA,sx,rW,aE,aC,aI,hf,ho,hv.rd.len',w1,w2,e1,e27,e28,e29,hlt',hv.rd.addr',hil,ha,oa,hra.len',h2,hz,sr]
      refine aM (hs) (by rfl) ?_;simp only [↓pre,simprocAttr,aA,sx,rW,aE,aC,aI,hf,ho,hv.rd.len',w1,w2,e1,e27,e28,e29,wi,sr]
      exact ⟨q - 1,by have:=hq.out;omega,i+1,by have:=hq.out;omega,rfl,⟨step.out (by rw [hln,decide_eq_true h2,Bool.or_true])⟩⟩
     ·have hE:=hno.out b (List.mem_of_getElem? hbi) (by rw [hln,decide_eq_false h1,decide_eq_false h2];rfl)
      subst hE
      simp only [↓pre,simprocAttr,aA,sx,rW,aE,aC,aI,hf,ho,hv.rd.len',w1,w2,e1,e27,e28,e29,hlt',hv.rd.addr',hil,ha,oa,hra.len',h1,h2,sr]
      refine aM (hs) (by rfl) ?_;simp only [↓pre,simprocAttr,aA,sx,rW,aE,aC,aI,hf,ho,hv.rd.len',w1,w2,e1,e27,e28,e29,h2,sr]
   ·have hlt':¬ ((i:Nat):Int) < (k+r)*w*2:=by omega
    have hE:=hyes.out fun b hb=>by
     obtain ⟨j,hj⟩:=List.getElem?_of_mem hb
     have:=(List.getElem?_eq_some_iff.1 hj).1
     exact hJ.out j b (by omega) hj
    subst hE
    simp only [↓pre,simprocAttr,aA,sx,rW,aE,aC,aI,hf,ho,hv.rd.len',w1,w2,e1,e27,e28,e29,hlt',sr]
  ·have hB:sQ k r c w L=false:=by unfold sQ;rw [decide_eq_false hl];rfl
   rw [hB,if_neg (by decide)]
   replace hmn:=aB.mk hmn
   replace hb:=aB.mk hb
   refine bE follows Tryz.func124 (by unfold Tryz.f124;rfl) (by unfold Tryz.f124;simp) aE (by unfold Tryz.f124;simp) (by kernel_rfl) ?_;unfold Tryz.f124
   simp only [↓pre,simprocAttr,aA,sx,rW,aE,aC,aI,hf,ho,hv.rd.len',w1,w2,sr]
   refine aM (hd) (by rfl) ?_;simp only [↓pre,simprocAttr,aA,sx,rW,aE,aC,aI,hf,ho,hv.rd.len',w1,w2,hl,sr]
theorem anI (v:AV) (b:List UInt8) (x:List AV) (hv:bC v b.length (aT b++x)) (hb:b.length≤65536):aX Tryz.prog 153 [v] ⟨if b.length=0 then aO else .tree b.length b.length (aT b) true,[]⟩:=by
 refine eA ?_
 have hp:=hv.plain
 by_cases h0:b.length=0
 ·rw [if_pos h0]
  have h0':(b.length:Int)=0:=by omega
  refine bZ follows Tryz.func153 (by unfold Tryz.f153;rfl) (by unfold Tryz.f153;simp) aE (by unfold Tryz.f153;simp) (by kernel_rfl) ?_;unfold Tryz.f153
  simp only [↓pre,simprocAttr,aA,sx,alk,aE,aC,aL,hv.len',lX,h0',sr]
  exact ⟨0,fZ⟩
 ·rw [if_neg h0]
  have h0':¬ (b.length:Int)=0:=by omega
  have hmk:=fun m=>sH m (n:=b.length) hb
  have hsrc:∀ m,eZ Tryz.prog 5 1 m v=some (aT b,b.length):=fun m=>by
   rcases hv.form with ⟨_,h⟩ | ⟨_,_,_,h⟩ | ⟨c,f,rfl,hle⟩
   ·exact absurd h h0
   ·exact absurd h h0
   ·rw [uD (by rw [List.length_append,iO];omega),Nat.mul_one,List.take_left' (iO b)]
  have hcp:∀ m:aF,sZ Tryz.prog 5 (m.push ⟨bA b.length fun _=>0,5,.flat,true⟩) (.sl m.next 0 b.length b.length true) v=some ⟨aD (b.length:Nat),m.push ⟨aT b,5,.flat,true⟩,none⟩:=fun m=>by
   have h2:cH Tryz.prog 5=some 1:=by kernel_rfl
   have h4:bW Tryz.prog 5 = .flat:=by kernel_rfl
   have hb:(m.push ⟨bA b.length fun _=>0,5,.flat,true⟩).at_ m.next=some ⟨bA b.length fun _=>0,5,.flat,true⟩:=by rw [aH,if_pos rfl]
   simp only [sZ,h2,hsrc,hb,Option.bind_some,h4]
   rw [if_pos ⟨trivial,trivial,by rw [fC];omega⟩,ag7 rfl,Nat.min_self,Nat.mul_one,List.take_of_length_le (by rw [iO];omega)]
   congr 4
   unfold cN
   rw [iO,List.take_zero,List.nil_append,Nat.zero_add,List.drop_eq_nil_of_le (by rw [fC];omega),List.append_nil]
  refine bZ follows Tryz.func153 (by unfold Tryz.f153;rfl) (by unfold Tryz.f153;simp) aE (by unfold Tryz.f153;simp) (by kernel_rfl) ?_;unfold Tryz.f153
  simp only [↓pre,simprocAttr,aA,sx,alk,aE,aC,aL,hv.len',lX,h0',hmk,hcp,sr]
  exact ⟨0,by rw [rU (by rw [aH,if_pos rfl]),List.drop_zero]⟩
theorem abE (b:List UInt8):bC (if b.length=0 then aO else .tree b.length b.length (aT b) true) b.length (aT b++[]):=by
 rw [List.append_nil]
 split
 ·rename_i h;exact ⟨.inl ⟨rfl,h⟩⟩
 ·exact ⟨.inr (.inr ⟨_,_,rfl,Nat.le_refl _⟩)⟩
theorem aad {v:AV} {n:Nat} {cs:List AV} (h:bC v n cs):iS v=false:=by
 rcases h.form with ⟨rfl,_⟩ | ⟨_,_,rfl,_⟩ | ⟨_,_,rfl,_⟩ <;> rfl
theorem aux {P:Program} {t:TypeId} {v:AV} {n sz i j:Nat} {cs:List AV} (h:bC v n cs) (h1:(cD P t).bind (cH P)=some sz) (hi:i < j) (hj:j≤n):∃ v',kI P t (some i) (some j) (some j) v=some v'∧bC v' (j - i) (cs.drop (i*sz)):=by
 obtain ⟨el,hel,hsz⟩:=awC h1
 rcases h.form with ⟨rfl,h0⟩ | ⟨_,_,rfl,h0⟩ | ⟨c,f,rfl,hc⟩
 ·omega
 ·omega
 ·refine ⟨.tree (j - i) (j - i) (cs.drop (i*sz)) true, ?_,⟨.inr (.inr ⟨_,true,rfl,Nat.le_refl _⟩)⟩⟩
  simp only [kI,hel,hsz,cutE,Option.isSome_some,Option.isNone_some,Bool.and_false,Bool.false_eq_true,if_false,Option.bind_some,Option.getD_some,Option.getD_none]
  rw [if_pos (by omega),if_neg (by omega)]
  simp
def sR (L:List (List UInt8)) (W row:Nat) (n:Nat):List bX:=(List.range n).map fun i=>(L.getD ((i*W+row)*2) [],L.getD ((i*W+row)*2+1) [])
theorem acX (L:List (List UInt8)) (W row n:Nat):(sR L W row n).length=n:=by simp [sR]
theorem auy {L:List (List UInt8)} {W row n i:Nat} (h:i < n):(sR L W row n)[i]? = some (L.getD ((i*W+row)*2) [],L.getD ((i*W+row)*2+1) []):=by
 unfold sR
 rw [List.getElem?_map,List.getElem?_range h]
 rfl
theorem auz (L:List (List UInt8)) (W row n:Nat):sR L W row (n+1)=sR L W row n++[(L.getD ((n*W+row)*2) [],L.getD ((n*W+row)*2+1) [])]:=by
 unfold sR
 rw [List.range_succ,List.map_append]
 rfl
def uY (b:List UInt8):AV:=if b.length=0 then aO else .tree b.length b.length (aT b) true
def mT (ps:List bX):List AV:=ps.flatMap fun p=>[uY p.1,uY p.2]
theorem auA (ps:List bX) (p:bX):mT (ps++[p])=mT ps++[uY p.1,uY p.2]:=by simp [mT]
theorem auB (ps:List bX):(mT ps).length=ps.length*2:=by
 induction ps with
 | nil=>rfl
 | cons p ps ih =>
  simp only [mT,List.flatMap_cons,List.length_append,List.length_cons,List.length_nil] at ih ⊢
  omega
theorem auC {ps:List bX} {i:Nat} {p:bX} (h:ps[i]? = some p):(mT ps)[i*2]? = some (uY p.1)∧(mT ps)[i*2+1]? = some (uY p.2):=by
 induction ps generalizing i with
 | nil=>simp at h
 | cons q ps ih =>
  unfold mT
  rw [List.flatMap_cons]
  cases i with
  | zero=>simp at h;subst h;exact ⟨rfl,rfl⟩
  | succ i =>
   have:=ih (i:=i) (by simpa using h)
   rw [show (i+1)*2=i*2+1+1 by omega]
   exact this
theorem auD (ps:List bX):fR (bJ ps.length (mT ps)) ps (mT ps):=by
 refine ⟨dX _ _,fun i p hp => ?_⟩
 obtain ⟨h1,h2⟩:=auC hp
 exact ⟨_,_,[],[],h1,h2,abE _,abE _⟩
theorem auE (ps:List bX):∀ c∈mT ps,fE c:=by
 intro c hc
 obtain ⟨p,_,h⟩:=List.mem_flatMap.1 hc
 simp only [List.mem_cons,List.not_mem_nil,or_false] at h
 rcases h with rfl | rfl
 ·exact kD (abE _)
 ·exact kD (abE _)
def iM (k r c w:Int) (L:List (List UInt8)) (row:Int):Int:=if kH k r c w L=0 then (if row < 0∨w≤row then 2 else 0) else kH k r c w L
def eW (k r w:Int) (L:List (List UInt8)) (row:Int):List bX:=sR L w.toNat row.toNat (k+r).toNat
def aeX (k r c w:Int) (L:List (List UInt8)) (row:Int):AV:=if iM k r c w L row=0 then .tup [bJ (k+r).toNat (mT (eW k r w L row)),aD 0] else .tup [aO,aD (iM k r c w L row)]
theorem ahq {k r c w:Int} {L:List (List UInt8)} (h:kH k r c w L=0):bU k r c w=true∧(L.length:Int)=(k+r)*w*2∧∀ b∈L,eS k r c b.length=true:=by
 unfold kH at h
 split at h
 ·rename_i h1
  split at h
  ·rename_i h2
   unfold sQ at h2
   rw [Bool.and_eq_true,List.all_eq_true] at h2
   exact ⟨h1,of_decide_eq_true h2.1,h2.2⟩
  ·omega
 ·omega
theorem anJ {k r c w:Int} (hm:bU k r c w=true) {n:Nat} (h:eS k r c n=true):n≤140:=by
 have:=jN.1 hm
 unfold eS d7 at h
 rw [Bool.or_eq_true,decide_eq_true_eq,decide_eq_true_eq] at h
 omega
theorem anK {k r w:Int} {row W N i:Nat} (hw:w=(W:Int)) (hN:k+r=(N:Int)) (hr:row < W) (hi:i < N) {n:Nat} (hl:(n:Int)=(k+r)*w*2):(i*W+row)*2+2≤n:=by
 have h1:(i+1)*W≤N*W:=Nat.mul_le_mul_right _ hi
 rw [Nat.add_mul,Nat.one_mul] at h1
 have h2:(n:Int)=((N*W*2:Nat):Int):=by rw [hl,hw,hN];simp
 omega
theorem anL (k r c w row:Int) (v:AV) (L:List (List UInt8)) (cells:List AV) (hv:gI v L cells):aX Tryz.prog 83 [d5 k r c w v,aD row] ⟨aeX k r c w L row,[]⟩:=by
 refine eA ?_
 have hp:=hv.rd.plain
 have hf:=cM hv.rd
 have ho:=b6 hv.rd
 have hck:=anH k r c w v L cells hv
 unfold aeX iM
 unfold d5 at hck ⊢
 by_cases hE:kH k r c w L=0
 ·rw [if_pos hE]
  rw [hE] at hck
  obtain ⟨hm,hl,hlen⟩:=ahq hE
  by_cases hrow:row < 0∨w≤row
  ·rw [if_pos hrow,if_neg (by decide)]
   have hz:=fun m=>iI (b8 (.slice none 0 0)) (b8 (.int .i64 2)) 1 m
   replace hz:=aB.mk hz
   replace hE:=aB.mk hE
   by_cases h1:row < 0
   ·refine bZ follows Tryz.func83 (by unfold Tryz.f83;rfl) (by unfold Tryz.f83;simp) aE (by unfold Tryz.f83;simp) (by kernel_rfl) ?_;unfold Tryz.f83
    simp only [↓pre,simprocAttr,aA,sx,qR,aE,aC,aI,aL,hf,ho,sr]
    refine aM (hck) (by simp only [aA,aV, *]) ?_;simp only [↓pre,simprocAttr,aA,sx,qR,aE,aC,aI,aL,hf,ho,h1,sr]
    exact ⟨1,hz.out _⟩
   ·have h2:w≤row:=by omega
    refine bZ follows Tryz.func83 (by unfold Tryz.f83;rfl) (by unfold Tryz.f83;simp) aE (by unfold Tryz.f83;simp) (by kernel_rfl) ?_;unfold Tryz.f83
    simp only [↓pre,simprocAttr,aA,sx,qR,aE,aC,aI,aL,hf,ho,sr]
    refine aM (hck) (by simp only [aA,aV, *]) ?_;simp only [↓pre,simprocAttr,aA,sx,qR,aE,aC,aI,aL,hf,ho,h1,h2,sr]
    exact ⟨1,hz.out _⟩
  ·rw [if_neg hrow,if_pos rfl]
   have hmn:=g7 hm
   have hml:=jN.1 hm
   have h1:¬ row < 0:=by omega
   have h2:¬ w≤row:=by omega
   obtain ⟨N,hN⟩:∃ N:Nat,k+r=(N:Int):=⟨(k+r).toNat,by omega⟩
   obtain ⟨W,hW⟩:∃ W:Nat,w=(W:Int):=⟨w.toNat,by omega⟩
   obtain ⟨ro,hro⟩:∃ ro:Nat,row=(ro:Int):=⟨row.toNat,by omega⟩
   have hidx:=fun i (hi:i < N)=>anK hW hN (row:=ro) (by omega) hi hl
   have hps:=auz L W ro
   have hpl:=acX L W ro
   unfold eW
   rw [show (k+r).toNat=N by omega,show w.toNat=W by omega,show row.toNat=ro by omega]
   have wN:IntKind.i64.wrap (k+r)=(N:Int):=by rw [hN];exact dT (by omega)
   have hWW:∀ i:Nat,i < N→i*W≤4096:=fun i hi=>by
    have:i*W≤16*256:=Nat.mul_le_mul (by omega) (by omega)
    omega
   generalize sR L W ro=RP at *
   have hR0:mT (RP 0)=[]:=List.eq_nil_of_length_eq_zero (by rw [auB,hpl])
   replace hmn:=aB.mk hmn
   replace hml:=aB.mk hml
   replace hidx:=aB.mk hidx
   replace hps:=aB.mk hps
   replace hpl:=aB.mk hpl
   replace hE:=aB.mk hE
   replace hl:=aB.mk hl
   replace hN:=aB.mk hN
   replace hlen:=aB.mk hlen
   replace hWW:=aB.mk hWW
   replace hR0:=aB.mk hR0
   replace hrow:=aB.mk hrow
   refine bZ follows Tryz.func83 (by unfold Tryz.f83;rfl) (by unfold Tryz.f83;simp) aE (by unfold Tryz.f83;simp) (by kernel_rfl) ?_;unfold Tryz.f83
   simp only [↓pre,simprocAttr,aA,sx,qR,aE,aC,aI,aL,hf,ho,sr]
   refine aM (hck) (by simp only [aA,aV, *]) ?_;simp only [↓pre,simprocAttr,aA,sx,qR,aE,aC,aI,aL,hf,ho,h1,h2,wN,sr]
   rw [b9]
   refine cA (fun q e m=>∃ i lv,q+i=N∧e 1=aD row∧e 2 = .tptr 0 [aD k,aD r,aD c,aD w,v]∧e 7=lv∧e 31=aD (N:Nat)∧e 32=aD (i:Nat)∧aB (cO .var m 131 2 lv i (mT (RP i)))) N ⟨0,_,by omega,rfl,rfl,rfl,rfl,rfl,⟨by rw [hR0.out];exact fB⟩⟩ ?_
   rintro q e m ⟨i,lv,hq,e1,e2,e7,e31,e32,hJ⟩
   replace hq:=aB.mk hq
   by_cases hlt:i < N
   ·have hlt':((i:Nat):Int) < ((N:Nat):Int):=by omega
    have wi:=cI (n:=i) (by have:=hmn.out;have:=hN.out;omega)
    have hix:=hidx.out i hlt
    have hw4:=hWW.out i hlt
    have hro4:ro≤256:=by have:=hml.out;have:=hrow.out;omega
    have w1:IntKind.i64.wrap ((i:Int)*w)=((i*W:Nat):Int):=by rw [hW,show (i:Int)*(W:Int)=((i*W:Nat):Int) by simp];exact dT (by omega)
    have w2:IntKind.i64.wrap (((i*W:Nat):Int)+row)=((i*W+ro:Nat):Int):=by rw [hro,show ((i*W:Nat):Int)+(ro:Int)=((i*W+ro:Nat):Int) by simp];exact dT (by omega)
    have w3:IntKind.i64.wrap (((i*W+ro:Nat):Int)*2)=(((i*W+ro)*2:Nat):Int):=by rw [show ((i*W+ro:Nat):Int)*2=(((i*W+ro)*2:Nat):Int) by simp];exact dT (by omega)
    have w4:IntKind.i64.wrap ((((i*W+ro)*2:Nat):Int)+2)=(((i*W+ro)*2+2:Nat):Int):=by rw [show ((((i*W+ro)*2:Nat):Int)+2)=(((i*W+ro)*2+2:Nat):Int) by simp];exact dT (by omega)
    have hps:=hps.out i
    generalize hat:(i*W+ro)*2=at_ at *
    have n1:iA (.val (.int .i64 (at_:Nat)))=some at_:=ace
    have n2:iA (.val (.int .i64 ((at_+2:Nat):Int)))=some (at_+2):=ace
    obtain ⟨u,su,ru⟩:=aux (P:=Tryz.prog) (t:=45) (sz:=1) hv.rd (by kernel_rfl) (i:=at_) (j:=at_+2) (by omega) (by omega)
    rw [show at_+2 - at_=2 by omega,Nat.mul_one] at ru
    have hb0:L[at_]? = some (L.getD at_ []):=by rw [List.getD_eq_getElem?_getD,List.getElem?_eq_getElem (by omega)];rfl
    have hb1:L[at_+1]? = some (L.getD (at_+1) []):=by rw [List.getD_eq_getElem?_getD,List.getElem?_eq_getElem (by omega)];rfl
    have hm0:=anJ hm (hlen.out _ (List.mem_of_getElem? hb0))
    have hm1:=anJ hm (hlen.out _ (List.mem_of_getElem? hb1))
    obtain ⟨a0,x0,ha0,ra0⟩:=hv.at_ _ _ hb0
    obtain ⟨a1,x1,ha1,ra1⟩:=hv.at_ _ _ hb1
    have hc0:(cells.drop at_)[0]? = some a0:=by rw [List.getElem?_drop];exact ha0
    have hc1:(cells.drop at_)[1]? = some a1:=by rw [List.getElem?_drop];exact ha1
    have t0:=anI a0 _ x0 ra0 (by omega)
    have t1:=anI a1 _ x1 ra1 (by omega)
    have r0:=abE (L.getD at_ [])
    have r1:=abE (L.getD (at_+1) [])
    rw [←show uY (L.getD at_ [])=(if (L.getD at_ []).length=0 then aO else .tree (L.getD at_ []).length (L.getD at_ []).length (aT (L.getD at_ [])) true) from rfl] at t0 r0
    rw [←show uY (L.getD (at_+1) [])=(if (L.getD (at_+1) []).length=0 then aO else .tree (L.getD (at_+1) []).length (L.getD (at_+1) []).length (aT (L.getD (at_+1) [])) true) from rfl] at t1 r1
    have hpp:=auA (RP i) (L.getD at_ [],L.getD (at_+1) [])
    rw [←hps] at hpp
    simp only at hpp
    generalize uY (L.getD at_ [])=T0 at *
    generalize uY (L.getD (at_+1) [])=T1 at *
    have pu:=ru.plain
    have pa0:=ra0.plain
    have pa1:=ra1.plain
    have oa0:=b6 ra0
    have oa1:=b6 ra1
    have o0:=b6 r0
    have o1:=b6 r1
    have k0:=uX r0
    have k1:=uX r1
    have c0:=uW r0
    have c1:=uW r1
    have s0:=cQ r0
    have s1:=cQ r1
    have hbt:∀ m,eY Tryz.prog m 24 1 [(0,.agg [T0,T1])]=some ⟨.tree 1 1 [T0,T1] true,m,none⟩:=fun m=>tI (el:=131) (sz:=2) (z:=[.val (.slice none 0 0),.val (.slice none 0 0)]) (by kernel_rfl) (by kernel_rfl) (by kernel_rfl) rfl (by simp [jG,aad r0,aad r1]) (by decide)
    have hso:=fun m=>hv.rd.slOk (P:=Tryz.prog) (m:=m) (t:=45)
    replace hps:=aB.mk hps
    replace hpp:=aB.mk hpp
    replace hat:=aB.mk hat
    replace hix:=aB.mk hix
    simp only [↓pre,simprocAttr,aA,sx,qR,aE,aC,aI,aL,hf,ho,e1,e2,e7,e31,e32,hlt',w1,w2,w3,w4,hso,bH,Option.map_some,Option.map_none,n1,n2,su,hv.rd.sliceX,ru.addr',hc0,hc1,oa0,oa1,↓k0,↓k1,↓c0,↓c1,s0,s1,o0,o1,hbt,Nat.zero_mul,Nat.one_mul,sr]
    (refine cE (t0) (by simp only [aA,aV, *]) (by intro k;simp only [sq,sr, *]) ?_);simp only [↓pre,simprocAttr,aA,sx,qR,aE,aC,aI,aL,hf,ho,e1,e2,e7,e31,e32,hlt',w1,w2,w3,w4,hso,bH,Option.map_some,Option.map_none,n1,n2,su,hv.rd.sliceX,ru.addr',hc0,hc1,oa0,oa1,↓k0,↓k1,↓c0,↓c1,s0,s1,o0,o1,hbt,Nat.zero_mul,Nat.one_mul,sr];(refine cE (t1) (by simp only [aA,aV, *]) (by intro k;simp only [sq,sr, *]) ?_);simp only [↓pre,simprocAttr,aA,sx,qR,aE,aC,aI,aL,hf,ho,e1,e2,e7,e31,e32,hlt',w1,w2,w3,w4,hso,bH,Option.map_some,Option.map_none,n1,n2,su,hv.rd.sliceX,ru.addr',hc0,hc1,oa0,oa1,↓k0,↓k1,↓c0,↓c1,s0,s1,o0,o1,hbt,Nat.zero_mul,Nat.one_mul,sr]
    refine oT (sz:=2) (y:=48) (zl:=[.slice none 0 0,.slice none 0 0]) (by kernel_rfl) hJ.out (by kernel_rfl) (by kernel_rfl) (by kernel_rfl) rfl acg rfl (by have:=hmn.out;have:=hN.out;omega) (by have:=hmn.out;have:=hN.out;omega) ?_
    intro lv' m' ho' hn'
    refine dJ (by kernel_rfl) ?_
    simp only [↓pre,simprocAttr,aA,sx,qR,aE,aC,aI,aL,hf,ho,e1,e2,e31,e32,wi,sr]
    refine ⟨q - 1,by have:=hq.out;omega,i+1,lv',by have:=hq.out;omega,rfl,rfl,⟨?_⟩⟩
    rw [hpp.out]
    exact ho'
   ·have hlt':¬ ((i:Nat):Int) < ((N:Nat):Int):=by omega
    have hi:i=N:=by have:=hq.out;omega
    subst hi
    have hfin:=fun k=>aeG hJ.out (auE _) k
    replace hfin:=aB.mk hfin
    simp only [↓pre,simprocAttr,aA,sx,qR,aE,aC,aI,aL,hf,ho,e1,e2,e7,e31,e32,hlt',sr]
    exact ⟨1,by rw [j6,dY,hfin.out,Option.bind_some,dY,fZ,i7];rfl⟩
 ·rw [if_neg hE,if_neg hE]
  have hz:=fun m=>iI (b8 (.slice none 0 0)) (b8 (.int .i64 (kH k r c w L))) 1 m
  replace hz:=aB.mk hz
  refine bZ follows Tryz.func83 (by unfold Tryz.f83;rfl) (by unfold Tryz.f83;simp) aE (by unfold Tryz.f83;simp) (by kernel_rfl) ?_;unfold Tryz.f83
  simp only [↓pre,simprocAttr,aA,sx,qR,aE,aC,aI,aL,hf,ho,sr]
  refine aM (hck) (by simp only [aA,aV, *]) ?_;simp only [↓pre,simprocAttr,aA,sx,qR,aE,aC,aI,aL,hf,ho,hE,sr]
  exact ⟨1,hz.out _⟩
theorem anM (k r c w:Int) (L:List (List UInt8)) (row:Int) (hk:0≤k+r):fR (bJ (k+r).toNat (mT (eW k r w L row))) (eW k r w L row) (mT (eW k r w L row)):=by
 have:=auD (eW k r w L row)
 unfold eW at this ⊢
 rw [acX] at this
 exact this
theorem yB {k r c w:Int} {L:List (List UInt8)} {row:Int} (h:iM k r c w L row=0):dS k r c (eW k r w L row)=true∧bU k r c w=true:=by
 unfold iM at h
 split at h
 ·rename_i hE
  obtain ⟨hm,hl,hlen⟩:=ahq hE
  have hmn:=g7 hm
  refine ⟨?_,hm⟩
  unfold dS eW
  rw [Bool.and_eq_true]
  refine ⟨decide_eq_true (by rw [acX];omega),List.all_eq_true.2 fun p hp => ?_⟩
  unfold sR at hp
  obtain ⟨i,_,rfl⟩:=List.mem_map.1 hp
  have:∀ j,eS k r c (L.getD j []).length=true:=fun j=>by
   rw [List.getD_eq_getElem?_getD]
   cases hq:L[j]? with
   | none=>rfl
   | some b=>exact hlen b (List.mem_of_getElem? hq)
  unfold jR
  rw [this,this]
  rfl
 ·contradiction
def pB (k c:Int) (l:List bP):List UInt8:=pA (dO l) (wI k c).toNat
def ahr (k c w:Int) (l:List bP):AV:=if jW w l=true then .tup [.tree (wI k c).toNat (wI k c).toNat (aT (pB k c l)) true,aD 0] else .tup [aO,aD 150]
def abF:Nat→Bool:=fun d=>d != 31 && d != 32
theorem auF (k r c w:Int) (hm:bU k r c w=true) (v:AV) (l:List bP) (hv:sO v l) (hl1:1≤l.length) (hl2:(l.length:Int)≤lI k c):aX Tryz.prog 274 [aA k r c w,v] ⟨ahr k c w l,[]⟩:=by
 refine eA ?_
 have hL:=agy k r c w
 simp only [hm,if_true] at hL
 have hw:=gZ hm
 have hml:=jN.1 hm
 have hlb:=tN hw.1 hw.2
 have hl128:l.length≤128:=by unfold lI at hl2;omega
 have h1:=ank k r c w v l hv (by omega)
 obtain ⟨x,hr⟩:=hv
 have hp:=hr.plain
 have g1:¬ ((l.length:Nat):Int) < 1:=by omega
 have g2:¬ lI k c < ((l.length:Nat):Int):=by omega
 unfold ahr
 by_cases hok:jW w l=true
 ·rw [if_pos hok]
  rw [hok] at h1
  have hlr:∀ x∈l,(0≤x.1∧x.1≤1073741824)∧0≤x.2∧x.2≤1073741824:=fun y hy=>by
   have:=List.all_eq_true.1 hok y hy
   unfold jV at this
   have:=of_decide_eq_true this
   omega
  have ho0:cY aF.empty 5 1 aO ([]:List AV).length []:=fB
  have t4:=anj aF.empty aO [] v l ⟨x,hr⟩ ho0 hlr (by omega) (by simp)
  have o4:=ahj l _ _ _ ho0
  rw [List.nil_append,List.length_nil,Nat.zero_add] at o4
  have t5:=anm k r c w hm _ _ _ o4 (by rw [qY];unfold wI;unfold lI at hl2;omega)
  generalize qH aF.empty aO [] l=G4 at *
  replace hlr:=aB.mk hlr
  replace o4:=aB.mk o4
  replace hml:=aB.mk hml
  replace hlb:=aB.mk hlb
  simp only [aD,aO] at t4 t5
  refine bZ follows Tryz.func274 (by unfold Tryz.f274;rfl) (by unfold Tryz.f274;simp) abF (by unfold Tryz.f274;simp) (by kernel_rfl) ?_;unfold Tryz.f274
  simp only [↓pre,simprocAttr,aA,sx,xS,abF,bne,aC,hr.len',g1,g2,sr]
  refine aM (hL) (by rfl) ?_;simp only [↓pre,simprocAttr,aA,sx,xS,abF,bne,aC,hr.len',g1,g2,sr];refine aM (h1) (by simp only [aA,aV, *]) ?_;simp only [↓pre,simprocAttr,aA,sx,xS,abF,bne,aC,hr.len',g1,g2,sr]
  refine pY t4 ?_
  refine dJ (by kernel_rfl) ?_
  simp only [↓pre,simprocAttr,aA,sx,xS,abF,bne,aC,hr.len',g1,g2,sr]
  refine pY t5 ?_
  refine dJ (by kernel_rfl) ?_
  simp only [↓pre,simprocAttr,aA,sx,xS,abF,bne,aC,hr.len',g1,g2,sr]
  refine ⟨0, ?_⟩
  rw [j6,dY,rU (by rw [aH,if_pos rfl]),Option.bind_some,dY,fZ,i7,List.drop_zero]
  rfl
 ·rw [if_neg hok]
  rw [Bool.not_eq_true] at hok
  rw [hok] at h1
  have hf:=fun m=>iI (b8 (.slice none 0 0)) (b8 (.int .i64 150)) 1 m
  replace hf:=aB.mk hf
  refine bZ follows Tryz.func274 (by unfold Tryz.f274;rfl) (by unfold Tryz.f274;simp) aE (by unfold Tryz.f274;simp) (by kernel_rfl) ?_;unfold Tryz.f274
  simp only [↓pre,simprocAttr,aA,sx,xS,aE,aC,hr.len',g1,g2,sr]
  refine aM (hL) (by rfl) ?_;simp only [↓pre,simprocAttr,aA,sx,xS,aE,aC,hr.len',g1,g2,sr];refine aM (h1) (by simp only [aA,aV, *]) ?_;simp only [↓pre,simprocAttr,aA,sx,xS,aE,aC,hr.len',g1,g2,sr]
  exact ⟨1,hf.out _⟩
def rE (k c w:Int) (bs:List UInt8) (n:Int):Int:=if n < 1∨lI k c < n then 20 else if jW w (dP bs n.toNat)=true∧pB k c (dP bs n.toNat)=bs then 0 else 150
def abG (k c w:Int) (bs:List UInt8) (n:Int):AV:=if rE k c w bs n=0 then .tup [bJ n.toNat (bI (dP bs n.toNat)),aD 0] else .tup [aO,aD (rE k c w bs n)]
theorem auG (k r c w:Int) (hm:bU k r c w=true) (v:AV) (bs:List UInt8) (x:List AV) (hv:bC v bs.length (aT bs++x)) (hl:(bs.length:Int)=wI k c) (n:Int):aX Tryz.prog 217 [aA k r c w,v,aD n] ⟨abG k c w bs n,[]⟩:=by
 refine eA ?_
 have hL:=agy k r c w
 have hz:=anx k r c w v bs.length _ hv
 simp only [hm,if_true,hl] at hL hz
 have hw:=gZ hm
 have hlb:=tN hw.1 hw.2
 have hp:=hv.plain
 unfold abG rE
 by_cases hn:n < 1∨lI k c < n
 ·rw [if_pos hn,if_neg (by decide)]
  have hf:=fun m=>iI (b8 (.slice none 0 0)) (b8 (.int .i64 20)) 1 m
  replace hf:=aB.mk hf
  replace hlb:=aB.mk hlb
  by_cases h1:n < 1
  ·refine bZ follows Tryz.func217 (by unfold Tryz.f217;rfl) (by unfold Tryz.f217;simp) aE (by unfold Tryz.f217;simp) (by kernel_rfl) ?_;unfold Tryz.f217
   simp only [↓pre,simprocAttr,aA,sx,j7,aE,aC,sr]
   refine aM (hz) (by simp only [aA,aV, *]) ?_;simp only [↓pre,simprocAttr,aA,sx,j7,aE,aC,h1,sr];refine aM (hL) (by rfl) ?_;simp only [↓pre,simprocAttr,aA,sx,j7,aE,aC,h1,sr]
   exact ⟨1,hf.out _⟩
  ·have h2:lI k c < n:=by omega
   refine bZ follows Tryz.func217 (by unfold Tryz.f217;rfl) (by unfold Tryz.f217;simp) aE (by unfold Tryz.f217;simp) (by kernel_rfl) ?_;unfold Tryz.f217
   simp only [↓pre,simprocAttr,aA,sx,j7,aE,aC,sr]
   refine aM (hz) (by simp only [aA,aV, *]) ?_;simp only [↓pre,simprocAttr,aA,sx,j7,aE,aC,h1,h2,sr];refine aM (hL) (by rfl) ?_;simp only [↓pre,simprocAttr,aA,sx,j7,aE,aC,h1,h2,sr]
   exact ⟨1,hf.out _⟩
 ·rw [if_neg hn]
  have h1:¬ n < 1:=by omega
  have h2:¬ lI k c < n:=by omega
  obtain ⟨N,hN⟩:∃ N:Nat,n=(N:Int):=⟨n.toNat,by omega⟩
  subst hN
  rw [Int.toNat_natCast]
  have h6:6*N≤bs.length:=by unfold wI at hl;unfold lI at h2;omega
  have c4:=auj v bs x N hv h6 (by unfold wI at hl;omega)
  have hpl:(dP bs N).length=N:=abB _ _
  have hrd:=dX N (bI (dP bs N))
  have c5:=auF k r c w hm (bJ N (bI (dP bs N))) (dP bs N) ⟨[],by rw [List.append_nil,hpl];exact hrd⟩ (by omega) (by rw [hpl];omega)
  have hll:(pB k c (dP bs N)).length=(wI k c).toNat:=by
   unfold pB
   refine aeS ?_
   rw [qY,hpl]
   omega
  have c6:=anA (.tree (wI k c).toNat (wI k c).toNat (aT (pB k c (dP bs N))) true) v (pB k c (dP bs N)) bs [] x ⟨.inr (.inr ⟨_,true,by rw [hll,List.append_nil],by rw [hll];exact Nat.le_refl _⟩)⟩ hv
  have hfin:=fun m=>iI (kD hrd) (b8 (.int .i64 0)) 1 m
  have hf:=fun m=>iI (b8 (.slice none 0 0)) (b8 (.int .i64 150)) 1 m
  unfold ahr at c5
  have pt:=hrd.plain
  have st:=cQ hrd
  generalize bJ N (bI (dP bs N))=TR at *
  generalize pB k c (dP bs N)=LB at *
  replace hfin:=aB.mk hfin
  replace hf:=aB.mk hf
  replace hpl:=aB.mk hpl
  replace hrd:=aB.mk hrd
  replace hlb:=aB.mk hlb
  replace hn:=aB.mk hn
  by_cases hok:jW w (dP bs N)=true
  ·rw [if_pos hok] at c5
   by_cases heq:LB=bs
   ·rw [show (if jW w (dP bs N)=true∧LB=bs then (0:Int) else 150)=0 from if_pos ⟨hok,heq⟩,if_pos rfl]
    rw [decide_eq_true heq] at c6
    replace hok:=aB.mk hok
    replace heq:=aB.mk heq
    refine bZ follows Tryz.func217 (by unfold Tryz.f217;rfl) (by unfold Tryz.f217;simp) aE (by unfold Tryz.f217;simp) (by kernel_rfl) ?_;unfold Tryz.f217
    simp only [↓pre,simprocAttr,aA,sx,j7,aE,aC,sr]
    refine aM (hz) (by simp only [aA,aV, *]) ?_;simp only [↓pre,simprocAttr,aA,sx,j7,aE,aC,h1,h2,st,sr];refine aM (hL) (by rfl) ?_;simp only [↓pre,simprocAttr,aA,sx,j7,aE,aC,h1,h2,st,sr];refine aM (c4) (by simp only [aA,aV, *]) ?_;simp only [↓pre,simprocAttr,aA,sx,j7,aE,aC,h1,h2,st,sr];refine aM (c5) (by simp only [aA,aV, *]) ?_;simp only [↓pre,simprocAttr,aA,sx,j7,aE,aC,h1,h2,st,sr];refine aM (c6) (by simp only [aA,aV, *]) ?_;simp only [↓pre,simprocAttr,aA,sx,j7,aE,aC,h1,h2,st,sr]
    exact ⟨1,hfin.out _⟩
   ·rw [show (if jW w (dP bs N)=true∧LB=bs then (0:Int) else 150)=150 from if_neg (fun h=>heq h.2),if_neg (by decide)]
    rw [decide_eq_false heq] at c6
    replace hok:=aB.mk hok
    replace heq:=aB.mk heq
    refine bZ follows Tryz.func217 (by unfold Tryz.f217;rfl) (by unfold Tryz.f217;simp) aE (by unfold Tryz.f217;simp) (by kernel_rfl) ?_;unfold Tryz.f217
    simp only [↓pre,simprocAttr,aA,sx,j7,aE,aC,sr]
    refine aM (hz) (by simp only [aA,aV, *]) ?_;simp only [↓pre,simprocAttr,aA,sx,j7,aE,aC,h1,h2,st,sr];refine aM (hL) (by rfl) ?_;simp only [↓pre,simprocAttr,aA,sx,j7,aE,aC,h1,h2,st,sr];refine aM (c4) (by simp only [aA,aV, *]) ?_;simp only [↓pre,simprocAttr,aA,sx,j7,aE,aC,h1,h2,st,sr];refine aM (c5) (by simp only [aA,aV, *]) ?_;simp only [↓pre,simprocAttr,aA,sx,j7,aE,aC,h1,h2,st,sr];refine aM (c6) (by simp only [aA,aV, *]) ?_;simp only [↓pre,simprocAttr,aA,sx,j7,aE,aC,h1,h2,st,sr]
    exact ⟨1,hf.out _⟩
  ·rw [if_neg hok] at c5
   rw [show (if jW w (dP bs N)=true∧LB=bs then (0:Int) else 150)=150 from if_neg (fun h=>hok h.1),if_neg (by decide)]
   replace hok:=aB.mk hok
   simp only [aO] at c5
   refine bZ follows Tryz.func217 (by unfold Tryz.f217;rfl) (by unfold Tryz.f217;simp) aE (by unfold Tryz.f217;simp) (by kernel_rfl) ?_;unfold Tryz.f217
   simp only [↓pre,simprocAttr,aA,sx,j7,aE,aC,sr]
   refine aM (hz) (by simp only [aA,aV, *]) ?_;simp only [↓pre,simprocAttr,aA,sx,j7,aE,aC,h1,h2,st,sr];refine aM (hL) (by rfl) ?_;simp only [↓pre,simprocAttr,aA,sx,j7,aE,aC,h1,h2,st,sr];refine aM (c4) (by simp only [aA,aV, *]) ?_;simp only [↓pre,simprocAttr,aA,sx,j7,aE,aC,h1,h2,st,sr];refine aM (c5) (by simp only [aA,aV, *]) ?_;simp only [↓pre,simprocAttr,aA,sx,j7,aE,aC,h1,h2,st,sr]
   exact ⟨1,hf.out _⟩
theorem auH (l:List bP) (hl:l.length≤1000000):fA Tryz.prog 132 [bJ l.length (bI l)] aF.empty fun a m=>cY m 67 2 a l.length (bI l):=by
 by_cases h0:l.length=0
 ·have e:bJ l.length (bI l)=aO:=by unfold bJ;rw [if_pos h0]
  rw [e]
  refine bZ follows Tryz.func132 (by unfold Tryz.f132;rfl) (by unfold Tryz.f132;simp) aE (by unfold Tryz.f132;simp) (by kernel_rfl) ?_;unfold Tryz.f132
  have hn:∀ x y,dV Tryz.prog .eql 31 x y aO (.val (.slice none 0 0))=some (bB true):=fun x y=>by
   have:cD Tryz.prog 31=some 67:=by kernel_rfl
   rfl
  unfold aO at *
  simp only [↓pre,simprocAttr,aA,sx,ali,aE,aC,aL,hn,sr]
  rw [h0,List.eq_nil_of_length_eq_zero h0]
  exact fB
 ·have e:bJ l.length (bI l) = .tree l.length l.length (bI l) false:=by unfold bJ;rw [if_neg h0]
  rw [e]
  have hn:∀ x y,dV Tryz.prog .eql 31 x y (.tree l.length l.length (bI l) false) (.val (.slice none 0 0))=some (bB false):=fun x y=>by
   have:cD Tryz.prog 31=some 67:=by kernel_rfl
   simp [dV,this,rI,bB]
  have hbt:∀ m,eY Tryz.prog m 31 0 []=some ⟨.tree 0 0 [] true,m,none⟩:=fun m=>tI (el:=67) (sz:=2) (z:=[]) (by kernel_rfl) (by kernel_rfl) (by kernel_rfl) rfl rfl (by decide)
  have hap:∀ m,dW Tryz.prog 67 m (.tree 0 0 [] true) (.tree l.length l.length (bI l) false)=some ⟨.sl m.next 0 l.length l.length false,m.push ⟨bI l,67,.flat,true⟩,none⟩:=fun m=>by
   have h1:cH Tryz.prog 67=some 2:=by kernel_rfl
   have h2:hY Tryz.prog 67=some 16:=by kernel_rfl
   have h3:eX Tryz.prog 67=some [.int .i64 0,.int .i64 0]:=by kernel_rfl
   have h4:bW Tryz.prog 67 = .flat:=by kernel_rfl
   have h5:=uD (P:=Tryz.prog) (m:=m) (el:=67) (sz:=2) (n:=l.length) (c:=l.length) (cs:=bI l) (f:=false) (by rw [lW];omega)
   rw [List.take_of_length_le (by rw [lW];omega)] at h5
   simp only [dW,h1,h2,h3,h4,h5,dR,Option.bind_some]
   rw [if_pos ⟨by omega,by omega,rfl⟩]
   simp [h0,bO]
  replace e:=aB.mk e
  refine bZ follows Tryz.func132 (by unfold Tryz.f132;rfl) (by unfold Tryz.f132;simp) aE (by unfold Tryz.f132;simp) (by kernel_rfl) ?_;unfold Tryz.f132
  simp only [↓pre,simprocAttr,aA,sx,ali,aE,aC,aL,hn,hbt,hap,sr]
  exact ⟨.inr ⟨_,rfl,by rw [aH,if_pos rfl],by rw [aW];omega,by omega⟩,lW _⟩
theorem auI (l:List bP) (hl:l.length≤1000000):aX Tryz.prog 132 [bJ l.length (bI l)] (q8 (fun a=>a) l):=aac (pX (auH l hl) fun _ _ h=>anu h)
def uZ (k r c w:Int) (L:List (List UInt8)) (x:bP):List UInt8:=nK k r c w (eW k r w L x.1) 1 x.2 k.toNat
def sU (k r c w:Int) (L:List (List UInt8)) (x:bP) (n:Int):Int:=if jU k r c w (eW k r w L x.1) 1 x.2 < k.toNat then 5 else rE k c w (uZ k r c w L x) n
def yC (k r c w:Int) (L:List (List UInt8)) (x:bP) (n:Int):List bP:=dP (uZ k r c w L x) n.toNat
def ahs (k r c w:Int) (L:List (List UInt8)) (x:bP) (n:Int):AV:=if sU k r c w L x n=0 then .tup [bJ n.toNat (bI (yC k r c w L x n)),aD 0] else .tup [aO,aD (sU k r c w L x n)]
theorem anN {w:Int} {x:bP} (h:jV w x=true):(0≤x.1∧x.1 < w)∧1≤x.2∧x.2≤1073741824:=by
 unfold jV at h
 exact of_decide_eq_true h
theorem anO {k r c w:Int} {L:List (List UInt8)} {row:Int} (hE:kH k r c w L=0) (h:0≤row∧row < w):iM k r c w L row=0:=by
 unfold iM
 rw [if_pos hE,if_neg (by omega)]
theorem auJ (k r c w:Int) (v:AV) (L:List (List UInt8)) (cells:List AV) (hv:gI v L cells) (hE:kH k r c w L=0) (x:bP) (hx:jV w x=true) (n:Int):aX Tryz.prog 134 [d5 k r c w v,.agg [aD x.1,aD x.2],aD n] ⟨ahs k r c w L x n,[]⟩:=by
 refine eA ?_
 obtain ⟨hx1,hx2⟩:=anN hx
 have hp:=hv.rd.plain
 have hf:=cM hv.rd
 have ho:=b6 hv.rd
 have hr:=anL k r c w x.1 v L cells hv
 have hR0:=anO hE hx1
 unfold aeX at hr
 rw [if_pos hR0] at hr
 obtain ⟨hrb,hm⟩:=yB hR0
 have hmn:=g7 hm
 have hrv:=anM k r c w L x.1 (by omega)
 have hsr:=ani k r c w 1 x.2 _ _ _ hrv hm hrb (.inl rfl) (by unfold g8;exact decide_eq_true hx2)
 have pr:=hrv.rd.plain
 have sr':=cQ hrv.rd
 unfold ahs sU yC uZ
 unfold wL at hsr
 unfold d5 at hr ⊢
 generalize bJ (k+r).toNat (mT (eW k r w L x.1))=RV at *
 generalize eW k r w L x.1=ps at *
 by_cases hlt:jU k r c w ps 1 x.2 < k.toNat
 ·rw [if_pos hlt] at hsr
  rw [if_pos hlt,if_neg (by decide)]
  have hz:=fun m=>iI (b8 (.slice none 0 0)) (b8 (.int .i64 5)) 1 m
  simp only [aO] at hsr
  replace hz:=aB.mk hz
  replace hrv:=aB.mk hrv
  replace hmn:=aB.mk hmn
  replace hlt:=aB.mk hlt
  replace hR0:=aB.mk hR0
  refine bZ follows Tryz.func134 (by unfold Tryz.f134;rfl) (by unfold Tryz.f134;simp) aE (by unfold Tryz.f134;simp) (by kernel_rfl) ?_;unfold Tryz.f134
  simp only [↓pre,simprocAttr,aA,sx,tL,aE,aC,hf,ho,sr',sr]
  refine aM (hr) (by simp only [aA,aV, *]) ?_;simp only [↓pre,simprocAttr,aA,sx,tL,aE,aC,hf,ho,sr',sr];refine aM (hsr) (by simp only [aA,aV, *]) ?_;simp only [↓pre,simprocAttr,aA,sx,tL,aE,aC,hf,ho,sr',sr]
  exact ⟨1,hz.out _⟩
 ·rw [if_neg hlt] at hsr
  rw [if_neg hlt]
  have hdl:=aaa k r c w ps 1 x.2 k.toNat
  have hwc:((k.toNat*c.toNat:Nat):Int)=wI k c:=by unfold wI;rw [Int.natCast_mul,Int.toNat_of_nonneg (by omega),Int.toNat_of_nonneg (by omega)]
  have hdr:=dX (k.toNat*c.toNat) (aT (nK k r c w ps 1 x.2 k.toNat))
  have hre:=auG k r c w hm (bJ (k.toNat*c.toNat) (aT (nK k r c w ps 1 x.2 k.toNat))) (nK k r c w ps 1 x.2 k.toNat) [] (by rw [List.append_nil,hdl];exact hdr) (by rw [hdl];exact hwc) n
  have pd:=hdr.plain
  have sd:=cQ hdr
  unfold abG at hre
  generalize nK k r c w ps 1 x.2 k.toNat=D at *
  generalize bJ (k.toNat*c.toNat) (aT D)=DV at *
  replace hrv:=aB.mk hrv
  replace hdr:=aB.mk hdr
  replace hmn:=aB.mk hmn
  replace hlt:=aB.mk hlt
  replace hR0:=aB.mk hR0
  by_cases h0:rE k c w D n=0
  ·rw [if_pos h0] at hre ⊢
   have hrt:=dX n.toNat (bI (dP D n.toNat))
   have hz:=fun m=>iI (kD hrt) (b8 (.int .i64 0)) 1 m
   have st:=cQ hrt
   generalize bJ n.toNat (bI (dP D n.toNat))=TR at *
   replace hz:=aB.mk hz
   replace h0:=aB.mk h0
   replace hrt:=aB.mk hrt
   refine bZ follows Tryz.func134 (by unfold Tryz.f134;rfl) (by unfold Tryz.f134;simp) aE (by unfold Tryz.f134;simp) (by kernel_rfl) ?_;unfold Tryz.f134
   simp only [↓pre,simprocAttr,aA,sx,tL,aE,aC,hf,ho,sr',sr]
   refine aM (hr) (by simp only [aA,aV, *]) ?_;simp only [↓pre,simprocAttr,aA,sx,tL,aE,aC,hf,ho,sr',sd,st,sr];refine aM (hsr) (by simp only [aA,aV, *]) ?_;simp only [↓pre,simprocAttr,aA,sx,tL,aE,aC,hf,ho,sr',sd,st,sr];refine aM (hre) (by simp only [aA,aV, *]) ?_;simp only [↓pre,simprocAttr,aA,sx,tL,aE,aC,hf,ho,sr',sd,st,sr]
   exact ⟨1,hz.out _⟩
  ·rw [if_neg h0] at hre ⊢
   have hz:=fun m=>iI (b8 (.slice none 0 0)) (b8 (.int .i64 (rE k c w D n))) 1 m
   generalize rE k c w D n=E at *
   simp only [aO] at hre
   replace hz:=aB.mk hz
   refine bZ follows Tryz.func134 (by unfold Tryz.f134;rfl) (by unfold Tryz.f134;simp) aE (by unfold Tryz.f134;simp) (by kernel_rfl) ?_;unfold Tryz.f134
   simp only [↓pre,simprocAttr,aA,sx,tL,aE,aC,hf,ho,sr',sr]
   refine aM (hr) (by simp only [aA,aV, *]) ?_;simp only [↓pre,simprocAttr,aA,sx,tL,aE,aC,hf,ho,sr',sd,sr];refine aM (hsr) (by simp only [aA,aV, *]) ?_;simp only [↓pre,simprocAttr,aA,sx,tL,aE,aC,hf,ho,sr',sd,sr];refine aM (hre) (by simp only [aA,aV, *]) ?_;simp only [↓pre,simprocAttr,aA,sx,tL,aE,aC,hf,ho,sr',sd,sr]
   exact ⟨1,hz.out _⟩
end Go.Proofs.YtaekhhlgnbhnpaaGreat
set_option linter.unusedVariables false
set_option linter.unusedSimpArgs false
set_option maxRecDepth 10000
namespace Go.Tw
open Go
theorem xC.mono {P:Program} {f:FuncId} {args:List AV} {m:aF} {Q Q':AV→aF→Prop} (h:xC P f args m Q) (hq:∀ r m',Q r m'→Q' r m'):xC P f args m Q' :=
 ⟨h.1,fun w I ρ vs a b c d=>(h.2 w I ρ vs a b c d).mono fun en u w' ⟨h0,v,r,m',I',ρ',h1,h2,h3⟩=>⟨h0,v,r,m',I',ρ',h1,hq _ _ h2,h3⟩⟩
section
variable {v:Value} {cs:List AV} {a b c d:Nat} {f:Bool} {k:IntKind} {n:Int}
theorem anP:(AV.val v).cells=[.val v]:=rfl
theorem anQ:(AV.agg cs).cells=cs:=rfl
theorem anR:(AV.sl a b c d f).cells=[.sl a b c d f]:=rfl
theorem anS:(AV.tree a b cs f).cells=[.tree a b cs f]:=rfl
theorem anT:fK (.agg cs)=true:=rfl
theorem anU:fK (.val (.int k n))=true:=rfl
theorem anV:fK (.val (.bool f))=true:=rfl
theorem anW:fK (.val (.slice none 0 0))=true:=rfl
theorem anX:fK (.sl a b c d f)=true:=rfl
theorem anY:fK (.tree a b cs f)=true:=rfl
end
theorem b7:(type_of% @anP)∧(type_of% @anQ)∧(type_of% @anR)∧(type_of% @anS)∧(type_of% @anT)∧(type_of% @anU)∧(type_of% @anV)∧(type_of% @anW)∧(type_of% @anX)∧(type_of% @anY):=⟨@anP,@anQ,@anR,@anS,@anT,@anU,@anV,@anW,@anX,@anY⟩
end Go.Tw
namespace Go.Proofs.YtaekhhlgnbhnpaaGreat
open Go Go.Tw Go.Proofs Go.Gf
structure ObB (m:aF) (d0 d1 d2 ve lv sv:AV) (E:Int):Prop where
 d:m.at_ 0=some ⟨[d0,d1,d2],33,.var,true⟩
 v:m.at_ 1=some ⟨[ve],3,.var,true⟩
 l:m.at_ 2=some ⟨[lv],31,.var,true⟩
 s:m.at_ 3=some ⟨[sv],31,.var,true⟩
 e:m.at_ 4=some ⟨[aD E],28,.var,true⟩
theorem auK (m:aF) {d0 d1 d2 ve lv sv:AV} (h:ObB m d0 d1 d2 ve lv sv 0):xC Tryz.prog 131 [.ptr 4 0,.ptr 0 0,.ptr 1 0,.ptr 2 0,.ptr 3 0] m fun _ m'=>m'=m:=by
 have he:=h.e
 refine akf follows Tryz.func131 (by unfold Tryz.f131;rfl) (by unfold Tryz.f131;simp) aE (by unfold Tryz.f131;simp) (by kernel_rfl) ?_;unfold Tryz.f131
 simp only [↓pre,simprocAttr,aA,sx,alh,aE,aC,he]
theorem auL (m:aF) {d0 d1 d2 ve lv sv:AV} {E:Int} (h0:E≠0) (h:ObB m d0 d1 d2 ve lv sv E):xC Tryz.prog 131 [.ptr 4 0,.ptr 0 0,.ptr 1 0,.ptr 2 0,.ptr 3 0] m fun _ m'=>ObB m' (aD 0) (aD 0) aO (aD 0) aO aO E:=by
 obtain ⟨hd,hv,hl,hs,he⟩:=h
 refine akf follows Tryz.func131 (by unfold Tryz.f131;rfl) (by unfold Tryz.f131;simp) aE (by unfold Tryz.f131;simp) (by kernel_rfl) ?_;unfold Tryz.f131
 simp only [↓pre,simprocAttr,aA,sx,alh,aE,aC,aJ,aG,hd,hv,hl,hs,he,h0,Nat.one_ne_zero]
 refine ⟨?_, ?_, ?_, ?_, ?_⟩ <;> simp [aG,hd,hv,hl,hs,he,aO,aD]
def sV (k r c w:Int) (L:List (List UInt8)):List bP→Int→Int
 | [],_=>0
 | x::xs,n=>if sU k r c w L x (min n (lI k c))=0 then sV k r c w L xs (n - min n (lI k c)) else sU k r c w L x (min n (lI k c))
def pC (k r c w:Int) (L:List (List UInt8)):List bP→Int→List bP
 | [],_=>[]
 | x::xs,n=>yC k r c w L x (min n (lI k c))++pC k r c w L xs (n - min n (lI k c))
theorem aht (k r c w:Int) (L:List (List UInt8)) (x:bP) (n:Int):(yC k r c w L x n).length=n.toNat:=abB _ _
theorem ahu {k r c w:Int} {L:List (List UInt8)} {x:bP} {n:Int} (h:sU k r c w L x n=0):1≤n∧n≤lI k c:=by
 unfold sU at h
 split at h
 ·omega
 ·unfold rE at h
  split at h
  ·omega
  ·omega
def dU (k r c w:Int) (L:List (List UInt8)) (row:Int):List UInt8:=fV k r c w (eW k r w L row)
def gM (k r c w:Int) (L:List (List UInt8)) (row:Int):Int:=if iM k r c w L row=0 then (if iP k r c w (eW k r w L row)=0 then (if dQ (dU k r c w L row)=0 then 0 else sV k r c w L (cS (dU k r c w L row)) (oS k r c w (dK (dU k r c w L row)))) else iP k r c w (eW k r w L row)) else iM k r c w L row
def g9 (k r c w:Int) (L:List (List UInt8)) (row:Int):List bP:=if dQ (dU k r c w L row)=0 then [] else cS (dU k r c w L row)
def hU (k r c w:Int) (L:List (List UInt8)) (row:Int):List bP:=if dQ (dU k r c w L row)=0 then cS (dU k r c w L row) else pC k r c w L (cS (dU k r c w L row)) (oS k r c w (dK (dU k r c w L row)))
def sW (l:List bP):AV:=bJ l.length (bI l)
def ahv (k r c w:Int) (L:List (List UInt8)) (row:Int):AV:=if gM k r c w L row=0 then .tup [rA (dK (dU k r c w L row)) (dQ (dU k r c w L row)) (cS (dU k r c w L row)),aD (eV k r c w (eW k r w L row)),sW (g9 k r c w L row),sW (hU k r c w L row),aD 0] else .tup [oJ,aD 0,aO,aO,aD (gM k r c w L row)]
theorem auM {a b c d e:AV} (ha:fE a) (hb:fE b) (hc:fE c) (hd:fE d) (he:fE e):fE (.tup [a,b,c,d,e]):=acR fun x hx=>by
 simp only [List.mem_cons,List.not_mem_nil,or_false] at hx
 rcases hx with rfl | rfl | rfl | rfl | rfl <;> assumption
theorem auN:fE oJ:=wH fun c hc=>by
 simp only [List.mem_cons,List.not_mem_nil,or_false] at hc
 rcases hc with rfl | rfl | rfl <;> exact b8 _
theorem auO {k r c w:Int} {ps:List bX} (h:iP k r c w ps=0):eK k r c w ps=0∧eV k r c w ps≠0∧¬ jU k r c w ps 2 (eV k r c w ps) < k.toNat∧mJ k r c w (fV k r c w ps)=0:=by
 unfold iP at h
 split at h
 ·rename_i hc
  split at h
  ·contradiction
  ·rename_i h1
   split at h
   ·contradiction
   ·rename_i h2
    exact ⟨hc,h1,h2,h⟩
 ·contradiction
theorem abH {k r c w:Int} {ps:List bX} (h:iP k r c w ps=0):kT k r c w (dK (fV k r c w ps)) (dQ (fV k r c w ps)) (cS (fV k r c w ps))=0:=by
 obtain ⟨hc,_,_,h3⟩:=auO h
 unfold mJ at h3
 split at h3
 ·split at h3
  ·split at h3
   ·rename_i h4
    unfold q9 at h4
    rw [Bool.and_eq_true,Bool.and_eq_true,decide_eq_true_eq,decide_eq_true_eq] at h4
    exact h4.2.1
   ·contradiction
  ·contradiction
 ·contradiction
theorem anZ {k r c w len dep:Int} {l:List bP} (h:kT k r c w len dep l=0):oE k r c w len=0∧dep=min (oF k r c w len) 1∧(l.length:Int)=if dep=0 then oS k r c w len else oF k r c w len:=by
 obtain ⟨hm,hd⟩:=aeT h
 unfold sP at hd
 simp only [Bool.and_eq_true,decide_eq_true_eq] at hd
 obtain ⟨h1,h2,h3,h4⟩:=hd
 have hF:=aeR (r:=r) (w:=w) (n:=len) hm
 refine ⟨h1,by omega, ?_⟩
 rw [h3]
 by_cases hd0:dep=0
 ·rw [if_neg (by omega),if_pos hd0]
 ·rw [if_pos (by omega),if_neg hd0]
end Go.Proofs.YtaekhhlgnbhnpaaGreat
namespace Go.Proofs.YtaekhhlgnbhnpaaGreat
open Go Go.Tw Go.Proofs Go.Gf
abbrev obR:List ResultVar:=[.cell 4 33,.cell 5 3,.cell 6 31,.cell 7 31,.cell 8 28]
abbrev obC:List AV:=[.ptr 4 0,.ptr 0 0,.ptr 1 0,.ptr 2 0,.ptr 3 0]
structure ObE (e:bN):Prop where
 a:e 4 = .ptr 0 0
 b:e 5 = .ptr 1 0
 c:e 6 = .ptr 2 0
 d:e 7 = .ptr 3 0
 e:e 8 = .ptr 4 0
theorem an0 {m:aF} {e:bN} {d0 d1 d2 ve lv sv:AV} {E:Int} (h:ObB m d0 d1 d2 ve lv sv E) (he:ObE e):jZ Tryz.prog obR e m=some (.tup [.agg [d0,d1,d2],ve,lv,sv,aD E]):=by
 obtain ⟨hd,hv,hl,hs,h4⟩:=h
 obtain ⟨ea,eb,ec,ed,ee⟩:=he
 simp only [jZ,mY,oP,i5,ea,eb,ec,ed,ee,hd,hv,hl,hs,h4,Option.bind_some,if_neg (show ¬ fW.var=fW.hole by decide),kV,show wR Tryz.prog 33=some true by kernel_rfl,show cH Tryz.prog 33=some 3 by kernel_rfl,show wR Tryz.prog 3=some false by kernel_rfl,show wR Tryz.prog 31=some false by kernel_rfl,show wR Tryz.prog 28=some false by kernel_rfl]
 rfl
structure mU (m:aF) (dv:AV) (D:List bP) (lv:AV) (LL:List bP) (sv:AV) (SS:List bP):Prop where
 d:cY m 67 2 dv D.length (bI D)
 l:cY m 67 2 lv LL.length (bI LL)
 s:cY m 67 2 sv SS.length (bI SS)
 dl:∀ b,cF dv=some b→cF lv≠some b
 ds:∀ b,cF dv=some b→cF sv≠some b
 ls:∀ b,cF lv=some b→cF sv≠some b
 db:∀ b,cF dv=some b→5≤b
 lb:∀ b,cF lv=some b→5≤b
 sb:∀ b,cF sv=some b→5≤b
theorem mU.box {m m':aF} {dv lv sv:AV} {D LL SS:List bP} (h:mU m dv D lv LL sv SS) (hn:m.next≤m'.next) (hk:∀ j k,5≤j→j < m.next→m.at_ j=some k→m'.at_ j=some k):mU m' dv D lv LL sv SS :=
 ⟨h.d.keep hn fun b k h1 h2=>hk b k (h.db b h1) (nL h.d b h1) h2,h.l.keep hn fun b k h1 h2=>hk b k (h.lb b h1) (nL h.l b h1) h2,h.s.keep hn fun b k h1 h2=>hk b k (h.sb b h1) (nL h.s b h1) h2,h.dl,h.ds,h.ls,h.db,h.lb,h.sb⟩
theorem mU.app {m m':aF} {dv lv sv sv':AV} {D LL SS SS':List bP} (h:mU m dv D lv LL sv SS) (ho:cY m' 67 2 sv' SS'.length (bI SS')) (hn:m.next≤m'.next) (hk:∀ j k,m.at_ j=some k→j < m.next→cF sv≠some j→m'.at_ j=some k) (hb:∀ j,cF sv'=some j→j=m.next∨cF sv=some j) (h5:5≤m.next):mU m' dv D lv LL sv' SS' :=
 ⟨h.d.keep hn fun b k h1 h2=>hk b k h2 (nL h.d b h1) (h.ds b h1),h.l.keep hn fun b k h1 h2=>hk b k h2 (nL h.l b h1) (h.ls b h1),ho,h.dl,
  fun b h1 h2=>(hb b h2).elim (fun e=>by have:=nL h.d b h1;omega) (h.ds b h1),fun b h1 h2=>(hb b h2).elim (fun e=>by have:=nL h.l b h1;omega) (h.ls b h1),h.db,h.lb,fun b h1=>(hb b h1).elim (fun e=>by omega) (h.sb b)⟩
theorem abA.three {m m1:aF} {dv:AV} {D:List bP} (h:abA m m1 dv D) (h5:5≤m.next):mU m1 dv D aO [] aO [] :=
 ⟨h.own,fB,fB,fun _ _ h=>(by cases h),fun _ _ h=>(by cases h),fun _ h=>(by cases h),fun b h1=>by have:=h.blk b h1;omega,fun _ h=>(by cases h),fun _ h=>(by cases h)⟩
theorem mU.ofS {m m1:aF} {dv sv:AV} {D S:List bP} (h:mU m dv D aO [] aO []) (hn:abA m m1 sv S) (h5:5≤m.next):mU m1 dv D aO [] sv S :=
 h.app hn.own hn.next (fun j k h1 h2 _=>hn.keep j k h1 h2) (fun j h1 => .inl (hn.blk j h1)) h5
theorem mU.ofL {m m1:aF} {dv lv:AV} {D LL:List bP} (h:mU m dv D aO [] aO []) (hn:abA m m1 lv LL) (h5:5≤m.next):mU m1 dv D lv LL aO []:=by
 have h2:=h.ofS hn h5
 exact ⟨h2.d,h2.s,fB,h2.ds,fun _ _ h=>(by cases h),fun _ _ h=>(by cases h),h2.db,h2.sb,fun _ h=>(by cases h)⟩
def ObQ (E len dep W:Int) (D LL SS:List bP) (a:AV) (m:aF):Prop:=(E=0∧∃ dv lv sv,a = .tup [.agg [aD len,aD dep,dv],aD W,lv,sv,aD 0]∧mU m dv D lv LL sv SS)∨(E≠0∧a = .tup [oJ,aD 0,aO,aO,aD E])
theorem acY {m:aF} {e:bN} {d0 d1 d2 ve lv sv:AV} {E len dep W:Int} {D LL SS:List bP} (h0:E≠0) (h:ObB m d0 d1 d2 ve lv sv E) (he:ObE e):af0 Tryz.prog obR 131 obC (ObQ E len dep W D LL SS) .ret e m :=
 (auL m h0 h).mono fun _ m' h'=>by
  rw [an0 h' he]
  exact .inr ⟨h0,rfl⟩
theorem an1 {m:aF} {e:bN} {len dep W:Int} {dv lv sv:AV} {D LL SS:List bP} (hD:mU m dv D lv LL sv SS) (h:ObB m (aD len) (aD dep) dv (aD W) lv sv 0) (he:ObE e):af0 Tryz.prog obR 131 obC (ObQ 0 len dep W D LL SS) .ret e m :=
 (auK m h).mono fun _ m' h'=>by
  subst h'
  rw [an0 h he]
  exact .inl ⟨rfl,_,_,_,rfl,hD⟩
def iQ:Nat→Bool:=fun d=>d != 4 && d != 5 && d != 6 && d != 7 && d != 8
theorem an2 (k r c w row:Int) (v:AV) (L:List (List UInt8)) (cells:List AV) (hv:gI v L cells):fA Tryz.prog 59 [d5 k r c w v,aD row] aF.empty (ObQ (gM k r c w L row) (dK (dU k r c w L row)) (dQ (dU k r c w L row)) (eV k r c w (eW k r w L row)) (cS (dU k r c w L row)) (g9 k r c w L row) (hU k r c w L row)):=by
 have hp:=hv.rd.plain
 have hf:=cM hv.rd
 have ho:=b6 hv.rd
 have hck:=anH k r c w v L cells hv
 have hrw:=anL k r c w row v L cells hv
 unfold gM
 unfold d5 at hck hrw ⊢
 unfold aeX at hrw
 have hz3:eX Tryz.prog 33=some [.int .i64 0,.int .i64 0,.slice none 0 0]:=by kernel_rfl
 by_cases hR:iM k r c w L row=0
 ·rw [if_pos hR] at hrw ⊢
  obtain ⟨hrb,hm⟩:=yB hR
  have hE:kH k r c w L=0:=by
   unfold iM at hR
   split at hR
   ·assumption
   ·assumption
  have hrow:¬ row < 0∧¬ w≤row:=by
   unfold iM at hR
   rw [if_pos hE] at hR
   split at hR
   ·omega
   ·omega
  obtain ⟨h1,h2⟩:=hrow
  rw [hE] at hck
  have hmn:=g7 hm
  have hrv:=anM k r c w L row (by omega)
  have hcr:=aus k r c w _ _ _ hrv
  have hpr:=hrv.rd.plain
  have hsr:=cQ hrv.rd
  have hoR:=b6 hrv.rd
  unfold g9 hU dU
  generalize bJ (k+r).toNat (mT (eW k r w L row))=RV at *
  generalize eW k r w L row=ps at *
  unfold aho at hcr
  refine akg follows Tryz.func59 (by unfold Tryz.f59;rfl) (by unfold Tryz.f59;simp) iQ (by unfold Tryz.f59;simp) (by kernel_rfl) (by kernel_rfl) (by unfold Tryz.f59;decide) (by kernel_rfl) ?_
  unfold af1 Tryz.f59
  by_cases hC:iP k r c w ps=0
  ·rw [if_pos hC] at hcr ⊢
   have hD:=abH hC
   obtain ⟨hl0,hl1,hdep,hll,hlr⟩:=wM hD
   obtain ⟨hoE,hdF,hlc⟩:=anZ hD
   have hw:=gZ hm
   have hdb:=vX hw.1 hw.2
   have hcl:=auI (cS (fV k r c w ps)) (by unfold dI at hll;omega)
   have hst:=alM k r c w (dK (fV k r c w ps))
   have hlf:=agy k r c w
   simp only [hm,if_true] at hlf
   rw [hoE] at hst
   generalize eV k r c w ps=W at *
   generalize dQ (fV k r c w ps)=PD at *
   generalize dK (fV k r c w ps)=PL at *
   generalize cS (fV k r c w ps)=PR at *
   generalize hEQ:(if PD=0 then (0:Int) else sV k r c w L PR (oS k r c w PL))=EQ
   generalize hLQ:(if PD=0 then ([]:List bP) else PR)=LQ
   generalize hSQ:(if PD=0 then PR else pC k r c w L PR (oS k r c w PL))=SQ
   replace hEQ:=aB.mk hEQ
   replace hLQ:=aB.mk hLQ
   replace hSQ:=aB.mk hSQ
   replace hlr:=aB.mk hlr
   replace hdF:=aB.mk hdF
   replace hlc:=aB.mk hlc
   replace hrv:=aB.mk hrv
   replace hmn:=aB.mk hmn
   replace hw:=aB.mk hw
   replace hdb:=aB.mk hdb
   replace hD:=aB.mk hD
   replace hll:=aB.mk hll
   replace hdep:=aB.mk hdep
   simp only [aD] at hcr hrw
   simp only [↓pre,simprocAttr,aA,sx,i9,b7,iQ,bne,aC,aJ,aK,aG,aH,aZ,aW,aQ,Nat.one_ne_zero,Nat.zero_ne_one,Nat.reduceEqDiff,hf,ho,sr]
   refine aM (hck) (by simp only [aA,aV, *]) ?_;simp only [↓pre,simprocAttr,aA,sx,i9,b7,iQ,bne,aC,aJ,aK,aG,aH,aZ,aW,aQ,Nat.one_ne_zero,Nat.zero_ne_one,Nat.reduceEqDiff,hf,ho,h1,h2,hoR,hsr,sr];refine aM (hrw) (by simp only [aA,aV, *]) ?_;simp only [↓pre,simprocAttr,aA,sx,i9,b7,iQ,bne,aC,aJ,aK,aG,aH,aZ,aW,aQ,Nat.one_ne_zero,Nat.zero_ne_one,Nat.reduceEqDiff,hf,ho,h1,h2,hoR,hsr,sr]
   refine acU (fun a => .tup [.agg [.val (.int .i64 PL),.val (.int .i64 PD),a],.val (.int .i64 W),.val (.int .i64 0)]) hcr (pW 3 _ (by simp [eB,plain,hpr])).1 (fun _ _=>rfl) (fun _ _=>by simp [jH,kW]) fun dv m1 hN => ?_
   have hA:=hN.abs
   clear hN
   have c0:=hA.keep 0 ⟨[.val (.int .i64 0),.val (.int .i64 0),.val (.slice none 0 0)],33,.var,true⟩ (by simp [aG,aH,aZ,aW,aQ]) (by simp [aZ,aW,aQ])
   have c1:=hA.keep 1 ⟨[.val (.int .i64 0)],3,.var,true⟩ (by simp [aG,aH,aZ,aW,aQ]) (by simp [aZ,aW,aQ])
   have c2:=hA.keep 2 ⟨[.val (.slice none 0 0)],31,.var,true⟩ (by simp [aG,aH,aZ,aW,aQ]) (by simp [aZ,aW,aQ])
   have c3:=hA.keep 3 ⟨[.val (.slice none 0 0)],31,.var,true⟩ (by simp [aG,aH,aZ,aW,aQ]) (by simp [aZ,aW,aQ])
   have c4:=hA.keep 4 ⟨[.val (.int .i64 0)],28,.var,true⟩ (by simp [aG,aH,aZ,aW,aQ]) (by simp [aZ,aW,aQ])
   have hT:=hA.three (by simp [aZ,aW,aQ])
   have hn5:5≤m1.next:=Nat.le_trans (by simp [aZ,aW,aQ]) hA.next
   have k1:=hA.cells
   have k2:=hA.ok
   have k3:=hA.one
   clear hA
   replace hT:=aB.mk hT
   replace hn5:=aB.mk hn5
   simp only [↓pre,simprocAttr,aA,sx,i9,b7,iQ,bne,aC,aJ,aK,aG,aH,aZ,aW,aQ,Nat.one_ne_zero,Nat.zero_ne_one,Nat.reduceEqDiff,hf,ho,k1,k2,k3,c0,c1,c2,c3,c4,sr]
   by_cases hd0:PD=0
   ·have q1:=hEQ.out
    have q2:=hLQ.out
    have q3:=hSQ.out
    rw [if_pos hd0] at q1 q2 q3
    clear hEQ hLQ hSQ
    subst q1 q2 q3 hd0
    simp only [↓pre,simprocAttr,aA,sx,i9,b7,iQ,bne,aC,aJ,aK,aG,aH,aZ,aW,aQ,Nat.one_ne_zero,Nat.zero_ne_one,Nat.reduceEqDiff,hf,ho,k1,k2,k3,c0,c1,c2,c3,c4,sr]
    generalize hM:aF.put (aF.put (aF.put m1 _ _) _ _) _ _=M
    have tM:=hT.out.box (m':=M) (by rw [←hM];simp [aZ]) (fun j k h5 _ hk=>by rw [←hM,aG,if_neg (by omega),aG,if_neg (by omega),aG,if_neg (by omega)];exact hk)
    have nM:5≤M.next:=by rw [←hM];simpa [aZ] using hn5.out
    have d0:M.at_ 0=some ⟨[.val (.int .i64 PL),.val (.int .i64 0),dv],33,.var,true⟩:=by rw [←hM];simp [aG]
    have d1:M.at_ 1=some ⟨[.val (.int .i64 W)],3,.var,true⟩:=by rw [←hM];simp [aG]
    have d2:=c2
    have d3:=c3
    rw [show m1.at_ 2=M.at_ 2 by rw [←hM];simp [aG]] at d2
    rw [show m1.at_ 3=M.at_ 3 by rw [←hM];simp [aG]] at d3
    have d4:M.at_ 4=some ⟨[.val (.int .i64 0)],28,.var,true⟩:=by rw [←hM];simp [aG]
    clear hM c0 c1 c2 c3 c4
    refine acU (fun a=>a) hcl (ans tM.d) (fun _ _=>rfl) (fun _ _=>by simp [jH]) fun sv m2 hN => ?_
    have hA:=hN.abs
    clear hN
    have t2:=tM.ofS hA nM
    have b0:=hA.keep 0 _ d0 (by omega)
    have b1:=hA.keep 1 _ d1 (by omega)
    have b2:=hA.keep 2 _ d2 (by omega)
    have b3:=hA.keep 3 _ d3 (by omega)
    have b4:=hA.keep 4 _ d4 (by omega)
    have k4:=hA.cells
    have k5:=hA.ok
    have k6:=hA.one
    replace hA:=aB.mk hA
    replace t2:=aB.mk t2
    replace tM:=aB.mk tM
    simp only [↓pre,simprocAttr,aA,sx,i9,b7,iQ,bne,aC,aJ,aK,aG,aH,aZ,aW,aQ,Nat.one_ne_zero,Nat.zero_ne_one,Nat.reduceEqDiff,hf,ho,k4,k5,k6,b0,b1,b2,b3,b4,sr]
    refine an1 (t2.out.box (by simp [aZ]) (fun j k h5 _ hk=>by rw [aG,if_neg (by omega)];exact hk)) ⟨?_, ?_, ?_, ?_, ?_⟩ ⟨rfl,rfl,rfl,rfl,rfl⟩
    all_goals simp [aG,b0,b1,b2,b3,b4,aD,aO]
   ·have q1:=hEQ.out
    have q2:=hLQ.out
    have q3:=hSQ.out
    rw [if_neg hd0] at q1 q2 q3
    clear hEQ hLQ hSQ
    subst q2
    simp only [↓pre,simprocAttr,aA,sx,i9,b7,iQ,bne,aC,aJ,aK,aG,aH,aZ,aW,aQ,Nat.one_ne_zero,Nat.zero_ne_one,Nat.reduceEqDiff,hf,ho,k1,k2,k3,c0,c1,c2,c3,c4,hd0,sr]
    generalize hM:aF.put (aF.put (aF.put m1 _ _) _ _) _ _=M
    have tM:=hT.out.box (m':=M) (by rw [←hM];simp [aZ]) (fun j k h5 _ hk=>by rw [←hM,aG,if_neg (by omega),aG,if_neg (by omega),aG,if_neg (by omega)];exact hk)
    have nM:5≤M.next:=by rw [←hM];simpa [aZ] using hn5.out
    have d0:M.at_ 0=some ⟨[.val (.int .i64 PL),.val (.int .i64 PD),dv],33,.var,true⟩:=by rw [←hM];simp [aG]
    have d1:M.at_ 1=some ⟨[.val (.int .i64 W)],3,.var,true⟩:=by rw [←hM];simp [aG]
    have d2:=c2
    have d3:=c3
    rw [show m1.at_ 2=M.at_ 2 by rw [←hM];simp [aG]] at d2
    rw [show m1.at_ 3=M.at_ 3 by rw [←hM];simp [aG]] at d3
    have d4:M.at_ 4=some ⟨[.val (.int .i64 0)],28,.var,true⟩:=by rw [←hM];simp [aG]
    clear hM c0 c1 c2 c3 c4
    refine acU (fun a=>a) hcl (ans tM.d) (fun _ _=>rfl) (fun _ _=>by simp [jH]) fun lv0 m2 hN => ?_
    have hA:=hN.abs
    clear hN
    have t2:=tM.ofL hA nM
    have b0:=hA.keep 0 _ d0 (by omega)
    have b1:=hA.keep 1 _ d1 (by omega)
    have b2:=hA.keep 2 _ d2 (by omega)
    have b3:=hA.keep 3 _ d3 (by omega)
    have b4:=hA.keep 4 _ d4 (by omega)
    have k4:=hA.cells
    have k5:=hA.ok
    have k6:=hA.one
    have n2:=Nat.le_trans nM hA.next
    replace hA:=aB.mk hA
    replace t2:=aB.mk t2
    replace tM:=aB.mk tM
    have hPD:PD=1:=by have:=hdep.out;omega
    have hos:0≤oS k r c w PL∧oS k r c w PL≤40000:=by
     have hw:=hw.out
     have:=acF (a:=PL) (b:=wI k c) hl0 hl1 (by unfold wI;omega) (by unfold wI;omega)
     unfold oS
     rw [if_pos hoE]
     unfold sI
     omega
    have hlb:=tN hw.out.1 hw.out.2
    have hlfb:5≤lI k c∧lI k c≤128:=hlb
    have hPRl:PR.length≤126:=by have:=hll.out;have:=hdb.out;unfold dI at *;omega
    have hlea:=fun (i:Nat) (x:bP) (hi:PR[i]? = some x) n=>auJ k r c w v L cells hv hE x (by
     have:=hlr.out x (List.mem_of_getElem? hi)
     unfold jV
     exact decide_eq_true this) n
    have hcells:=fun i x hi=>qX PR [] i x hi
    rw [List.append_nil] at hcells
    unfold d5 at hlea
    have hlen0:=ant t2.out.l
    generalize oS k r c w PL=OS at *
    generalize hLI:lI k c=LI at *
    replace hLI:=aB.mk hLI
    replace hPD:=aB.mk hPD
    replace q1:=aB.mk q1
    replace q3:=aB.mk q3
    replace hos:=aB.mk hos
    replace hlea:=aB.mk hlea
    replace hcells:=aB.mk hcells
    replace hlfb:=aB.mk hlfb
    replace hlb:=aB.mk hlb
    simp only [aD] at hst hlf
    simp only [↓pre,simprocAttr,aA,sx,i9,b7,iQ,bne,aC,aJ,aK,aG,aH,aZ,aW,aQ,Nat.one_ne_zero,Nat.zero_ne_one,Nat.reduceEqDiff,hf,ho,k4,k5,k6,b0,b1,b2,b3,b4,sr]
    refine aM (hst) (by rfl) ?_;simp only [↓pre,simprocAttr,aA,sx,i9,b7,iQ,bne,aC,aJ,aK,aG,aH,aZ,aW,aQ,Nat.one_ne_zero,Nat.zero_ne_one,Nat.reduceEqDiff,hf,ho,k4,k5,k6,b0,b1,b2,b3,b4,hlen0,sr];refine aM (hlf) (by rfl) ?_;simp only [↓pre,simprocAttr,aA,sx,i9,b7,iQ,bne,aC,aJ,aK,aG,aH,aZ,aW,aQ,Nat.one_ne_zero,Nat.zero_ne_one,Nat.reduceEqDiff,hf,ho,k4,k5,k6,b0,b1,b2,b3,b4,hlen0,sr]
    rw [b9]
    refine cA (fun q e m=>∃ i left acc lv,q+i=PR.length∧ObE e∧e 2 = .tptr 0 [aD k,aD r,aD c,aD w,v]∧e 10=aD left∧e 11=aD LI∧e 74=lv0∧e 75=aD (PR.length:Nat)∧e 76=aD (i:Nat)∧aB ((0≤left∧left≤40000)∧ObB m (aD PL) (aD PD) dv (aD W) lv0 lv 0∧5≤m.next∧mU m dv PR lv0 PR lv acc∧sV k r c w L (PR.drop i) left=EQ∧acc++pC k r c w L (PR.drop i) left=SQ∧acc.length≤i*128)) PR.length ⟨0,OS,[],aO,by omega,⟨rfl,rfl,rfl,rfl,rfl⟩,rfl,rfl,rfl,rfl,rfl,rfl,⟨hos.out,⟨by simp [aG,b0,aD],by simp [aG,b1,aD],by simp [aG],by simp [aG,b3,aO],by simp [aG,aD]⟩,by simpa [aZ] using n2,t2.out.box (by simp [aZ]) (fun j k h5 _ hk=>by rw [aG,if_neg (by omega),aG,if_neg (by omega),aG,if_neg (by omega)];exact hk),q1.out,q3.out,by simp⟩⟩ ?_
    clear b0 b1 b2 b3 b4 d0 d1 d2 d3 d4
    rintro q e m ⟨i,left,acc,lv,hq,he,e2,e10,e11,e74,e75,e76,hJ⟩
    replace hq:=aB.mk hq
    obtain ⟨hleft,hB,hnx,hown,hLE,hLR,hacc⟩:=hJ.out
    clear hJ
    obtain ⟨e4,e5,e6,e7,e8⟩:=he
    obtain ⟨b0,b1,b2,b3,b4⟩:=hB
    have g0:¬ (0=m.next):=by omega
    have g1:¬ (1=m.next):=by omega
    have g2:¬ (2=m.next):=by omega
    have g3:¬ (3=m.next):=by omega
    have g4:¬ (4=m.next):=by omega
    by_cases hlt:i < PR.length
    ·have hlt':((i:Nat):Int) < ((PR.length:Nat):Int):=by omega
     have wi:=cI (n:=i) (by omega)
     obtain ⟨b,hlv,hbb,hbn⟩:=hown.l.sl (by omega)
     have gb:¬ b=m.next:=by omega
     have h5b:=hown.lb b (by rw [hlv];rfl)
     have gb4:¬ b=4:=by omega
     subst hlv
     obtain ⟨x,hx⟩:∃ x,PR[i]? = some x:=⟨_,List.getElem?_eq_getElem hlt⟩
     obtain ⟨ha,hb⟩:=hcells.out i x hx
     obtain ⟨ht,htl⟩:=nZ ha hb
     have hdrop:PR.drop i=x::PR.drop (i+1):=by
      rw [List.drop_eq_getElem_cons hlt]
      congr 1
      rw [List.getElem?_eq_getElem hlt] at hx
      exact Option.some.inj hx
     have hlf2:=hlea.out i x hx (min left LI)
     rw [hdrop] at hLE hLR
     simp only [sV,pC,hLI.out] at hLE hLR
     unfold ahs at hlf2
     replace hdrop:=aB.mk hdrop
     replace hx:=aB.mk hx
     have hlL:=aht k r c w L x (min left LI)
     have hok:=ahu (k:=k) (r:=r) (c:=c) (w:=w) (L:=L) (x:=x) (n:=min left LI)
     by_cases hE0:sU k r c w L x (min left LI)=0
     ·rw [if_pos hE0] at hLE hlf2
      obtain ⟨hn1,hn2⟩:=hok hE0
      obtain ⟨N,hN⟩:∃ N:Nat,min left LI=(N:Int):=⟨(min left LI).toNat,by omega⟩
      rw [hN] at hLE hlf2 hLR hlL hn1 hn2
      rw [Int.toNat_natCast] at hlf2 hlL
      generalize yC k r c w L x ↑N=LR at *
      have hTr:=dX N (bI LR)
      have pT:=hTr.plain
      have sT:=cQ hTr
      have lT:=fun t ht=>hTr.len' (P:=Tryz.prog) (t:=t) ht
      have hsrc:=fun m=>hTr.src (P:=Tryz.prog) (m:=m) (el:=67) (sz:=2) (by rw [lW];omega)
      rw [show (bI LR).take (N*2)=bI LR from List.take_of_length_le (by rw [lW];omega)] at hsrc
      generalize bJ N (bI LR)=TR at *
      have hNl:N≤128:=by have:=hlfb.out;omega
      have wl:IntKind.i64.wrap (left - (N:Int))=left - (N:Int):=eD (by omega) (by omega)
      replace hlL:=aB.mk hlL
      replace hLE:=aB.mk hLE
      replace hLR:=aB.mk hLR
      replace hown:=aB.mk hown
      replace hacc:=aB.mk hacc
      replace hok:=aB.mk hok
      replace hTr:=aB.mk hTr
      replace hsrc:=aB.mk hsrc
      replace hE0:=aB.mk hE0
      have hne:4 < m.next:=hnx
      simp only [↓pre,simprocAttr,aA,sx,i9,b7,iQ,bne,aC,aJ,aK,aG,aH,aZ,aW,aQ,Nat.one_ne_zero,Nat.zero_ne_one,Nat.reduceEqDiff,hf,ho,e2,e4,e5,e6,e7,e8,e10,e11,e74,e75,e76,b0,b1,b2,b3,b4,g0,g1,g2,g3,g4,aL,aI,hlt',hlt,hbb,gb,gb4,ht,htl,hN,sr]
      refine aM (hlf2) (by simp only [aA,aV, *]) ?_;simp only [↓pre,simprocAttr,aA,sx,i9,b7,iQ,bne,aC,aJ,aK,aG,aH,aZ,aW,aQ,Nat.one_ne_zero,Nat.zero_ne_one,Nat.reduceEqDiff,hf,ho,e2,e4,e5,e6,e7,e8,e10,e11,e74,e75,e76,b0,b1,b2,b3,b4,g0,g1,g2,g3,g4,aL,hN,sT,sr]
      generalize hm3:aF.put (aF.put (aF.push m _) _ _) _ _=m3
      have c0:m3.at_ 0=some ⟨[aD PL,aD PD,dv],33,.var,true⟩:=by rw [←hm3];simp [aG,aH,b0,g0]
      have c1:m3.at_ 1=some ⟨[aD W],3,.var,true⟩:=by rw [←hm3];simp [aG,aH,b1,g1]
      have c2:m3.at_ 2=some ⟨[.sl b 0 PR.length PR.length false],31,.var,true⟩:=by rw [←hm3];simp [aG,aH,b2,g2]
      have c3:m3.at_ 3=some ⟨[lv],31,.var,true⟩:=by rw [←hm3];simp [aG,aH,b3,g3]
      have c4:m3.at_ 4=some ⟨[aD 0],28,.var,true⟩:=by rw [←hm3];simp [aG,aH,aD]
      have cn:5≤m3.next:=by rw [←hm3];simp only [aZ,aW];omega
      have co:=hown.out.box (m':=m3) (by rw [←hm3];simp only [aZ,aW];omega) fun j kk h5 hj hk=>by
       rw [←hm3,aG,if_neg (by omega),aG,if_neg (by omega),aH,if_neg (by omega)]
       exact hk
      clear hm3 hown
      have hacc2:=hacc.out
      have hNb:N≤1000000:=by omega
      refine vN (kd := .flat) (y:=16) (zl:=[.int .i64 0,.int .i64 0]) (by kernel_rfl) co.s (by kernel_rfl) (by kernel_rfl) (by kernel_rfl) rfl (hsrc.out m3) (by rw [lW];have:=hlL.out;omega) (by omega) (by omega) ?_
      intro lv' m4 ho' hn' hkp hbk
      have hnb:∀ j,j≤4→cF lv≠some j:=fun j h1 h2=>by have:=co.sb j h2;omega
      have d0:=hkp 0 _ c0 (by omega) (hnb 0 (by omega))
      have d1:=hkp 1 _ c1 (by omega) (hnb 1 (by omega))
      have d2:=hkp 2 _ c2 (by omega) (hnb 2 (by omega))
      have d3:=hkp 3 _ c3 (by omega) (hnb 3 (by omega))
      have d4:=hkp 4 _ c4 (by omega) (hnb 4 (by omega))
      have co2:mU m4 dv PR (.sl b 0 PR.length PR.length false) PR lv' (acc++LR):=co.app (by rw [acT,List.length_append,hlL.out];exact ho') hn' hkp hbk cn
      have ocl:lv'.cells=[lv']∧fK lv'=true:=by
       rcases ho'.form with ⟨rfl,_⟩ | ⟨b,rfl,_⟩
       ·exact ⟨rfl,rfl⟩
       ·exact ⟨rfl,rfl⟩
      obtain ⟨ok1,ok2⟩:=ocl
      replace hkp:=aB.mk hkp
      replace hbk:=aB.mk hbk
      replace co:=aB.mk co
      replace co2:=aB.mk co2
      replace hnb:=aB.mk hnb
      replace ho':=aB.mk ho'
      replace hacc2:=aB.mk hacc2
      simp only [↓pre,simprocAttr,aA,sx,i9,b7,iQ,bne,aC,aJ,aK,aG,aH,aZ,aW,aQ,Nat.one_ne_zero,Nat.zero_ne_one,Nat.reduceEqDiff,hf,ho,e2,e4,e5,e6,e7,e8,e10,e11,e74,e75,e76,d3,ok1,ok2,lT,wl,wi,sr]
      refine ⟨q - 1,by have:=hq.out;omega,i+1,left - N,acc++LR,lv',by have:=hq.out;omega,⟨e4,e5,e6,e7,e8⟩,rfl,rfl,⟨⟨by omega,by omega⟩,⟨?_, ?_, ?_, ?_, ?_⟩,by omega,co2.out.box (by rw [aZ];exact Nat.le_refl _) (fun j kk h5 hj hk=>by rw [aG,if_neg (by omega)];exact hk),hLE.out,by rw [List.append_assoc];exact hLR.out,by rw [List.length_append];have:=hlL.out;have:=hacc2.out;omega⟩⟩
      ·rw [aG,if_neg (by decide)];exact d0
      ·rw [aG,if_neg (by decide)];exact d1
      ·rw [aG,if_neg (by decide)];exact d2
      ·rw [aG,if_pos rfl]
      ·rw [aG,if_neg (by decide)];exact d4
     ·rw [if_neg hE0] at hLE hlf2
      generalize sU k r c w L x (min left LI)=E at *
      replace hLE:=aB.mk hLE
      replace hown:=aB.mk hown
      replace hok:=aB.mk hok
      unfold aO at hlf2
      simp only [↓pre,simprocAttr,aA,sx,i9,b7,iQ,bne,aC,aJ,aK,aG,aH,aZ,aW,aQ,Nat.one_ne_zero,Nat.zero_ne_one,Nat.reduceEqDiff,hf,ho,e2,e4,e5,e6,e7,e8,e10,e11,e74,e75,e76,b0,b1,b2,b3,b4,g0,g1,g2,g3,g4,aI,hlt',hlt,hbb,gb,gb4,ht,htl,sr]
      refine aM (hlf2) (by simp only [aA,aV, *]) ?_;simp only [↓pre,simprocAttr,aA,sx,i9,b7,iQ,bne,aC,aJ,aK,aG,aH,aZ,aW,aQ,Nat.one_ne_zero,Nat.zero_ne_one,Nat.reduceEqDiff,hf,ho,e2,e4,e5,e6,e7,e8,e10,e11,e74,e75,e76,b0,b1,b2,b3,b4,g0,g1,g2,g3,g4,hE0,sr]
      rw [←hLE.out]
      refine acY (d0:=aD PL) (d1:=aD PD) (d2:=dv) (ve:=aD W) (lv := .sl b 0 PR.length PR.length false) (sv:=lv) hE0 ⟨?_, ?_, ?_, ?_, ?_⟩ ⟨e4,e5,e6,e7,e8⟩
      all_goals simp [aG,aH,b0,b1,b2,b3,b4,g0,g1,g2,g3,g4,aD]
    ·have hlt':¬ ((i:Nat):Int) < ((PR.length:Nat):Int):=by omega
     rw [List.drop_of_length_le (by omega)] at hLE hLR
     simp only [sV,pC,List.append_nil] at hLE hLR
     replace hLE:=aB.mk hLE
     replace hLR:=aB.mk hLR
     replace hown:=aB.mk hown
     simp only [↓pre,simprocAttr,aA,sx,i9,b7,iQ,bne,aC,aJ,aK,aG,aH,aZ,aW,aQ,Nat.one_ne_zero,Nat.zero_ne_one,Nat.reduceEqDiff,hf,ho,e2,e4,e5,e6,e7,e8,e10,e11,e74,e75,e76,b0,b1,b2,b3,b4,g0,g1,g2,g3,g4,hlt',sr]
     rw [←hLE.out,←hLR.out]
     exact an1 hown.out ⟨b0,b1,b2,b3,b4⟩ ⟨e4,e5,e6,e7,e8⟩
  ·rw [if_neg hC] at hcr
   rw [if_neg hC]
   unfold oJ aO at hcr
   simp only [aD] at hcr hrw
   replace hrv:=aB.mk hrv
   replace hmn:=aB.mk hmn
   replace hR:=aB.mk hR
   generalize iP k r c w ps=E at *
   simp only [↓pre,simprocAttr,aA,sx,i9,b7,iQ,bne,aC,aJ,aK,aG,aH,aZ,aW,aQ,Nat.one_ne_zero,Nat.zero_ne_one,Nat.reduceEqDiff,hf,ho,sr]
   refine aM (hck) (by simp only [aA,aV, *]) ?_;simp only [↓pre,simprocAttr,aA,sx,i9,b7,iQ,bne,aC,aJ,aK,aG,aH,aZ,aW,aQ,Nat.one_ne_zero,Nat.zero_ne_one,Nat.reduceEqDiff,hf,ho,h1,h2,hoR,hsr,hC,sr];refine aM (hrw) (by simp only [aA,aV, *]) ?_;simp only [↓pre,simprocAttr,aA,sx,i9,b7,iQ,bne,aC,aJ,aK,aG,aH,aZ,aW,aQ,Nat.one_ne_zero,Nat.zero_ne_one,Nat.reduceEqDiff,hf,ho,h1,h2,hoR,hsr,hC,sr];refine aM (hcr) (by simp only [aA,aV, *]) ?_;simp only [↓pre,simprocAttr,aA,sx,i9,b7,iQ,bne,aC,aJ,aK,aG,aH,aZ,aW,aQ,Nat.one_ne_zero,Nat.zero_ne_one,Nat.reduceEqDiff,hf,ho,h1,h2,hoR,hsr,hC,sr]
   exact acY hC ⟨rfl,rfl,rfl,rfl,rfl⟩ ⟨rfl,rfl,rfl,rfl,rfl⟩
 ·have hRE:iM k r c w L row=if kH k r c w L=0 then (if row < 0∨w≤row then 2 else 0) else kH k r c w L:=rfl
  rw [if_neg hR]
  refine akg follows Tryz.func59 (by unfold Tryz.f59;rfl) (by unfold Tryz.f59;simp) iQ (by unfold Tryz.f59;simp) (by kernel_rfl) (by kernel_rfl) (by unfold Tryz.f59;decide) (by kernel_rfl) ?_
  unfold af1 Tryz.f59
  by_cases hE:kH k r c w L=0
  ·rw [if_pos hE] at hRE
   rw [hE] at hck
   have hrow:row < 0∨w≤row:=by
    by_cases h:row < 0∨w≤row
    ·exact h
    ·rw [if_neg h] at hRE;exact absurd hRE hR
   rw [if_pos hrow] at hRE
   rw [hRE] at *
   by_cases h1:row < 0
   ·simp only [↓pre,simprocAttr,aA,sx,i9,b7,iQ,bne,aC,aJ,aK,aG,aH,aZ,aW,aQ,Nat.one_ne_zero,Nat.zero_ne_one,Nat.reduceEqDiff,hf,ho,sr]
    refine aM (hck) (by simp only [aA,aV, *]) ?_;simp only [↓pre,simprocAttr,aA,sx,i9,b7,iQ,bne,aC,aJ,aK,aG,aH,aZ,aW,aQ,Nat.one_ne_zero,Nat.zero_ne_one,Nat.reduceEqDiff,hf,ho,h1,sr]
    exact acY (E:=2) (by decide) ⟨rfl,rfl,rfl,rfl,rfl⟩ ⟨rfl,rfl,rfl,rfl,rfl⟩
   ·have h2:w≤row:=by omega
    simp only [↓pre,simprocAttr,aA,sx,i9,b7,iQ,bne,aC,aJ,aK,aG,aH,aZ,aW,aQ,Nat.one_ne_zero,Nat.zero_ne_one,Nat.reduceEqDiff,hf,ho,sr]
    refine aM (hck) (by simp only [aA,aV, *]) ?_;simp only [↓pre,simprocAttr,aA,sx,i9,b7,iQ,bne,aC,aJ,aK,aG,aH,aZ,aW,aQ,Nat.one_ne_zero,Nat.zero_ne_one,Nat.reduceEqDiff,hf,ho,h1,h2,sr]
    exact acY (E:=2) (by decide) ⟨rfl,rfl,rfl,rfl,rfl⟩ ⟨rfl,rfl,rfl,rfl,rfl⟩
  ·rw [if_neg hE] at hRE
   rw [hRE]
   simp only [↓pre,simprocAttr,aA,sx,i9,b7,iQ,bne,aC,aJ,aK,aG,aH,aZ,aW,aQ,Nat.one_ne_zero,Nat.zero_ne_one,Nat.reduceEqDiff,hf,ho,sr]
   refine aM (hck) (by simp only [aA,aV, *]) ?_;simp only [↓pre,simprocAttr,aA,sx,i9,b7,iQ,bne,aC,aJ,aK,aG,aH,aZ,aW,aQ,Nat.one_ne_zero,Nat.zero_ne_one,Nat.reduceEqDiff,hf,ho,hE,sr]
   exact acY hE ⟨rfl,rfl,rfl,rfl,rfl⟩ ⟨rfl,rfl,rfl,rfl,rfl⟩
theorem auP (k r c w row:Int) (v:AV) (L:List (List UInt8)) (cells:List AV) (hv:gI v L cells):aX Tryz.prog 59 [d5 k r c w v,aD row] ⟨ahv k r c w L row,[]⟩:=eA (pX (an2 k r c w row v L cells hv) fun a m h=>⟨1,by
 unfold ahv
 rcases h with ⟨h,dv,lv,sv,rfl,ho⟩ | ⟨h,rfl⟩
 ·rw [if_pos h]
  unfold rA sW
  simp [j6,aaO,dY,tY ho.d,tY ho.l,tY ho.s,i7,aD,fZ]
 ·rw [if_neg h]
  exact auM auN (b8 _) (b8 _) (b8 _) (b8 _) 1 m⟩)
def auQ (k r c w:Int) (L:List (List UInt8)) (x:bP):Bool:=decide (jU k r c w (eW k r w L x.1) 1 x.2 < k.toNat)
def auR (W fr to i:Nat):Bool:=decide (max fr (i*W) < min to ((i+1)*W))
def cutE (k r c w:Int) (L:List (List UInt8)) (l:List bP) (fr to:Nat):Int:=if (List.range l.length).any (fun i=>auR (wI k c).toNat fr to i && auQ k r c w L (l.getD i (0,0)))=true then 5 else 0
theorem auS {w:Int} {l:List bP} (h:jW w l=true):∀ x∈l,jV w x=true:=fun x hx=>List.all_eq_true.1 h x hx
theorem an3 {k r c w : Int} {L : List (List UInt8)} (hk : lI k c ≤ 128) : ∀ (l : List bP) (n : Int), sV k r c w L l n = 0 → (∀ x ∈ pC k r c w L l n, jV w x = true) ∧ (pC k r c w L l n).length ≤ l.length * 128
 | [], n, _ => ⟨fun x hx => by simp [pC] at hx, by simp [pC]⟩
 | y :: l, n, h => by
   unfold sV at h
   split at h
   · rename_i h1
     obtain ⟨h2, h3⟩ := an3 hk l _ h
     obtain ⟨hn1, hn2⟩ := ahu h1
     unfold pC
     refine ⟨fun x hx => ?_, ?_⟩
     · rcases List.mem_append.1 hx with hx | hx
       · unfold sU at h1
         split at h1
         · omega
         · unfold rE at h1
           split at h1
           · omega
           · split at h1
             · rename_i h4
               exact auS h4.1 x hx
             · omega
       · exact h2 x hx
     · rw [List.length_append, aht, List.length_cons]
       omega
   · contradiction
theorem yD {k r c w:Int} {L:List (List UInt8)} {row:Int} (h:gM k r c w L row=0):kH k r c w L=0∧iM k r c w L row=0∧iP k r c w (eW k r w L row)=0∧(∀ x∈hU k r c w L row,jV w x=true)∧(hU k r c w L row).length≤20000∧0≤dK (dU k r c w L row)∧dK (dU k r c w L row)≤32768:=by
 unfold gM at h
 split at h
 ·rename_i hR
  split at h
  ·rename_i hC
   have hD:=abH hC
   obtain ⟨hl0,hl1,hdep,hll,hlr⟩:=wM hD
   obtain ⟨hrb,hm⟩:=yB hR
   have hw:=gZ hm
   have hdb:=vX hw.1 hw.2
   have hlb:=tN hw.1 hw.2
   have hE:kH k r c w L=0:=by
    unfold iM at hR
    split at hR
    ·assumption
    ·assumption
   refine ⟨hE,hR,hC, ?_⟩
   have hPR:(cS (dU k r c w L row)).length≤126:=by unfold dI at hll;unfold dU;omega
   have hre:∀ x∈cS (dU k r c w L row),jV w x=true:=fun x hx=>by
    have:=hlr x hx
    unfold jV
    exact decide_eq_true this
   unfold hU
   split at h
   ·rename_i hd
    rw [if_pos hd]
    exact ⟨hre,by omega,hl0,hl1⟩
   ·rename_i hd
    rw [if_neg hd]
    obtain ⟨h1,h2⟩:=an3 (by unfold lI;omega) _ _ h
    exact ⟨h1,by omega,hl0,hl1⟩
  ·contradiction
 ·contradiction

theorem acZ {P:Program} {t:TypeId} {x y:Operand} {a b:List UInt8}:dV P .neq t x y (n9 a) (n9 b)=some (.val (.bool (!decide (a=b)))):=by
 rw [←anz]
 exact af2
section
variable {k r c w:Int} {L:List (List UInt8)} {l:List bP}
end
def pE (a b:Nat):Nat→Nat
 | 0=>0
 | i+1=>if b.testBit i then pE a b i ^^^ (a <<< i) else pE a b i
def oK (x:Nat):Nat→Nat
 | 0=>x
 | j+1=>oK (if x.testBit (8+j) then x ^^^ (285 <<< j) else x) j
theorem an4:∀ (j x y:Nat),oK (x ^^^ y) j=oK x j ^^^ oK y j
 | 0,x,y=>rfl
 | j+1,x,y=>by
  have e:∀ z:Nat,oK z (j+1)=oK (if z.testBit (8+j) then z ^^^ (285 <<< j) else z) j:=fun z=>rfl
  rw [e,e,e,←an4 j]
  congr 1
  rw [Nat.testBit_xor]
  cases x.testBit (8+j) <;> cases y.testBit (8+j)
  ·rfl
  ·show (x ^^^ y) ^^^ _=x ^^^ (y ^^^ _)
   rw [Nat.xor_assoc]
  ·show (x ^^^ y) ^^^ _=(x ^^^ _) ^^^ y
   rw [Nat.xor_assoc,Nat.xor_assoc,Nat.xor_comm y]
  ·show x ^^^ y=(x ^^^ (285 <<< j)) ^^^ (y ^^^ (285 <<< j))
   rw [Nat.xor_assoc,←Nat.xor_assoc (285 <<< j),Nat.xor_comm (285 <<< j) y,Nat.xor_assoc y,Nat.xor_self,Nat.xor_zero]
def an5:Bool:=(List.range 256).all fun a=>(List.range 8).all fun i=>oK (a <<< i) 7 == gmul a (2 ^ i)
theorem auT:an5=true:=by kernel_rfl
theorem auU {a i:Nat} (ha:a < 256) (hi:i < 8):oK (a <<< i) 7=gmul a (2 ^ i):=by
 have h:=auT
 unfold an5 at h
 rw [List.all_eq_true] at h
 have h2:=h a (List.mem_range.2 ha)
 rw [List.all_eq_true] at h2
 simpa using h2 i (List.mem_range.2 hi)
theorem auV {b i:Nat}:b % 2 ^ (i+1)=if b.testBit i then (b % 2 ^ i) ^^^ 2 ^ i else b % 2 ^ i:=by
 refine Nat.eq_of_testBit_eq fun j => ?_
 cases hb:b.testBit i with
 | true =>
  rw [if_pos rfl,Nat.testBit_xor,Nat.testBit_mod_two_pow,Nat.testBit_mod_two_pow,Nat.testBit_two_pow]
  by_cases h1:j=i
  ·subst h1
   simp [hb]
  ·have h2:¬ i=j:=fun e=>h1 e.symm
   by_cases h3:j < i
   ·simp [h2,h3,show j < i+1 by omega]
   ·simp [h2,h3,show ¬ j < i+1 by omega]
 | false =>
  rw [if_neg (by decide),Nat.testBit_mod_two_pow,Nat.testBit_mod_two_pow]
  by_cases h1:j=i
  ·subst h1
   simp [hb]
  ·by_cases h3:j < i
   ·simp [h3,show j < i+1 by omega]
   ·simp [h3,show ¬ j < i+1 by omega]
theorem an6 {a b:Nat} (ha:a < 256):∀ i,i≤8→oK (pE a b i) 7=gmul a (b % 2 ^ i)
 | 0,_=>by
  show oK 0 7=gmul a (b % 1)
  rw [Nat.mod_one]
  unfold gmul
  rw [ag2]
  rfl
 | i+1,h=>by
  have ih:=an6 (b:=b) ha i (by omega)
  rw [auV]
  unfold pE
  split
  ·rw [an4,ih,auU ha (by omega)]
   unfold gmul
   rw [agM]
  ·exact ih
theorem auW {a b:Nat} (ha:a < 256) (hb:b < 256):oK (pE a b 8) 7=gmul a b:=by
 rw [an6 ha 8 (Nat.le_refl _),Nat.mod_eq_of_lt hb]
theorem an7 {a b:Nat} (ha:a < 256):∀ i,i≤8→pE a b i < 2 ^ 15
 | 0,_=>by show 0 < _;decide
 | i+1,h=>by
  have ih:=an7 (b:=b) ha i (by omega)
  unfold pE
  split
  ·refine Nat.xor_lt_two_pow ih ?_
   rw [Nat.shiftLeft_eq]
   have:2 ^ i≤2 ^ 7:=Nat.pow_le_pow_right (by decide) (by omega)
   calc a*2 ^ i≤a*2 ^ 7:=Nat.mul_le_mul_left _ this
    _ < 2 ^ 15:=by omega
  ·exact ih
section
variable {P:Program} {t:TypeId} {x y:Operand} {k yk:IntKind} {a:Int}
theorem yE {n:Nat}:dV P .shr t x y (.val (.int k a)) (.val (.int yk (n:Nat)))=some (.val (.int k (a / 2 ^ min n k.bits))):=by
 have h1:¬ ((n:Nat):Int) < 0:=by omega
 have h3:a.fdiv (2 ^ min n k.bits)=a / 2 ^ min n k.bits:=Int.fdiv_eq_ediv_of_nonneg _ (Int.le_of_lt (Int.pow_pos (by decide)))
 simp only [dV,qN,eqGuard,binOp,Op.shift,h1,Int.toNat_natCast,cT,Bind.bind,Sem.bind,Pure.pure,if_false,h3]
 simp [cT,Sem.bind]
theorem yF {n:Nat}:dV P .shl t x y (.val (.int k a)) (.val (.int yk (n:Nat)))=some (.val (.int k (k.wrap (a*2 ^ min n k.bits)))):=by
 have h1:¬ ((n:Nat):Int) < 0:=by omega
 simp only [dV,qN,eqGuard,binOp,Op.shift,h1,Int.toNat_natCast,cT,Bind.bind,Sem.bind,Pure.pure,if_false]
 simp [cT,Sem.bind]
end
theorem aeY {n:Nat} (h:n < 4294967296):IntKind.u32.wrap (n:Int)=(n:Int):=by
 simp [IntKind.wrap,IntKind.bits,IntKind.signed]
 omega
theorem an8 {a b:Nat} (ha:a < 4294967296) (hb:b < 4294967296):vL .u32 a b=((a ^^^ b:Nat):Int):=by
 have h:a ^^^ b < 4294967296:=Nat.xor_lt_two_pow (n:=32) ha hb
 unfold vL
 rw [uE,uE,BitVec.toNat_xor,BitVec.toNat_ofNat,BitVec.toNat_ofNat]
 simp only [IntKind.bits]
 rw [Nat.mod_eq_of_lt (by omega),Nat.mod_eq_of_lt (by omega)]
 exact aeY h
theorem auX {a:Nat} (ha:a < 4294967296):rT .u32 a 1=((a % 2:Nat):Int):=by
 unfold rT
 rw [show (1:Int)=((1:Nat):Int) from rfl,uE,uE,BitVec.toNat_and,BitVec.toNat_ofNat,BitVec.toNat_ofNat]
 simp only [IntKind.bits]
 rw [Nat.mod_eq_of_lt (by omega),Nat.mod_eq_of_lt (by omega),Nat.and_one_is_mod]
 exact aeY (by omega)
theorem an9 (n i b:Nat) (h:i≤b):((n:Nat):Int) / 2 ^ min i b=((n / 2 ^ i:Nat):Int):=by
 rw [Nat.min_eq_left h]
 simp
theorem auY {n i:Nat} (hn:n < 4294967296) (hi:i≤32):rT .u32 (((n:Nat):Int) / 2 ^ min i 32) 1=if n.testBit i then 1 else 0:=by
 rw [an9 _ _ _ hi,auX (Nat.lt_of_le_of_lt (Nat.div_le_self _ _) hn),Nat.testBit_eq_decide_div_mod_eq]
 by_cases h:n / 2 ^ i % 2=1
 ·rw [decide_eq_true h,h];rfl
 ·rw [decide_eq_false h,show n / 2 ^ i % 2=0 by omega];rfl
theorem auZ {n i:Nat} (hn:n < 256) (hi:i≤8):rT .u8 (((n:Nat):Int) / 2 ^ min i 8) 1=if n.testBit i then 1 else 0:=by
 have h1:n / 2 ^ i < 256:=Nat.lt_of_le_of_lt (Nat.div_le_self _ _) hn
 have h2:=aez (UInt8.ofNat (n / 2 ^ i)) 1
 rw [mD h1,UInt8.toNat_and,mD h1,show ((1:UInt8).toNat:Int)=1 from rfl,show (1:UInt8).toNat=1 from rfl,Nat.and_one_is_mod] at h2
 rw [an9 _ _ _ hi,h2,Nat.testBit_eq_decide_div_mod_eq]
 by_cases h:n / 2 ^ i % 2=1
 ·rw [decide_eq_true h,h];rfl
 ·rw [decide_eq_false h,show n / 2 ^ i % 2=0 by omega];rfl
theorem aoa {n i:Nat} (hn:n < 512) (hi:i≤8):IntKind.u32.wrap (((n:Nat):Int)*2 ^ min i 32)=((n <<< i:Nat):Int):=by
 have h:n*2 ^ i < 4294967296:=by
  have:2 ^ i≤2 ^ 8:=Nat.pow_le_pow_right (by decide) hi
  have:=Nat.mul_le_mul (Nat.le_of_lt hn) this
  omega
 rw [Nat.min_eq_left (by omega),Nat.shiftLeft_eq,show ((n:Nat):Int)*2 ^ i=((n*2 ^ i:Nat):Int) by simp,aeY h]
theorem ahw {n:Nat} (h:n < 18446744073709551616):IntKind.u64.wrap (n:Int)=(n:Int):=by
 simp [IntKind.wrap,IntKind.bits,IntKind.signed]
 omega
theorem au0 {a b:Nat} (ha:a < 256) (hb:b < 256):oK (pE a b 8) 7=gmul a b:=auW ha hb
theorem aeZ (a b:UInt8):aX Tryz.prog 351 [aU a,aU b] ⟨aU (aR a b),[]⟩:=by
 have ha:=jD a
 have hb:=jD b
 have hwa:IntKind.u32.wrap ((a.toNat:Nat):Int)=(a.toNat:Nat):=aeY (by omega)
 have hrd:=au0 ha hb
 have hgl:=aer ha hb
 have hcl:=fun i h=>an7 (b:=b.toNat) ha (i:=i) h
 replace hcl:=aB.mk hcl
 replace hrd:=aB.mk hrd
 refine bE follows Tryz.func351 (by unfold Tryz.f351;rfl) (by unfold Tryz.f351;simp) aE (by unfold Tryz.f351;simp) (by kernel_rfl) ?_;unfold Tryz.f351
 simp only [↓pre,simprocAttr,aA,sx,xW,aE,c8,aL,aU,dH,cW,eq_self,IntKind.bits,yE,yF,hwa]
 rw [b9]
 refine xE (fun e m=>e 5 = .val (.int .u32 ((pE a.toNat b.toNat 8:Nat):Int))) (fun e m e5 => ?_) ?_
 ·have h8:=hcl.out 8 (Nat.le_refl _)
  generalize pE a.toNat b.toNat 8=X at *
  simp only [↓pre,simprocAttr,aA,sx,xW,aE,c8,aL,aU,dH,cW,eq_self,IntKind.bits,yE,yF,hwa,e5]
  rw [b9]
  refine cA (fun q e m=>∃ x,e 5 = .val (.int .u32 ((x:Nat):Int))∧e 7=aD ((7+q:Nat):Int)∧aB (q≤7)∧aB (x < 2 ^ 15∧oK x q=oK X 7)) 7 ⟨X,e5,rfl,⟨Nat.le_refl _⟩,⟨h8,rfl⟩⟩ ?_
  clear e5
  rintro q e m ⟨x,e5,e7,hq7,hJ⟩
  by_cases h0:q=0
  ·subst h0
   have hlt':¬ (8:Int)≤((7+0:Nat):Int):=by omega
   have hx:x=gmul a.toNat b.toNat:=by rw [←hrd.out,←hJ.out.2];rfl
   subst hx
   have hw:=x5 hgl
   rw [show UInt8.ofNat (gmul a.toNat b.toNat)=aR a b from rfl] at hw
   simp only [↓pre,simprocAttr,aA,sx,xW,aE,c8,aL,aU,dH,cW,eq_self,IntKind.bits,yE,yF,hwa,e5,e7,hlt',hw]
  ·obtain ⟨j,rfl⟩:∃ j,q=j+1:=⟨q - 1,by omega⟩
   rw [show 7+(j+1)=8+j by omega] at e7
   obtain ⟨hx,hr⟩:=hJ.out
   have hj:j≤6:=by have:=hq7.out;omega
   have hlt':(8:Int)≤((8+j:Nat):Int):=by omega
   have w1:IntKind.u64.wrap ((8+j:Nat):Int)=((8+j:Nat):Int):=ahw (by omega)
   have w2:IntKind.i64.wrap (((8+j:Nat):Int) - 8)=((j:Nat):Int):=by rw [eD (by omega) (by omega)];omega
   have w3:IntKind.u64.wrap ((j:Nat):Int)=((j:Nat):Int):=ahw (by omega)
   have w4:IntKind.i64.wrap (((8+j:Nat):Int) - 1)=((7+j:Nat):Int):=by rw [eD (by omega) (by omega)];omega
   have hbt:=auY (n:=x) (i:=8+j) (by omega) (by omega)
   have hsh:IntKind.u32.wrap (285*2 ^ min j 32)=((285 <<< j:Nat):Int):=aoa (n:=285) (i:=j) (by omega) (by omega)
   have hal:285 <<< j < 2 ^ 15:=by
    rw [Nat.shiftLeft_eq]
    have:2 ^ j≤2 ^ 6:=Nat.pow_le_pow_right (by decide) hj
    omega
   have hxo:=an8 (a:=x) (b:=285 <<< j) (by omega) (by omega)
   have hxl:x ^^^ (285 <<< j) < 2 ^ 15:=Nat.xor_lt_two_pow hx hal
   have hs:oK x (j+1)=oK (if x.testBit (8+j) then x ^^^ (285 <<< j) else x) j:=rfl
   rw [hr] at hs
   cases hbi:x.testBit (8+j) with
   | true =>
    rw [hbi,if_pos rfl] at hbt hs
    replace hs:=aB.mk hs
    replace hr:=aB.mk hr
    replace hx:=aB.mk hx
    replace hxl:=aB.mk hxl
    simp only [↓pre,simprocAttr,aA,sx,xW,aE,c8,aL,aU,dH,cW,eq_self,IntKind.bits,yE,yF,hwa,e5,e7,hlt',hbt,hsh,hxo,w1,w2,w3,w4]
    exact ⟨j,by omega,_,rfl,rfl,⟨by have:=hq7.out;omega⟩,⟨hxl.out,hs.out.symm⟩⟩
   | false =>
    rw [hbi,if_neg (by decide)] at hbt hs
    have h01:¬ (0:Int)=1:=by decide
    replace hs:=aB.mk hs
    replace hr:=aB.mk hr
    replace hx:=aB.mk hx
    replace hxl:=aB.mk hxl
    simp only [↓pre,simprocAttr,aA,sx,xW,aE,c8,aL,aU,dH,cW,eq_self,IntKind.bits,yE,yF,hwa,e5,e7,hlt',hbt,h01,w1,w2,w3,w4]
    exact ⟨j,by omega,_,rfl,rfl,⟨by have:=hq7.out;omega⟩,⟨hx.out,hs.out.symm⟩⟩
 ·refine cA (fun q e m=>∃ i,q+i=8∧e 0=aU a∧e 1=aU b∧e 5 = .val (.int .u32 ((pE a.toNat b.toNat i:Nat):Int))∧e 6 = .val (.int .u64 (i:Nat))) 8 ⟨0,by omega,rfl,rfl,rfl,rfl⟩ ?_
  rintro q e m ⟨i,hq,e0,e1,e5,e6⟩
  by_cases hlt:i < 8
  ·have hlt':((i:Nat):Int) < 8:=by omega
   have hbt:=auZ hb (Nat.le_of_lt hlt)
   have hsh:=aoa (n:=a.toNat) (i:=i) (by omega) (by omega)
   have hX:=hcl.out i (by omega)
   have hs:pE a.toNat b.toNat (i+1)=if b.toNat.testBit i then pE a.toNat b.toNat i ^^^ (a.toNat <<< i) else pE a.toNat b.toNat i:=rfl
   have hal:a.toNat <<< i < 4294967296:=by
    rw [Nat.shiftLeft_eq]
    have:2 ^ i≤2 ^ 8:=Nat.pow_le_pow_right (by decide) (by omega)
    have:=Nat.mul_le_mul (Nat.le_of_lt ha) this
    omega
   have hxo:=an8 (a:=pE a.toNat b.toNat i) (b:=a.toNat <<< i) (by omega) hal
   have w6:IntKind.u64.wrap (((i:Nat):Int)+1)=((i+1:Nat):Int):=ahw (n:=i+1) (by omega)
   cases hbi:b.toNat.testBit i with
   | true =>
    rw [hbi,if_pos rfl] at hbt hs
    rw [←hs] at hxo
    replace hs:=aB.mk hs
    replace hbi:=aB.mk hbi
    simp only [↓pre,simprocAttr,aA,sx,xW,aE,c8,aL,aU,dH,cW,eq_self,IntKind.bits,yE,yF,hwa,e0,e1,e5,e6,hlt',hbt,hsh,hxo,w6]
    exact ⟨q - 1,by omega,i+1,by omega,rfl,rfl⟩
   | false =>
    rw [hbi,if_neg (by decide)] at hbt hs
    rw [←hs] at e5
    replace hs:=aB.mk hs
    replace hbi:=aB.mk hbi
    have h01:¬ (0:Int)=1:=by decide
    simp only [↓pre,simprocAttr,aA,sx,xW,aE,c8,aL,aU,dH,cW,eq_self,IntKind.bits,yE,yF,hwa,e0,e1,e5,e6,hlt',hbt,h01,w6]
    exact ⟨q - 1,by omega,i+1,by omega,rfl,rfl⟩
  ·have hlt':¬ ((i:Nat):Int) < 8:=by omega
   have hi:i=8:=by omega
   subst hi
   simp only [↓pre,simprocAttr,aA,sx,xW,aE,c8,aL,aU,dH,cW,eq_self,IntKind.bits,yE,yF,hwa,e0,e1,e5,e6,hlt']
theorem au1 {a b:UInt8} (h:aR a b=1):a≠0∧b=cR a:=by
 have ha:a≠0:=fun e=>by rw [e,tS] at h;exact absurd h (by decide)
 exact ⟨ha,acN ha (h.trans (qG ha).symm)⟩
theorem aob (a:UInt8):aX Tryz.prog 349 [aU a] ⟨.tup [aU (if a=0 then 0 else cR a),aD (if a=0 then 10 else 0)],[]⟩:=by
 have hm:=aeZ a
 refine bE follows Tryz.func349 (by unfold Tryz.f349;rfl) (by unfold Tryz.f349;simp) aE (by unfold Tryz.f349;simp) (by kernel_rfl) ?_;unfold Tryz.f349
 simp only [↓pre,simprocAttr,aA,sx,abc,aE,c8,aL,aU,dH,cW,eq_self]
 rw [b9]
 refine cA (fun q e m=>∃ b,q+b=256∧1≤b∧e 0=aU a∧e 4=aD (b:Nat)∧aB (∀ j,1≤j→j < b→aR a (UInt8.ofNat j)≠1)) 255 ⟨1,by omega,by omega,rfl,rfl,⟨fun j h1 h2=>by omega⟩⟩ ?_
 rintro q e m ⟨b,hq,hb1,e0,e4,hJ⟩
 by_cases hlt:b < 256
 ·have hlt':((b:Nat):Int) < 256:=by omega
  have hw:=x5 hlt
  have wi:=cI (n:=b) (by omega)
  have hmb:=hm (UInt8.ofNat b)
  by_cases h1:aR a (UInt8.ofNat b)=1
  ·obtain ⟨ha,hi⟩:=au1 h1
   have h1':((aR a (UInt8.ofNat b)).toNat:Int)=1:=by rw [h1];rfl
   rw [hi] at hw hmb h1'
   simp only [↓pre,simprocAttr,aA,sx,abc,aE,c8,aL,aU,dH,cW,eq_self,e0,e4,hlt',hw]
   refine aM (hmb) (by rfl) ?_;simp only [↓pre,simprocAttr,aA,sx,abc,aE,c8,aL,aU,dH,cW,eq_self,e0,e4,hw,h1']
   simp [ha]
  ·have h1':¬ ((aR a (UInt8.ofNat b)).toNat:Int)=1:=fun h=>h1 (UInt8.toNat_inj.1 (by show _=1;omega))
   simp only [↓pre,simprocAttr,aA,sx,abc,aE,c8,aL,aU,dH,cW,eq_self,e0,e4,hlt',hw]
   refine aM (hmb) (by rfl) ?_;simp only [↓pre,simprocAttr,aA,sx,abc,aE,c8,aL,aU,dH,cW,eq_self,e0,e4,h1',wi]
   refine ⟨q - 1,by omega,b+1,by omega,by omega,rfl,⟨fun j h2 h3 => ?_⟩⟩
   by_cases e:j=b
   ·subst e;exact h1
   ·exact hJ.out j h2 (by omega)
 ·have hlt':¬ ((b:Nat):Int) < 256:=by omega
  have ha:a=0:=Decidable.byContradiction fun ha=>by
   refine hJ.out (cR a).toNat ?_ (by have:=jD (cR a);omega) ?_
   ·have:(cR a).toNat≠0:=fun h=>aet ha (UInt8.toNat_inj.1 h)
    omega
   ·rw [UInt8.ofNat_toNat,qG ha]
  subst ha
  simp only [↓pre,simprocAttr,aA,sx,abc,aE,c8,aL,aU,dH,cW,eq_self,e0,e4,hlt']
  all_goals rfl
theorem aoc (a b:UInt8):aX Tryz.prog 337 [aU a,aU b] ⟨.tup [aU (if b=0 then 0 else aR a (cR b)),aD (if b=0 then 10 else 0)],[]⟩:=by
 have hi:=aob b
 have hm:=aeZ a (cR b)
 refine bE follows Tryz.func337 (by unfold Tryz.f337;rfl) (by unfold Tryz.f337;simp) aE (by unfold Tryz.f337;simp) (by kernel_rfl) ?_;unfold Tryz.f337
 simp only [↓pre,simprocAttr,aA,sx,aed,aE,c8,aL,aU,dH,cW,eq_self]
 by_cases hb:b=0
 ·simp only [if_pos hb] at hi ⊢
  refine aM (hi) (by rfl) ?_;simp only [↓pre,simprocAttr,aA,sx,aed,aE,c8,aL,aU,dH,cW,eq_self]
  all_goals rfl
 ·simp only [if_neg hb] at hi ⊢
  replace hb:=aB.mk hb
  refine aM (hi) (by rfl) ?_;simp only [↓pre,simprocAttr,aA,sx,aed,aE,c8,aL,aU,dH,cW,eq_self];refine aM (hm) (by rfl) ?_;simp only [↓pre,simprocAttr,aA,sx,aed,aE,c8,aL,aU,dH,cW,eq_self]
theorem ac0 {w i:Nat} (F G:Nat→UInt8) (hi:i < w):List.take i (bA w fun j=>if j < i then F j else G j)++[AV.val (.int .u8 ((F i).toNat:Int))]++List.drop (i+1) (bA w fun j=>if j < i then F j else G j)=bA w fun j=>if j < i+1 then F j else G j:=by
 have h:=x4 (w:=w) (f:=fun j=>if j < i then F j else G j) (g:=fun j=>if j < i+1 then F j else G j) hi fun j hj=>by
  by_cases e:j=i
  ·subst e;rw [if_pos rfl]
  ·rw [if_neg e]
   by_cases e2:j < i
   ·rw [if_pos e2,if_pos (by omega)]
   ·rw [if_neg e2,if_neg (by omega)]
 simp only [show i < i+1 by omega,if_true] at h
 exact h
theorem ahx {w:Nat} (F G:Nat→UInt8):(bA w fun j=>if j < w then F j else G j)=bA w F:=sF fun x hx=>by rw [if_pos hx]
def wO:Nat→Bool:=fun d=>d != 44
theorem au2 (va vb:AV) (n:Nat) (A B:Nat→UInt8) (c:UInt8) (xa xb:List AV) (hA:bC va n (bA n A++xa)) (hB:bC vb n (bA n B++xb)) (hn:n≤65536):aX Tryz.prog 338 [va,aU c,vb] ⟨.tree n n (bA n (fun j=>A j ^^^ aR c (B j))) true,[]⟩:=by
 refine eA ?_
 have hm:=aeZ c
 have hp:=hA.plain
 have hq:=hB.plain
 have hmk:=fun m n h=>sH m (n:=n) h
 simp only [aU] at hm
 have mk1:=fun m=>sH m (n:=256) (by omega)
 have mk2:=fun m=>sH m (n:=n) hn
 refine bZ follows Tryz.func338 (by unfold Tryz.f338;rfl) (by unfold Tryz.f338;simp) wO (by unfold Tryz.f338;simp) (by kernel_rfl) ?_;unfold Tryz.f338
 simp only [↓pre,simprocAttr,aA,sx,xV,wO,bne,aC,aI,aL,c8,aJ,aK,aG,aH,cG,aU,mk1,mk2,sr]
 rw [b9]
 refine xE (fun e m=>e 0=va∧e 2=vb∧e 7 = .sl 0 0 256 256 true∧m.at_ 0=some ⟨bA 256 (fun i=>aR c (UInt8.ofNat i)),5,.flat,true⟩∧0 < m.next) (fun e m hR => ?_) ?_
 ·obtain ⟨e0,e2,e7,hT,hnx⟩:=hR
  generalize hTT:(bA 256 fun i=>aR c (UInt8.ofNat i))=T at *
  have hTat:∀ z:UInt8,T[z.toNat]? = some (.val (.int .u8 (aR c z).toNat)):=fun z=>by
   rw [←hTT,iN (w:=256) (fun i=>aR c (UInt8.ofNat i)) z.toNat_lt,UInt8.ofNat_toNat]
   rfl
  have hTl:∀ z:UInt8,z.toNat < 256:=fun z=>z.toNat_lt
  have hbx:=fun a b:UInt8=>abp a b
  simp only [↓pre,simprocAttr,aA,sx,xV,wO,bne,aC,aI,aL,c8,aJ,aK,aG,aH,cG,aU,mk1,mk2,e0,e2,e7,hA.len',sr]
  rw [b9]
  refine cA (fun q e m'=>∃ j,q+j=n∧e 0=va∧e 2=vb∧e 7 = .sl 0 0 256 256 true∧e 9 = .sl m.next 0 n n true∧e 10=aD (j:Nat)∧aB (m'.at_ 0=some ⟨T,5,.flat,true⟩∧m'.at_ m.next=some ⟨bA n (fun j'=>if j' < j then A j' ^^^ aR c (B j') else 0),5,.flat,true⟩)) n ⟨0,by omega,e0,e2,e7,rfl,rfl,⟨by rw [aH,if_neg (by omega)];exact hT,by rw [aH,if_pos rfl];rfl⟩⟩ ?_
  clear e0 e2 e7
  rintro q e m' ⟨j,hq,e0,e2,e7,e9,e10,hJ⟩
  replace hq:=aB.mk hq
  by_cases hlt:j < n
  ·have hlt':((j:Nat):Int) < ((n:Nat):Int):=by omega
   have w1:=cI (n:=j) (by omega)
   obtain ⟨h1,h2⟩:=hJ.out
   have hcA:(bA n A++xa)[j]? = some (aU (A j)):=by rw [List.getElem?_append_left (by rw [fC];omega)];exact iN A hlt
   have hcB:(bA n B++xb)[j]? = some (aU (B j)):=by rw [List.getElem?_append_left (by rw [fC];omega)];exact iN B hlt
   have hput:=ac0 (fun j'=>A j' ^^^ aR c (B j')) (fun _=>0) hlt
   have hTj:=hTat (B j)
   have hTl':=hTl (B j)
   have hxj:=hbx (A j) (aR c (B j))
   have hl1:j+1≤(bA n fun j'=>if j' < j then A j' ^^^ aR c (B j') else 0).length:=by rw [fC];omega
   simp only [aU] at hcA hcB
   simp only [↓pre,simprocAttr,aA,sx,xV,wO,bne,aC,aI,aL,c8,aJ,aK,aG,aH,cG,aU,mk1,mk2,e0,e2,e7,e9,e10,hlt',hlt,hA.len',hA.addr',hB.addr',hcA,hcB,h1,h2,hTj,hTl',hxj,hl1,hput,sr]
   refine dJ (by kernel_rfl) ?_
   simp only [↓pre,simprocAttr,aA,sx,xV,wO,bne,aC,aI,aL,c8,aJ,aK,aG,aH,cG,aU,mk1,mk2,e0,e2,e7,e9,e10,w1,sr]
   exact ⟨q - 1,by have:=hq.out;omega,j+1,by have:=hq.out;omega,rfl,⟨by rw [if_neg (by omega)];exact h1,rfl⟩⟩
  ·have hlt':¬ ((j:Nat):Int) < ((n:Nat):Int):=by omega
   have hj:j=n:=by have:=hq.out;omega
   subst hj
   obtain ⟨h1,h2⟩:=hJ.out
   rw [ahx] at h2
   simp only [↓pre,simprocAttr,aA,sx,xV,wO,bne,aC,aI,aL,c8,aJ,aK,aG,aH,cG,aU,mk1,mk2,e0,e2,e7,e9,e10,hlt',hA.len',sr]
   exact ⟨0,rU h2⟩
 ·refine cA (fun q e m=>∃ i,q+i=256∧e 0=va∧e 1=aU c∧e 2=vb∧e 7 = .sl 0 0 256 256 true∧e 8=aD (i:Nat)∧aB (m.at_ 0=some ⟨bA 256 (fun j=>if j < i then aR c (UInt8.ofNat j) else 0),5,.flat,true⟩∧0 < m.next)) 256 ⟨0,by omega,rfl,rfl,rfl,rfl,rfl,⟨rfl,Nat.succ_pos _⟩⟩ ?_
  rintro q e m ⟨i,hq,e0,e1,e2,e7,e8,hJ⟩
  replace hq:=aB.mk hq
  by_cases hlt:i < 256
  ·have hlt':((i:Nat):Int) < 256:=by omega
   have w1:=cI (n:=i) (by omega)
   have w2:=x5 hlt
   have hmi:=hm (UInt8.ofNat i)
   obtain ⟨h1,h2⟩:=hJ.out
   have hput:=ac0 (fun j=>aR c (UInt8.ofNat j)) (fun _=>0) hlt
   have hl1:i+1≤(bA 256 fun j=>if j < i then aR c (UInt8.ofNat j) else 0).length:=by rw [fC];omega
   simp only [↓pre,simprocAttr,aA,sx,xV,wO,bne,aC,aI,aL,c8,aJ,aK,aG,aH,cG,aU,mk1,mk2,e0,e1,e2,e7,e8,hlt',w2,sr]
   refine aM (hmi) (by rfl) ?_;simp only [↓pre,simprocAttr,aA,sx,xV,wO,bne,aC,aI,aL,c8,aJ,aK,aG,aH,cG,aU,mk1,mk2,e0,e1,e2,e7,e8,hlt,h1,hl1,hput,w1,sr]
   exact ⟨q - 1,by have:=hq.out;omega,i+1,by have:=hq.out;omega,rfl,⟨rfl,h2⟩⟩
  ·have hlt':¬ ((i:Nat):Int) < 256:=by omega
   have hi:i=256:=by have:=hq.out;omega
   subst hi
   obtain ⟨h1,h2⟩:=hJ.out
   rw [ahx] at h1
   simp only [↓pre,simprocAttr,aA,sx,xV,wO,bne,aC,aI,aL,c8,aJ,aK,aG,aH,cG,aU,mk1,mk2,e0,e1,e2,e7,e8,hlt',sr]
   exact ⟨h1,h2⟩
theorem lN (n:Nat) (cs:List AV) (f:Bool):bC (.tree n n cs f) n cs:=⟨.inr (.inr ⟨_,_,rfl,Nat.le_refl _⟩)⟩
def yG:Nat→Bool:=fun d=>d != 66
theorem aod (vc vl:AV) (N n:Nat) (c:Nat→UInt8) (M:Mx) (x:List AV) (cells:List AV) (hc:bC vc N (bA N c++x)) (hv:sG vl N n M cells) (hN:1≤N) (hN2:N≤16) (hn:n≤65536):aX Tryz.prog 311 [vc,vl] ⟨.tup [.tree n n (bA n (o5 N c M)) true,aD 0],[]⟩:=by
 refine eA ?_
 have hp:=hv.rd.plain
 have hpc:=hc.plain
 have k1:¬ (16:Int) < ((N:Nat):Int):=by omega
 have k2:¬ ((N:Nat):Int)=0:=by omega
 have k3:¬ (65536:Int) < ((n:Nat):Int):=by omega
 have hN0:0 < N:=by omega
 obtain ⟨a0,x0,hc0,hr0⟩:=hv.at_ 0 hN0
 have hmk:=fun m=>sH m (n:=n) hn
 have hadd:=fun va vb A B c xa xb hA hB=>au2 va vb n A B c xa xb hA hB hn
 replace hadd:=aB.mk hadd
 refine bZ follows Tryz.func311 (by unfold Tryz.f311;rfl) (by unfold Tryz.f311;simp) yG (by unfold Tryz.f311;simp) (by kernel_rfl) ?_;unfold Tryz.f311
 simp only [↓pre,simprocAttr,aA,sx,zJ,yG,bne,aC,aI,aU,hv.rd.len',hc.len',k1,sr]
 rw [b9]
 refine xE (fun e m=>e 0=vc∧e 1=vl) (fun e m hR => ?_) ?_
 ·obtain ⟨e0,e1⟩:=hR
  simp only [↓pre,simprocAttr,aA,sx,zJ,yG,bne,aC,aI,aU,e0,e1,hv.rd.len',hv.rd.addr',hN0,hc0,hr0.len',k2,hmk,sr]
  rw [b9]
  refine cA (fun q e m=>∃ i ov,q+i=N∧e 0=vc∧e 1=vl∧e 7=ov∧e 8=aD (i:Nat)∧aB (0 < i→ov = .tree n n (bA n (o5 i c M)) true)∧aB (mN m ov n (bA n (o5 i c M)))) N ⟨0,_,by omega,e0,e1,rfl,rfl,⟨fun h=>absurd h (by omega)⟩,⟨⟨.inr ⟨_,0,n,true,_,rfl,by rw [aH,if_pos rfl],.inl rfl,rfl,Nat.le_refl _⟩⟩⟩⟩ ?_
  clear e0 e1
  rintro q e m ⟨i,ov,hq,e0,e1,e7,e8,hov,hJ⟩
  replace hq:=aB.mk hq
  by_cases hlt:i < N
  ·have hlt':((i:Nat):Int) < ((N:Nat):Int):=by omega
   have w1:=cI (n:=i) (by omega)
   obtain ⟨a,y,hca,hra⟩:=hv.at_ i hlt
   have hcc:(bA N c++x)[i]? = some (aU (c i)):=by rw [List.getElem?_append_left (by rw [fC];omega)];exact iN c hlt
   obtain ⟨av,m1,hfz,hrd,_⟩:=hJ.out.fz
   have hfs:fzs m [ov,.val (.int .u8 ((c i).toNat:Int)),a]=some ([av,.val (.int .u8 ((c i).toNat:Int)),a],m1):=by
    simp [fzs,hfz,fz,cM hra]
   have ha:=hadd.out av a (o5 i c M) (M i) (c i) [] y (by rw [List.append_nil];exact hrd) hra
   have e:(fun j=>o5 i c M j ^^^ aR (c i) (M i j))=o5 (i+1) c M:=rfl
   rw [e] at ha
   have htr:=lN n (bA n (o5 (i+1) c M)) true
   have s2:=cQ htr
   simp only [aU] at hcc ha
   replace e:=aB.mk e
   replace hrd:=aB.mk hrd
   simp only [↓pre,simprocAttr,aA,sx,zJ,yG,bne,aC,aI,aU,e0,e1,e7,e8,hlt',hc.addr',hv.rd.len',hv.rd.addr',hlt,hca,hcc,sr]
   refine yX ha hfs ?_
   refine dJ (by kernel_rfl) ?_
   simp only [↓pre,simprocAttr,aA,sx,zJ,yG,bne,aC,aI,aU,e0,e1,e7,e8,w1,s2,sr]
   exact ⟨q - 1,by have:=hq.out;omega,i+1,_,by have:=hq.out;omega,rfl,rfl,⟨fun _=>rfl⟩,⟨aqU htr⟩⟩
  ·have hlt':¬ ((i:Nat):Int) < ((N:Nat):Int):=by omega
   have hi:i=N:=by have:=hq.out;omega
   subst hi
   have hov':=hov.out hN0
   subst hov'
   simp only [↓pre,simprocAttr,aA,sx,zJ,yG,bne,aC,aI,aU,e0,e1,e7,e8,hlt',hv.rd.len',sr]
   exact ⟨0,by rw [j6,dY,vO,Option.bind_some,dY,fZ,i7];rfl⟩
 ·refine cA (fun q e m=>∃ i,q+i=N∧e 0=vc∧e 1=vl∧e 6=aD (i:Nat)) N ⟨0,by omega,rfl,rfl,rfl⟩ ?_
  rintro q e m ⟨i,hq,e0,e1,e6⟩
  replace hq:=aB.mk hq
  by_cases hlt:i < N
  ·have hlt':((i:Nat):Int) < ((N:Nat):Int):=by omega
   have w1:=cI (n:=i) (by omega)
   obtain ⟨a,y,hca,hra⟩:=hv.at_ i hlt
   simp only [↓pre,simprocAttr,aA,sx,zJ,yG,bne,aC,aI,aU,e0,e1,e6,hlt',hv.rd.len',hv.rd.addr',hlt,hN0,hc0,hr0.len',hca,hra.len',k3,w1,sr]
   exact ⟨q - 1,by have:=hq.out;omega,i+1,by have:=hq.out;omega,rfl⟩
  ·have hlt':¬ ((i:Nat):Int) < ((N:Nat):Int):=by omega
   simp only [↓pre,simprocAttr,aA,sx,zJ,yG,bne,aC,aI,aU,e0,e1,e6,hlt',hv.rd.len',sr]
theorem au3 (v:AV) (n w:Nat) (M:Mx) (cells:List AV) (hv:sG v n w M cells) (hn:1≤n) (hn2:n≤32) (hw:1≤w) (hw2:w≤32):aX Tryz.prog 334 [v] ⟨aD 0,[]⟩:=by
 have k1:¬ ((n:Nat):Int) < 1:=by omega
 have k2:¬ (32:Int) < ((n:Nat):Int):=by omega
 have k3:¬ ((w:Nat):Int) < 1:=by omega
 have k4:¬ (32:Int) < ((w:Nat):Int):=by omega
 have hn0:0 < n:=by omega
 obtain ⟨a0,x0,hc0,hr0⟩:=hv.at_ 0 hn0
 refine bE follows Tryz.func334 (by unfold Tryz.f334;rfl) (by unfold Tryz.f334;simp) aE (by unfold Tryz.f334;simp) (by kernel_rfl) ?_;unfold Tryz.f334
 simp only [↓pre,simprocAttr,aA,sx,agt,aE,aC,hv.rd.len',hv.rd.addr',hn0,hc0,hr0.len',k1,k2,k3,k4,sr]
 rw [b9]
 refine cA (fun q e m=>∃ i,q+i=n∧e 0=v∧e 3=aD (i:Nat)) n ⟨0,by omega,rfl,rfl⟩ ?_
 rintro q e m ⟨i,hq,e0,e3⟩
 replace hq:=aB.mk hq
 by_cases hlt:i < n
 ·have hlt':((i:Nat):Int) < ((n:Nat):Int):=by omega
  have w1:=cI (n:=i) (by omega)
  obtain ⟨a,x,hc,hr⟩:=hv.at_ i hlt
  simp only [↓pre,simprocAttr,aA,sx,agt,aE,aC,hv.rd.len',hv.rd.addr',hn0,hc0,hr0.len',k1,k2,k3,k4,e0,e3,hlt',hlt,hc,hr.len',w1,sr]
  exact ⟨q - 1,by have:=hq.out;omega,i+1,by have:=hq.out;omega,rfl⟩
 ·have hlt':¬ ((i:Nat):Int) < ((n:Nat):Int):=by omega
  simp only [↓pre,simprocAttr,aA,sx,agt,aE,aC,hv.rd.len',hv.rd.addr',hn0,hc0,hr0.len',k1,k2,k3,k4,e0,e3,hlt',sr]
def aae:Nat→Bool:=fun d=>d != 13 && d != 17 && d != 32 && d != 37
theorem au4 (m0:aF) (b b' w col:Nat) (f f':Bool) (M M':Nat→UInt8) (hw:w≤64) (hcol:col < w) (hne:b≠b') (h0:M' col≠0) (hb:m0.at_ b=some ⟨bA w M,5,.flat,true⟩) (hb':m0.at_ b'=some ⟨bA w M',5,.flat,true⟩):fA Tryz.prog 350 [.sl b 0 w w f,.sl b' 0 w w f',aD (col:Nat)] m0 fun r m'=>r = .tup []∧m'=m0.put b (some ⟨bA w (fun j=>M j ^^^ aR (aR (M col) (cR (M' col))) (M' j)),5,.flat,true⟩):=by
 have hd:=aoc (M col) (M' col)
 rw [if_neg h0,if_neg h0] at hd
 generalize aR (M col) (cR (M' col))=c at *
 have hm:=aeZ c
 have hx:=abp
 have hcA:=iN (w:=w) M hcol
 have hcB:=iN (w:=w) M' hcol
 replace h0:=aB.mk h0
 simp only [aU] at hm hd hcA hcB
 refine bZ follows Tryz.func350 (by unfold Tryz.f350;rfl) (by unfold Tryz.f350;simp) aae (by unfold Tryz.f350;simp) (by kernel_rfl) ?_;unfold Tryz.f350
 simp only [↓pre,simprocAttr,aA,sx,abd,aae,bne,aC,aI,c8,aJ,aG,aH,cG,aU,hcol,hb,hb',hcA,hcB,sr]
 (refine cE (hd) (by rfl) (by intro k;rfl) ?_);simp only [↓pre,simprocAttr,aA,sx,abd,aae,bne,aC,aI,c8,aJ,aG,aH,cG,aU,sr]
 rw [b9]
 refine cA (fun q e m=>∃ j,q+j=w∧e 0 = .sl b 0 w w f∧e 1 = .sl b' 0 w w f'∧e 6=aU c∧e 8=aD (j:Nat)∧aB (m=m0.put b (some ⟨bA w (fun j'=>if j' < j then M j' ^^^ aR c (M' j') else M j'),5,.flat,true⟩))) w ⟨0,by omega,rfl,rfl,rfl,rfl,⟨?_⟩⟩ ?_
 ·have:bA w (fun j'=>if j' < 0 then M j' ^^^ aR c (M' j') else M j')=bA w M:=sF fun j _=>by rw [if_neg (by omega)]
  rw [this,abr hb]
 rintro q e m ⟨j,hq,e0,e1,e6,e8,hJ⟩
 replace hq:=aB.mk hq
 by_cases hlt:j < w
 ·have hlt':((j:Nat):Int) < ((w:Nat):Int):=by omega
  have w1:=cI (n:=j) (by omega)
  have hat:m.at_ b=some ⟨bA w (fun j'=>if j' < j then M j' ^^^ aR c (M' j') else M j'),5,.flat,true⟩:=by rw [hJ.out,aG,if_pos rfl]
  have hat':m.at_ b'=some ⟨bA w M',5,.flat,true⟩:=by rw [hJ.out,aG,if_neg (fun e=>hne e.symm)];exact hb'
  have hcell:=iN (w:=w) (fun j'=>if j' < j then M j' ^^^ aR c (M' j') else M j') hlt
  have hcell':=iN (w:=w) M' hlt
  simp only [Nat.lt_irrefl,if_false,aU] at hcell hcell'
  have hput:=ac0 (fun j'=>M j' ^^^ aR c (M' j')) M hlt
  have hl1:j+1≤(bA w fun j'=>if j' < j then M j' ^^^ aR c (M' j') else M j').length:=by rw [fC];omega
  have hmj:=hm (M' j)
  have hxj:=hx (M j) (aR c (M' j))
  simp only [↓pre,simprocAttr,aA,sx,abd,aae,bne,aC,aI,c8,aJ,aG,aH,cG,aU,e0,e1,e6,e8,hlt',hlt,hat,hat',hcell,hcell',sr]
  (refine cE (hmj) (by rfl) (by intro k;rfl) ?_);simp only [↓pre,simprocAttr,aA,sx,abd,aae,bne,aC,aI,c8,aJ,aG,aH,cG,aU,e0,e1,e6,e8,hlt,hat,hat',hcell,hcell',hxj,hl1,hput,sr]
  refine dJ (by kernel_rfl) ?_
  simp only [↓pre,simprocAttr,aA,sx,abd,aae,bne,aC,aI,c8,aJ,aG,aH,cG,aU,e0,e1,e6,e8,w1,sr]
  refine ⟨q - 1,by have:=hq.out;omega,j+1,by have:=hq.out;omega,rfl,⟨?_⟩⟩
  rw [hJ.out,x7]
 ·have hlt':¬ ((j:Nat):Int) < ((w:Nat):Int):=by omega
  have hj:j=w:=by have:=hq.out;omega
  subst hj
  have hfin:=hJ.out
  rw [ahx] at hfin
  subst hfin
  simp only [↓pre,simprocAttr,aA,sx,abd,aae,bne,aC,aI,c8,aJ,aG,aH,cG,aU,e0,e1,e6,e8,hlt',sr]
def qI (w:Nat) (β:Nat→Nat) (i:Nat):List AV:=(List.range i).map fun j => .sl (β j) 0 w w true
theorem au5 (w:Nat) (β:Nat→Nat) (i:Nat):qI w β (i+1)=qI w β i++[.sl (β i) 0 w w true]:=by simp [qI,List.range_succ]
theorem au6 (w:Nat) (β:Nat→Nat) (i:Nat):(qI w β i).length=i:=by simp [qI]
theorem au7 {w i n:Nat} (β:Nat→Nat) (h:i < n):(qI w β n)[i]? = some (.sl (β i) 0 w w true):=by
 unfold qI
 rw [List.getElem?_map,List.getElem?_range h]
 rfl
theorem au8 {w n:Nat} {β γ:Nat→Nat} (h:∀ i,i < n→β i=γ i):qI w β n=qI w γ n:=by
 unfold qI
 refine List.map_congr_left fun i hi => ?_
 rw [h i (List.mem_range.1 hi)]
structure aaf (m0 m:aF) (lv:AV) (w i:Nat) (β:Nat→Nat):Prop where
 own:cO .var m 52 1 lv i (qI w β i)
 row:∀ j,j < i→m0.next≤β j∧β j < m.next∧m.at_ (β j)=some ⟨bA w (fun _=>0),5,.flat,true⟩∧cF lv≠some (β j)
 inj:∀ j k,j < i→k < i→β j=β k→j=k
 kept:lC m0 m
 new:l9 m0 lv
theorem au9 (m:aF) (b n:Nat) (f:Bool):pH Tryz.prog m 45 1 [(0,.sl b 0 n n f)]=some ⟨.sl m.next 0 1 1 true,m.push ⟨[.sl b 0 n n f],52,.var,true⟩,none⟩:=by
 have h1:cD Tryz.prog 45=some 52:=by kernel_rfl
 have h2:cH Tryz.prog 52=some 1:=by kernel_rfl
 have h3:i4 Tryz.prog 52 1=some [.val (.slice none 0 0)]:=by kernel_rfl
 have h4:bW Tryz.prog 52 = .var:=by kernel_rfl
 simp [pH,h1,h2,h3,h4,fX,cN,AV.cells,fK,dF,bO]
theorem ava {m:aF} {b:Nat} {x:AV} {f:Bool} (h:m.at_ b=some ⟨[x],52,.var,true⟩):eZ Tryz.prog 52 1 m (.sl b 0 1 1 f)=some ([x],1):=by
 have h4:bW Tryz.prog 52 = .var:=by kernel_rfl
 simp [eZ,dR,h,h4]
theorem aaf.grow {m0 m m3 : aF} {lv lv' : AV} {w i : Nat} {β : Nat → Nat} {sv : eP} (h : aaf m0 m lv w i β)
   (a1 : cO .var m3 52 1 lv' (i + 1) (qI w β i ++ [.sl m.next 0 w w true])) (b1 : ((m.push ⟨bA w (fun _ => 0), 5, .flat, true⟩).push sv).next ≤ m3.next)
   (c1 : ∀ j k, ((m.push ⟨bA w (fun _ => 0), 5, .flat, true⟩).push sv).at_ j = some k → j < ((m.push ⟨bA w (fun _ => 0), 5, .flat, true⟩).push sv).next → cF lv ≠ some j → m3.at_ j = some k)
   (d1 : ∀ j, cF lv' = some j → j = ((m.push ⟨bA w (fun _ => 0), 5, .flat, true⟩).push sv).next ∨ cF lv = some j) (e1 : m3.mm = m.mm) : aaf m0 m3 lv' w (i + 1) (fun j => if j = i then m.next else β j) := by
 simp only [aW] at b1 c1 d1
 have hkn := h.kept.next
 have hlv : ∀ j, cF lv = some j → j < m.next := fun j hj => by
   rcases h.own.form with ⟨e, _⟩ | ⟨b, e, _, hb, _⟩
   · rw [e] at hj; cases hj
   · rw [e] at hj; cases hj; exact hb
 have hcells : qI w (fun j => if j = i then m.next else β j) (i + 1) = qI w β i ++ [.sl m.next 0 w w true] := by
   rw [au5]
   simp only [if_true]
   rw [au8 fun j hj => if_neg (Nat.ne_of_lt hj)]
 refine ⟨by rw [hcells]; exact a1, fun j hj => ?_, fun j k hj hk e => ?_, ⟨e1.trans h.kept.mm, by omega, fun j k hj hl => ?_⟩, fun j hj => ?_⟩
 · by_cases e : j = i
   · simp only [if_pos e]
     refine ⟨hkn, by omega, c1 _ _ (by rw [aH, if_neg (by rw [aW]; omega), aH, if_pos rfl]) (by omega) fun h2 => by have := hlv _ h2; omega, fun h2 => ?_⟩
     rcases d1 _ h2 with h3 | h3
     · omega
     · have := hlv _ h3; omega
   · simp only [if_neg e]
     obtain ⟨r1, r2, r3, r4⟩ := h.row j (by omega)
     refine ⟨r1, by omega, c1 _ _ (by rw [aH, if_neg (by rw [aW]; omega), aH, if_neg (by omega)]; exact r3) (by omega) r4, fun h2 => ?_⟩
     rcases d1 _ h2 with h3 | h3
     · omega
     · exact r4 h3
 · by_cases e1 : j = i <;> by_cases e2 : k = i
   · omega
   · simp only [if_pos e1, if_neg e2] at e
     have := (h.row k (by omega)).2.1
     omega
   · simp only [if_neg e1, if_pos e2] at e
     have := (h.row j (by omega)).2.1
     omega
   · simp only [if_neg e1, if_neg e2] at e
     exact h.inj j k (by omega) (by omega) e
 · have hm := h.kept.at_ j k hj hl
   exact c1 _ _ (by rw [aH, if_neg (by rw [aW]; omega), aH, if_neg (by omega)]; exact hm) (by omega) fun h2 => by have := h.new j h2; omega
 · rcases d1 j hj with h3 | h3
   · omega
   · exact h.new j h3
def ac1:Nat→Bool:=fun d=>d != 15
theorem ahy (m0:aF) (n w:Nat) (hn:n≤32) (hw:w≤64):fA Tryz.prog 335 [aD (n:Nat),aD (w:Nat)] m0 fun r m'=>∃ β,aaf m0 m' r w n β:=by
 have hmk:=fun m=>sH m (n:=w) (by omega)
 refine bZ follows Tryz.func335 (by unfold Tryz.f335;rfl) (by unfold Tryz.f335;simp) ac1 (by unfold Tryz.f335;simp) (by kernel_rfl) ?_;unfold Tryz.f335
 simp only [↓pre,simprocAttr,aA,sx,aec,ac1,bne,aC,aI,aL,hmk,sr]
 rw [b9]
 refine cA (fun q e m=>∃ i lv β,q+i=n∧e 0=aD (n:Nat)∧e 1=aD (w:Nat)∧e 5=lv∧e 6=aD (i:Nat)∧aB (aaf m0 m lv w i β)) n ⟨0,aO,fun _=>0,by omega,rfl,rfl,rfl,rfl,⟨fB,fun j hj=>by omega,fun j k hj=>by omega,lC.refl _,y5 _⟩⟩ ?_
 rintro q e m ⟨i,lv,β,hq,e0,e1,e5,e6,hJ⟩
 replace hq:=aB.mk hq
 by_cases hlt:i < n
 ·have hlt':((i:Nat):Int) < ((n:Nat):Int):=by omega
  have w1:=cI (n:=i) (by omega)
  have hbs:=fun m (b n:Nat) f=>au9 m b n f
  replace hJ:=aB.mk hJ
  simp only [↓pre,simprocAttr,aA,sx,aec,ac1,bne,aC,aI,aL,hmk,e0,e1,e5,e6,hlt',hbs,sr]
  refine uF (kd := .var) (sz:=1) (y:=24) (zl:=[.slice none 0 0]) (by kernel_rfl) ((hJ.out.out.own.push _).push _) (by kernel_rfl) (by kernel_rfl) (by kernel_rfl) rfl (ava (by rw [aH,if_pos (by rw [aW])])) rfl (by omega) (by omega) fun lv' m' a1 b1 c1 d1 f1 => ?_
  have hg:=hJ.out.out.grow a1 b1 c1 d1 f1
  replace hg:=aB.mk hg
  clear a1 b1 c1 d1 f1
  simp only [↓pre,simprocAttr,aA,sx,aec,ac1,bne,aC,aI,aL,hmk,e0,e1,e5,e6,w1,sr]
  exact ⟨q - 1,by have:=hq.out;omega,i+1,lv',_,by have:=hq.out;omega,rfl,rfl,hg⟩
 ·have hlt':¬ ((i:Nat):Int) < ((n:Nat):Int):=by omega
  have hi:i=n:=by have:=hq.out;omega
  subst hi
  simp only [↓pre,simprocAttr,aA,sx,aec,ac1,bne,aC,aI,aL,hmk,e0,e1,e5,e6,hlt',sr]
  exact ⟨β,hJ.out⟩
theorem aaf.mat {m0 m:aF} {lv:AV} {w n:Nat} {β:Nat→Nat} (h:aaf m0 m lv w n β) (hn:1≤n):∃ b,lv = .sl b 0 n n false∧dG m b n w n true β (fun _ _=>0)∧m0.next≤b∧∀ i,i < n→m0.next≤β i:=by
 obtain ⟨b,rfl,hb,hl⟩:=h.own.sl (by omega)
 exact ⟨b,rfl,⟨⟨_,hb,au6 _ _ _,fun i hi=>au7 β hi⟩,hl,fun i hi=>⟨(h.row i hi).2.1,(h.row i hi).2.2.1⟩,h.inj⟩,h.new b rfl,fun i hi=>(h.row i hi).1⟩
theorem aoe {N:Nat} (x:Mx):∀ j,(rsol N x j).1≤N
 | 0=>Nat.zero_le _
 | j+1=>by
  have ih:=aoe (N:=N) x j
  have hp:=x3 (rsol N x j).2 j (N - (rsol N x j).1) (rsol N x j).1
  show (sE N j (rsol N x j)).1≤N
  unfold sE
  simp only
  split
  ·exact ih
  ·simp only
   omega
theorem aof {N:Nat} {x:Mx} {j:Nat} (h:(rsol N x j).1=N):∀ m,rsol N x (j+m)=rsol N x j
 | 0=>rfl
 | m+1=>by
  show sE N (j+m) (rsol N x (j+m))=_
  rw [aof h m]
  unfold sE
  have hp:=x3 (rsol N x j).2 (j+m) (N - (rsol N x j).1) (rsol N x j).1
  simp only
  rw [if_pos (by omega)]
def pF:Nat→Bool:=fun d=>d != 69 && d != 73 && d != 75
set_option maxHeartbeats 1000000 in
theorem avb (m0:aF) (b N w:Nat) (g:Bool) (β:Nat→Nat) (M:Mx) (hN:1≤N) (hN2:N≤16) (hw:N≤w) (hw2:w≤64) (h:dG m0 b N w N true β M):fA Tryz.prog 336 [.sl b 0 N N g,aD (N:Nat)] m0 fun r m'=>∃ β',r=aD ((rsol N M N).1:Nat)∧dG m' b N w N true β' (rsol N M N).2:=by
 replace hN:=aB.mk hN
 refine bZ follows Tryz.func336 (by unfold Tryz.f336;rfl) (by unfold Tryz.f336;simp) pF (by unfold Tryz.f336;simp) (by kernel_rfl) ?_;unfold Tryz.f336
 simp only [↓pre,simprocAttr,aA,sx,qB,pF,bne,aC,aI,aJ,aG,aH,cG,aU,sr]
 rw [b9]
 refine cA (fun q e m=>∃ j β,q+j=N∧e 0 = .sl b 0 N N g∧e 1=aD (N:Nat)∧e 5=aD ((rsol N M j).1:Nat)∧e 6=aD (j:Nat)∧aB (dG m b N w N true β (rsol N M j).2)) N ⟨0,β,by omega,rfl,rfl,rfl,rfl,⟨h⟩⟩ ?_
 rintro q e m ⟨j,β,hq,e0,e1,e5,e6,hJ⟩
 replace hq:=aB.mk hq
 have hgs:rsol N M (j+1)=sE N j (rsol N M j):=rfl
 have hsn:=aoe (N:=N) M j
 have hst:=fun h=>aof (N:=N) (x:=M) (j:=j) h
 generalize hse:rsol N M j=s at *
 replace hse:=aB.mk hse
 by_cases hlt:j < N
 ·have hlt':((j:Nat):Int) < ((N:Nat):Int):=by omega
  by_cases hnn:s.1 < N
  ·have hnn':((s.1:Nat):Int) < ((N:Nat):Int):=by omega
   have w1:=cI (n:=j) (by omega)
   replace hst:=aB.mk hst
   simp only [↓pre,simprocAttr,aA,sx,qB,pF,bne,aC,aI,aJ,aG,aH,cG,aU,e0,e1,e5,e6,hlt',hnn',sr]
   rw [b9]
   refine xE (fun e m'=>e 0 = .sl b 0 N N g∧e 1=aD (N:Nat)∧e 5=aD (s.1:Nat)∧e 6=aD (j:Nat)∧e 7=aD (dZ s.2 j (N - s.1) s.1:Nat)∧m'=m) (fun e m' hR => ?_) ?_
   ·clear e0 e1 e5 e6
    obtain ⟨e0,e1,e5,e6,e7,rfl⟩:=hR
    have hpg:=x3 s.2 j (N - s.1) s.1
    by_cases hp:dZ s.2 j (N - s.1) s.1=N
    ·have hst:sE N j s=s:=by unfold sE;simp only [hp,Nat.le_refl,if_true]
     rw [hp] at e7
     rw [hst] at hgs
     replace hpg:=aB.mk hpg
     replace hgs:=aB.mk hgs
     replace hst:=aB.mk hst
     simp only [↓pre,simprocAttr,aA,sx,qB,pF,bne,aC,aI,aJ,aG,aH,cG,aU,e0,e1,e5,e6,e7,w1,sr]
     exact ⟨q - 1,by have:=hq.out;omega,j+1,β,by have:=hq.out;omega,by rw [hgs.out],rfl,⟨by rw [hgs.out];exact hJ.out⟩⟩
    ·have hpN:dZ s.2 j (N - s.1) s.1 < N:=by omega
     have hne:=acO s.2 j (N - s.1) s.1 (by omega)
     have hgs2:sE N j s=(s.1+1,fN (eI s.2 (dZ s.2 j (N - s.1) s.1) s.1) s.1 (fun i=>aR (eI s.2 (dZ s.2 j (N - s.1) s.1) s.1 i j) (cR (eI s.2 (dZ s.2 j (N - s.1) s.1) s.1 s.1 j)))):=by unfold sE;simp only [if_neg (show ¬ N≤dZ s.2 j (N - s.1) s.1 by omega)]
     rw [hgs2] at hgs
     clear hgs2
     obtain ⟨n,X⟩:=s
     simp only at *
     generalize dZ X j (N - n) n=a at *
     have hpa:¬ ((a:Nat):Int)=((N:Nat):Int):=by omega
     replace hgs:=aB.mk hgs
     replace hpg:=aB.mk hpg
     obtain ⟨cells,hrow,hcl,hat⟩:=hJ.out.row
     have hca:=hat a hpN
     have hcn:=hat n hnn
     have hsw:=hJ.out.swap hpN hnn hrow
     have hla1:a+1≤cells.length:=by omega
     have hln1:n+1≤(cells.take a++[AV.sl (β n) 0 w w true]++cells.drop (a+1)).length:=by simp;omega
     unfold cN at hsw
     simp only [List.length_cons,List.length_nil,Nat.zero_add] at hsw
     replace hat:=aB.mk hat
     have hpiv:eI X a n n j≠0:=by
      unfold eI
      by_cases e9:n=a
      ·rw [if_pos e9,e9];exact hne
      ·rw [if_neg e9,if_pos rfl];exact hne
     replace hne:=aB.mk hne
     replace hsw:=aB.mk hsw
     replace hpiv:=aB.mk hpiv
     simp only [↓pre,simprocAttr,aA,sx,qB,pF,bne,aC,aI,aJ,aG,aH,cG,aU,e0,e1,e5,e6,e7,hpa,hpN,hnn,hrow,hca,hcn,hla1,hln1,x7,sr]
     generalize hβ1:(fun i=>if i=a then β n else if i=n then β a else β i)=β1 at hsw
     generalize hM2:eI X a n=M2 at hsw hgs hpiv
     generalize hmm1:aF.put m' b _=m1 at hsw ⊢
     clear hmm1
     have wn:=cI (n:=n) (by omega)
     generalize hκ:(fun i=>aR (M2 i j) (cR (M2 n j)))=κ at hgs
     have hel:fN M2 n κ n=M2 n:=by funext q;unfold fN;rw [if_pos rfl]
     rw [b9]
     refine xE (fun e m'=>e 0 = .sl b 0 N N g∧e 1=aD (N:Nat)∧e 5=aD (n:Nat)∧e 6=aD (j:Nat)∧aB (dG m' b N w N true β1 (fN M2 n κ))) (fun e m' hR => ?_) ?_
     ·clear e0 e1 e5 e6 e7
      obtain ⟨e0,e1,e5,e6,hE⟩:=hR
      replace hel:=aB.mk hel
      simp only [↓pre,simprocAttr,aA,sx,qB,pF,bne,aC,aI,aJ,aG,aH,cG,aU,e0,e1,e5,e6,wn,w1,sr]
      exact ⟨q - 1,by have:=hq.out;omega,j+1,β1,by have:=hq.out;omega,by rw [hgs.out],rfl,⟨by rw [hgs.out];exact hE.out⟩⟩
     ·refine cA (fun q' e m'=>∃ i,q'+i=N∧e 0 = .sl b 0 N N g∧e 1=aD (N:Nat)∧e 5=aD (n:Nat)∧e 6=aD (j:Nat)∧e 9=aD (i:Nat)∧aB (dG m' b N w N true β1 (fun i' q=>if i' < i then fN M2 n κ i' q else M2 i' q))) N ⟨0,by omega,e0,e1,e5,e6,rfl,⟨hsw.out.congr fun i hi q hq=>by rw [if_neg (by omega)]⟩⟩ ?_
      clear e0 e1 e5 e6 e7
      rintro q' e m' ⟨i,hq',e0,e1,e5,e6,e9,hJ3⟩
      replace hq':=aB.mk hq'
      by_cases hli:i < N
      ·have hli':((i:Nat):Int) < ((N:Nat):Int):=by omega
       have wi:=cI (n:=i) (by omega)
       by_cases hin:i=n
       ·have hnew:dG m' b N w N true β1 (fun i' q=>if i' < i+1 then fN M2 n κ i' q else M2 i' q):=hJ3.out.congr fun i' hi' q hq=>by
         by_cases h1:i' < i
         ·rw [if_pos h1,if_pos (by omega)]
         ·rw [if_neg h1]
          by_cases h2:i'=i
          ·rw [if_pos (by omega),h2,hin,hel]
          ·rw [if_neg (by omega)]
        subst hin
        replace hel:=aB.mk hel
        replace hnew:=aB.mk hnew
        simp only [↓pre,simprocAttr,aA,sx,qB,pF,bne,aC,aI,aJ,aG,aH,cG,aU,e0,e1,e5,e6,e9,hli',wi,sr]
        exact ⟨q' - 1,by have:=hq'.out;omega,i+1,by have:=hq'.out;omega,rfl,hnew⟩
       ·have hin':¬ ((i:Nat):Int)=((n:Nat):Int):=by omega
        obtain ⟨cells3,hrow3,hcl3,hat3⟩:=hJ3.out.row
        have hr3i:=hat3 i hli
        have hr3n:=hat3 n hnn
        obtain ⟨_,hbi⟩:=hJ3.out.own i hli
        obtain ⟨_,hbn⟩:=hJ3.out.own n hnn
        have hc1:(fun q=>if i < i then fN M2 n κ i q else M2 i q)=M2 i:=by funext q;rw [if_neg (Nat.lt_irrefl _)]
        have hc2:(fun q=>if n < i then fN M2 n κ n q else M2 n q)=M2 n:=by funext q;rw [hel];split <;> rfl
        rw [hc1] at hbi
        rw [hc2] at hbn
        have hcd:=au4 m' (β1 i) (β1 n) w j true true (M2 i) (M2 n) hw2 (by omega) (fun h=>hin (hJ3.out.inj i n hli hnn h)) hpiv.out hbi hbn
        have hnew:dG (m'.put (β1 i) (some ⟨bA w (fun q=>M2 i q ^^^ aR (aR (M2 i j) (cR (M2 n j))) (M2 n q)),5,.flat,true⟩)) b N w N true β1 (fun i' q=>if i' < i+1 then fN M2 n κ i' q else M2 i' q):=(hJ3.out.put_row hli _).congr fun i' hi' q hq=>by
         by_cases h2:i'=i
         ·subst h2
          rw [if_pos rfl,if_pos (by omega)]
          unfold fN
          rw [if_neg hin,←hκ]
         ·rw [if_neg h2]
          by_cases h1:i' < i
          ·rw [if_pos h1,if_pos (by omega)]
          ·rw [if_neg h1,if_neg (by omega)]
        generalize hmm2:aF.put m' (β1 i) _=m2 at hcd hnew
        clear hmm2
        replace hat3:=aB.mk hat3
        replace hel:=aB.mk hel
        replace hnew:=aB.mk hnew
        replace hc1:=aB.mk hc1
        replace hc2:=aB.mk hc2
        simp only [↓pre,simprocAttr,aA,sx,qB,pF,bne,aC,aI,aJ,aG,aH,cG,aU,e0,e1,e5,e6,e9,hli',hin',hrow3,hli,hnn,hr3i,hr3n,sr]
        refine pY hcd ?_
        refine dJ (by kernel_rfl) ?_
        simp only [↓pre,simprocAttr,aA,sx,qB,pF,bne,aC,aI,aJ,aG,aH,cG,aU,e0,e1,e5,e6,e9,wi,sr]
        exact ⟨q' - 1,by have:=hq'.out;omega,i+1,by have:=hq'.out;omega,rfl,hnew⟩
      ·have hli':¬ ((i:Nat):Int) < ((N:Nat):Int):=by omega
       have hi:i=N:=by have:=hq'.out;omega
       have hfin:dG m' b N w N true β1 (fN M2 n κ):=hJ3.out.congr fun i' hi' q hq=>by rw [if_pos (by omega)]
       replace hfin:=aB.mk hfin
       replace hel:=aB.mk hel
       subst hi
       simp only [↓pre,simprocAttr,aA,sx,qB,pF,bne,aC,aI,aJ,aG,aH,cG,aU,e0,e1,e5,e6,e9,hli',sr]
       exact hfin
   ·refine cA (fun q e m'=>∃ a,q+a=N∧s.1≤a∧e 0 = .sl b 0 N N g∧e 1=aD (N:Nat)∧e 5=aD (s.1:Nat)∧e 6=aD (j:Nat)∧e 7=aD (a:Nat)∧m'=m∧aB (dZ s.2 j (N - a) a=dZ s.2 j (N - s.1) s.1)) (N - s.1) ⟨s.1,by omega,Nat.le_refl _,e0,e1,e5,e6,rfl,rfl,⟨rfl⟩⟩ ?_
    clear e0 e1 e5 e6
    rintro q2 e m' ⟨a,hq2,hsa,e0,e1,e5,e6,e7,rfl,hpv⟩
    replace hq2:=aB.mk hq2
    by_cases hla:a < N
    ·have hla':((a:Nat):Int) < ((N:Nat):Int):=by omega
     have wa:=cI (n:=a) (by omega)
     obtain ⟨cells,hrow,hcl,hat⟩:=hJ.out.row
     have hca:=hat a hla
     obtain ⟨_,hblk⟩:=hJ.out.own a hla
     have hcell:=iN (w:=w) (s.2 a) (show j < w by omega)
     have hjw:j < w:=by omega
     simp only [aU] at hcell
     have hun:dZ s.2 j (N - a) a=if s.2 a j≠0 then a else dZ s.2 j (N - (a+1)) (a+1):=by
      rw [show N - a=(N - (a+1))+1 by omega]
      rfl
     replace hat:=aB.mk hat
     by_cases hz:s.2 a j=0
     ·have hz':((s.2 a j).toNat:Int)=0:=by rw [hz];rfl
      rw [if_neg (by simp [hz])] at hun
      replace hun:=aB.mk hun
      simp only [↓pre,simprocAttr,aA,sx,qB,pF,bne,aC,aI,aJ,aG,aH,cG,aU,e0,e1,e5,e6,e7,hla',hla,hrow,hca,hblk,hjw,hcell,hz',wa,sr]
      exact ⟨q2 - 1,by have:=hq2.out;omega,a+1,by have:=hq2.out;omega,by omega,rfl,⟨by rw [←hun.out];exact hpv.out⟩⟩
     ·have hz':¬ ((s.2 a j).toNat:Int)=0:=fun h=>hz (UInt8.toNat_inj.1 (by show _=0;omega))
      rw [if_pos hz] at hun
      rw [←hpv.out,hun]
      replace hun:=aB.mk hun
      simp only [↓pre,simprocAttr,aA,sx,qB,pF,bne,aC,aI,aJ,aG,aH,cG,aU,e0,e1,e5,e6,e7,hla',hla,hrow,hca,hblk,hjw,hcell,hz',sr]
    ·have hla':¬ ((a:Nat):Int) < ((N:Nat):Int):=by omega
     have ha:a=N:=by have:=hq2.out;omega
     subst ha
     have hend:dZ s.2 j (a - s.1) s.1=a:=by rw [←hpv.out,Nat.sub_self];rfl
     rw [hend]
     simp only [↓pre,simprocAttr,aA,sx,qB,pF,bne,aC,aI,aJ,aG,aH,cG,aU,e0,e1,e5,e6,e7,hla',sr]
  ·have hnn':¬ ((s.1:Nat):Int) < ((N:Nat):Int):=by omega
   have hend:rsol N M N=s:=by
    have:=hst (by omega) (N - j)
    rw [show j+(N - j)=N by omega] at this
    exact this
   rw [hend]
   replace hst:=aB.mk hst
   replace hend:=aB.mk hend
   simp only [↓pre,simprocAttr,aA,sx,qB,pF,bne,aC,aI,aJ,aG,aH,cG,aU,e0,e1,e5,e6,hlt',hnn',sr]
   exact ⟨_,hJ.out⟩
 ·have hlt':¬ ((j:Nat):Int) < ((N:Nat):Int):=by omega
  have hj:j=N:=by have:=hq.out;omega
  subst hj
  rw [hse.out]
  simp only [↓pre,simprocAttr,aA,sx,qB,pF,bne,aC,aI,aJ,aG,aH,cG,aU,e0,e1,e5,e6,hlt',sr]
  exact ⟨_,hJ.out⟩
end Go.Proofs.YtaekhhlgnbhnpaaGreat