import Derived.Test.YtaekhhlgnbhnpaaGreatOycG20
import Derived.Test.YtaekhhlgnbhnpaaGreatOycG18
import Derived.Test.YtaekhhlgnbhnpaaGreatOycG09
import Derived.Test.YtaekhhlgnbhnpaaGreatOycG19
import Derived.Test.YtaekhhlgnbhnpaaGreatOycG11
import Derived.Test.YtaekhhlgnbhnpaaGreatOycG12
import Derived.Test.YtaekhhlgnbhnpaaGreatOycG15
set_option linter.unusedVariables false
set_option linter.unusedSimpArgs false
set_option maxRecDepth 10000
namespace Go.Proofs.YtaekhhlgnbhnpaaGreat
open Go Go.Tw Go.Proofs Go.Gf
def pN (bs:List UInt8):Nat:=dL ((bs.drop 5).take 2)
def b6 (bs:List UInt8):Int:=(dL (bs.take 4):Nat)
def dK (bs:List UInt8):Int:=(dL ((bs.drop 4).take 1):Nat)
def cE (bs:List UInt8):List b9:=dQ (bs.drop 7) (pN bs)
def pV (k r c w:Int) (bs:List UInt8):Bool:=decide (7+6*pN bs≤bs.length) && (decide (lE k r c w (b6 bs) (dK bs) (cE bs)=0) && decide (lQ k c (b6 bs) (dK bs) (cE bs)=bs))
def nE (k r c w:Int) (bs:List UInt8):Int:=if bL k r c w=true then (if (bs.length:Int)=wI k c then (if pV k r c w bs=true then 0 else 150) else 20) else 2
def kL (len dep:Int) (l:List b9):AV := .agg [aE len,aE dep,bE l.length (bW l)]
def nQ:AV := .agg [aE 0,aE 0,aP]
def rS (k r c w:Int) (bs:List UInt8):AV:=if nE k r c w bs=0 then kL (b6 bs) (dK bs) (cE bs) else nQ
theorem amE (e:Int) (k:Nat) (m:aH):fzT k m (.tup [nQ,aE e])=some (.tup [nQ,aE e]):=gS (sY fun c hc=>by
 simp only [List.mem_cons,List.not_mem_nil,or_false] at hc
 rcases hc with rfl | rfl | rfl <;> exact bU _) (bU _) k m
theorem aeh (len dep:Int) (l:List b9):eG (kL len dep l):=sY fun c hc=>by
 simp only [List.mem_cons,List.not_mem_nil,or_false] at hc
 rcases hc with rfl | rfl | rfl
 ·exact bU _
 ·exact bU _
 ·exact kK (dH _ _)
theorem fJ {n:Nat} {cs:List AV}:(bE n cs).cells=[bE n cs]:=by unfold bE;split <;> rfl
theorem fK {n:Nat} {cs:List AV}:fC (bE n cs)=true:=by unfold bE;split <;> rfl
theorem fM {n:Nat} {cs:List AV} {m:aH}:fz m (bE n cs)=some (bE n cs,m):=cA (dH _ _) m
theorem fN {n:Nat} {cs:List AV}:dB (bE n cs)=true:=bP (dH _ _)
def eP:Nat→Bool:=fun d=>d != 4 && d != 7
theorem as4 (k r c w:Int) (v:AV) (bs:List UInt8) (x:List AV) (hv:bD v bs.length (aQ bs++x)):aY Tryz.prog 92 [aA k r c w,v] ⟨.tup [rS k r c w bs,aE (nE k r c w bs)],[]⟩:=by
 refine dY ?_
 have hp:=hv.plain
 have h1:=amC k r c w v bs.length _ hv
 have hfz:∀ E,nE k r c w bs=E→E≠0→∀ m,fzT 0 m (.tup [.agg [.val (.int .i64 0),.val (.int .i64 0),.val (.slice none 0 0)],.val (.int .i64 E)])=some (.tup [rS k r c w bs,aE E]):=fun E hE h0 m=>by
  unfold rS
  rw [hE,if_neg h0]
  exact amE E 0 m
 by_cases hg:bL k r c w=true∧(bs.length:Int)=wI k c
 ·obtain ⟨hm,hl⟩:=hg
  rw [if_pos hm,if_pos hl] at h1
  have hw:=gU hm
  have hbl:bs.length≤768∧32≤bs.length:=by unfold wI at hl;omega
  have hE:nE k r c w bs=if pV k r c w bs=true then 0 else 150:=by unfold nE;rw [if_pos hm,if_pos hl]
  obtain ⟨v1,s1,r1⟩:=hv.slice (P:=Tryz.prog) (t:=52) (sz:=1) (lo:=none) (hi:=some 4) (by kernel_rfl) (by simp) (by simp only [Option.getD_some];omega)
  obtain ⟨v2,s2,r2⟩:=hv.slice (P:=Tryz.prog) (t:=52) (sz:=1) (lo:=some 4) (hi:=some 5) (by kernel_rfl) (by simp) (by simp only [Option.getD_some];omega)
  obtain ⟨v3,s3,r3⟩:=hv.slice (P:=Tryz.prog) (t:=52) (sz:=1) (lo:=some 5) (hi:=some 7) (by kernel_rfl) (by simp) (by simp only [Option.getD_some];omega)
  obtain ⟨v4,s4,r4⟩:=hv.slice (P:=Tryz.prog) (t:=52) (sz:=1) (lo:=some 7) (hi:=none) (by kernel_rfl) (by simp only [Option.getD_some,Option.getD_none];omega) (by simp)
  simp only [Option.getD_some,Option.getD_none,Nat.mul_one,Nat.sub_zero,List.drop_zero] at r1 r2 r3 r4
  rw [rG _ x 4 (by omega)] at r2
  rw [rG _ x 5 (by omega)] at r3
  rw [rG _ x 7 (by omega),←List.length_drop] at r4
  have c1:=ach v1 4 bs x r1 (by omega) (by omega)
  have c2:=ach v2 1 (bs.drop 4) x r2 (by rw [List.length_drop];omega) (by omega)
  have c3:=ach v3 2 (bs.drop 5) x r3 (by rw [List.length_drop];omega) (by omega)
  have pl1:=r1.plain
  have pl2:=r2.plain
  have pl3:=r3.plain
  have pl4:=r4.plain
  have hn2:pN bs < 65536:=yL 2 (bs.drop 5)
  rw [show dL ((bs.drop 5).take 2)=pN bs from rfl] at c3
  rw [show ((dL (bs.take 4):Nat):Int)=b6 bs from rfl] at c1
  rw [show ((dL ((bs.drop 4).take 1):Nat):Int)=dK bs from rfl] at c2
  have n4:jB (.val (.int .i64 4))=some 4:=rfl
  have n5:jB (.val (.int .i64 5))=some 5:=rfl
  have n7:jB (.val (.int .i64 7))=some 7:=rfl
  have w1:IntKind.i64.wrap (6*((pN bs:Nat):Int))=((6*pN bs:Nat):Int):=by rw [show 6*((pN bs:Nat):Int)=((6*pN bs:Nat):Int) by simp];exact dE (by omega)
  have w2:IntKind.i64.wrap (7+((6*pN bs:Nat):Int))=((7+6*pN bs:Nat):Int):=by rw [show 7+((6*pN bs:Nat):Int)=((7+6*pN bs:Nat):Int) by simp];exact dE (by omega)
  have hso:=fun m=>hv.slOk (P:=Tryz.prog) (m:=m) (t:=52)
  have hsx:=fun d c m lo hi mx=>hv.sliceX (P:=Tryz.prog) (m:=m) (t:=52) (d:=d) (c:=c) (lo:=lo) (hi:=hi) (mx:=mx)
  by_cases hfit:7+6*pN bs≤bs.length
  ·have hfit':¬ ((bs.length:Nat):Int) < ((7+6*pN bs:Nat):Int):=by omega
   have c4:=amB v4 (bs.drop 7) x (pN bs) r4 (by rw [List.length_drop];omega) (by rw [List.length_drop];omega)
   rw [show dQ (bs.drop 7) (pN bs)=cE bs from rfl] at c4
   have hpl:(cE bs).length=pN bs:=aci _ _
   have c5:=as3 k r c w (b6 bs) (dK bs) (bE (pN bs) (bW (cE bs))) (cE bs) ⟨[],by rw [List.append_nil,hpl];exact dH _ _⟩ (by omega)
   have q1:=bP (dH (pN bs) (bW (cE bs)))
   have pt:=(dH (pN bs) (bW (cE bs))).plain
   have hTRf:bE (pN bs) (bW (cE bs)) = .val (.slice none 0 0)∨bE (pN bs) (bW (cE bs)) = .tree (pN bs) (pN bs) (bW (cE bs)) false:=by unfold bE;split;exact .inl rfl;exact .inr rfl
   unfold agL at c5
   have hok:pV k r c w bs=(decide (lE k r c w (b6 bs) (dK bs) (cE bs)=0) && decide (lQ k c (b6 bs) (dK bs) (cE bs)=bs)):=by unfold pV;rw [decide_eq_true hfit];rfl
   by_cases hck:lE k r c w (b6 bs) (dK bs) (cE bs)=0
   ·rw [if_pos hck] at c5
    rw [decide_eq_true hck,Bool.true_and] at hok
    have hml:(lQ k c (b6 bs) (dK bs) (cE bs)).length=(wI k c).toNat:=by
     unfold lQ
     refine aef ?_
     obtain ⟨_,_,_,hll,_⟩:=y8 hck
     unfold nP
     simp only [List.length_append,j7,pP]
     unfold dI at hll
     unfold wI
     omega
    have c6:=amD (.tree (wI k c).toNat (wI k c).toNat (aQ (lQ k c (b6 bs) (dK bs) (cE bs))) true) v (lQ k c (b6 bs) (dK bs) (cE bs)) bs [] x ⟨.inr (.inr ⟨_,true,by rw [hml,List.append_nil],by rw [hml];exact Nat.le_refl _⟩)⟩ hv
    have hfin:pV k r c w bs=true→∀ m,fzT 0 m (.tup [.agg [.val (.int .i64 (b6 bs)),.val (.int .i64 (dK bs)),bE (pN bs) (bW (cE bs))],.val (.int .i64 0)])=some (.tup [rS k r c w bs,aE 0]):=fun h m=>by
     have:=gS (aeh (b6 bs) (dK bs) (cE bs)) (bU (.int .i64 0)) 0 m
     unfold rS
     rw [hE,h,if_pos rfl,if_pos rfl]
     unfold kL at this ⊢
     rw [hpl] at this ⊢
     exact this
    by_cases heq:lQ k c (b6 bs) (dK bs) (cE bs)=bs
    ·rw [decide_eq_true heq] at hok c6
     rw [hok,if_pos rfl] at hE
     rw [hE]
     replace hfin:=aB.mk (hfin hok)
     replace hok:=aB.mk hok
     replace hE:=aB.mk hE
     replace hck:=aB.mk hck
     replace heq:=aB.mk heq
     replace hfz:=aB.mk hfz
     replace hfit:=aB.mk hfit
     replace hpl:=aB.mk hpl
     generalize lQ k c (b6 bs) (dK bs) (cE bs)=MB at *
     rcases hTRf with hT | hT
     all_goals rw [hT] at c4 c5 hfin
     all_goals clear q1 pt
     all_goals replace hT:=aB.mk hT
     all_goals (
      refine bJ follows Tryz.func92 (by unfold Tryz.f92;rfl) (by unfold Tryz.f92;simp) eP (by unfold Tryz.f92;simp) (by kernel_rfl) ?_;unfold Tryz.f92
      simp only [↓pre,simprocAttr,aA,sx,fF,eP,bne,aC,bG,a8,Option.map_none,Option.map_some,aJ,aK,aF,aG,aW,Nat.one_ne_zero,Nat.zero_ne_one,↓fJ,↓fK,↓fM,↓fN,n4,n5,n7,hso,hsx,s1,s2,s3,s4,sr]
      refine aL (h1) (by simp only [aA,aO, *]) ?_;simp only [↓pre,simprocAttr,aA,sx,fF,eP,bne,aC,bG,a8,Option.map_none,Option.map_some,aJ,aK,aF,aG,aW,Nat.one_ne_zero,Nat.zero_ne_one,↓fJ,↓fK,↓fM,↓fN,n4,n5,n7,hso,hsx,s1,s2,s3,s4,sr];(refine bM (c1) (by simp only [aA,aO, *]) (by intro k;rfl) ?_);simp only [↓pre,simprocAttr,aA,sx,fF,eP,bne,aC,bG,a8,Option.map_none,Option.map_some,aJ,aK,aF,aG,aW,Nat.one_ne_zero,Nat.zero_ne_one,↓fJ,↓fK,↓fM,↓fN,n4,n5,n7,hso,hsx,s1,s2,s3,s4,sr];(refine bM (c2) (by simp only [aA,aO, *]) (by intro k;rfl) ?_);simp only [↓pre,simprocAttr,aA,sx,fF,eP,bne,aC,bG,a8,Option.map_none,Option.map_some,aJ,aK,aF,aG,aW,Nat.one_ne_zero,Nat.zero_ne_one,↓fJ,↓fK,↓fM,↓fN,n4,n5,n7,hso,hsx,s1,s2,s3,s4,sr]
      refine cU (by kernel_rfl) ?_
      simp only [↓pre,simprocAttr,aA,sx,fF,eP,bne,aC,bG,a8,Option.map_none,Option.map_some,aJ,aK,aF,aG,aW,Nat.one_ne_zero,Nat.zero_ne_one,↓fJ,↓fK,↓fM,↓fN,n4,n5,n7,hso,hsx,s1,s2,s3,s4,sr]
      refine cU (by kernel_rfl) ?_
      simp only [↓pre,simprocAttr,aA,sx,fF,eP,bne,aC,bG,a8,Option.map_none,Option.map_some,aJ,aK,aF,aG,aW,Nat.one_ne_zero,Nat.zero_ne_one,↓fJ,↓fK,↓fM,↓fN,n4,n5,n7,hso,hsx,s1,s2,s3,s4,sr]
      refine aL (c3) (by simp only [aA,aO, *]) ?_;simp only [↓pre,simprocAttr,aA,sx,fF,eP,bne,aC,bG,a8,Option.map_none,Option.map_some,aJ,aK,aF,aG,aW,Nat.one_ne_zero,Nat.zero_ne_one,↓fJ,↓fK,↓fM,↓fN,n4,n5,n7,hso,hsx,s1,s2,s3,s4,w1,w2,hv.len',hfit',sr];refine aL (c4) (by simp only [aA,aO, *]) ?_;simp only [↓pre,simprocAttr,aA,sx,fF,eP,bne,aC,bG,a8,Option.map_none,Option.map_some,aJ,aK,aF,aG,aW,Nat.one_ne_zero,Nat.zero_ne_one,↓fJ,↓fK,↓fM,↓fN,n4,n5,n7,hso,hsx,s1,s2,s3,s4,w1,w2,hv.len',hfit',sr];refine aL (c5) (by rfl) ?_;simp only [↓pre,simprocAttr,aA,sx,fF,eP,bne,aC,bG,a8,Option.map_none,Option.map_some,aJ,aK,aF,aG,aW,Nat.one_ne_zero,Nat.zero_ne_one,↓fJ,↓fK,↓fM,↓fN,n4,n5,n7,hso,hsx,s1,s2,s3,s4,w1,w2,hv.len',hfit',sr];refine aL (c6) (by simp only [aA,aO, *]) ?_;simp only [↓pre,simprocAttr,aA,sx,fF,eP,bne,aC,bG,a8,Option.map_none,Option.map_some,aJ,aK,aF,aG,aW,Nat.one_ne_zero,Nat.zero_ne_one,↓fJ,↓fK,↓fM,↓fN,n4,n5,n7,hso,hsx,s1,s2,s3,s4,w1,w2,hv.len',hfit',sr]
      exact ⟨0,hfin.out _⟩
      )
    ·rw [decide_eq_false heq] at hok c6
     rw [hok,if_neg (by decide)] at hE
     have hz:=hfz 150 hE (by decide)
     rw [hE]
     replace hz:=aB.mk hz
     replace hok:=aB.mk hok
     replace hE:=aB.mk hE
     replace hck:=aB.mk hck
     replace heq:=aB.mk heq
     replace hfz:=aB.mk hfz
     replace hfin:=aB.mk hfin
     replace hfit:=aB.mk hfit
     replace hpl:=aB.mk hpl
     generalize lQ k c (b6 bs) (dK bs) (cE bs)=MB at *
     rcases hTRf with hT | hT
     all_goals rw [hT] at c4 c5
     all_goals clear q1 pt
     all_goals replace hT:=aB.mk hT
     all_goals (
      refine bJ follows Tryz.func92 (by unfold Tryz.f92;rfl) (by unfold Tryz.f92;simp) eP (by unfold Tryz.f92;simp) (by kernel_rfl) ?_;unfold Tryz.f92
      simp only [↓pre,simprocAttr,aA,sx,fF,eP,bne,aC,bG,a8,Option.map_none,Option.map_some,aJ,aK,aF,aG,aW,Nat.one_ne_zero,Nat.zero_ne_one,↓fJ,↓fK,↓fM,↓fN,n4,n5,n7,hso,hsx,s1,s2,s3,s4,sr]
      refine aL (h1) (by simp only [aA,aO, *]) ?_;simp only [↓pre,simprocAttr,aA,sx,fF,eP,bne,aC,bG,a8,Option.map_none,Option.map_some,aJ,aK,aF,aG,aW,Nat.one_ne_zero,Nat.zero_ne_one,↓fJ,↓fK,↓fM,↓fN,n4,n5,n7,hso,hsx,s1,s2,s3,s4,sr];(refine bM (c1) (by simp only [aA,aO, *]) (by intro k;rfl) ?_);simp only [↓pre,simprocAttr,aA,sx,fF,eP,bne,aC,bG,a8,Option.map_none,Option.map_some,aJ,aK,aF,aG,aW,Nat.one_ne_zero,Nat.zero_ne_one,↓fJ,↓fK,↓fM,↓fN,n4,n5,n7,hso,hsx,s1,s2,s3,s4,sr];(refine bM (c2) (by simp only [aA,aO, *]) (by intro k;rfl) ?_);simp only [↓pre,simprocAttr,aA,sx,fF,eP,bne,aC,bG,a8,Option.map_none,Option.map_some,aJ,aK,aF,aG,aW,Nat.one_ne_zero,Nat.zero_ne_one,↓fJ,↓fK,↓fM,↓fN,n4,n5,n7,hso,hsx,s1,s2,s3,s4,sr]
      refine cU (by kernel_rfl) ?_
      simp only [↓pre,simprocAttr,aA,sx,fF,eP,bne,aC,bG,a8,Option.map_none,Option.map_some,aJ,aK,aF,aG,aW,Nat.one_ne_zero,Nat.zero_ne_one,↓fJ,↓fK,↓fM,↓fN,n4,n5,n7,hso,hsx,s1,s2,s3,s4,sr]
      refine cU (by kernel_rfl) ?_
      simp only [↓pre,simprocAttr,aA,sx,fF,eP,bne,aC,bG,a8,Option.map_none,Option.map_some,aJ,aK,aF,aG,aW,Nat.one_ne_zero,Nat.zero_ne_one,↓fJ,↓fK,↓fM,↓fN,n4,n5,n7,hso,hsx,s1,s2,s3,s4,sr]
      refine aL (c3) (by simp only [aA,aO, *]) ?_;simp only [↓pre,simprocAttr,aA,sx,fF,eP,bne,aC,bG,a8,Option.map_none,Option.map_some,aJ,aK,aF,aG,aW,Nat.one_ne_zero,Nat.zero_ne_one,↓fJ,↓fK,↓fM,↓fN,n4,n5,n7,hso,hsx,s1,s2,s3,s4,w1,w2,hv.len',hfit',sr];refine aL (c4) (by simp only [aA,aO, *]) ?_;simp only [↓pre,simprocAttr,aA,sx,fF,eP,bne,aC,bG,a8,Option.map_none,Option.map_some,aJ,aK,aF,aG,aW,Nat.one_ne_zero,Nat.zero_ne_one,↓fJ,↓fK,↓fM,↓fN,n4,n5,n7,hso,hsx,s1,s2,s3,s4,w1,w2,hv.len',hfit',sr];refine aL (c5) (by rfl) ?_;simp only [↓pre,simprocAttr,aA,sx,fF,eP,bne,aC,bG,a8,Option.map_none,Option.map_some,aJ,aK,aF,aG,aW,Nat.one_ne_zero,Nat.zero_ne_one,↓fJ,↓fK,↓fM,↓fN,n4,n5,n7,hso,hsx,s1,s2,s3,s4,w1,w2,hv.len',hfit',sr];refine aL (c6) (by simp only [aA,aO, *]) ?_;simp only [↓pre,simprocAttr,aA,sx,fF,eP,bne,aC,bG,a8,Option.map_none,Option.map_some,aJ,aK,aF,aG,aW,Nat.one_ne_zero,Nat.zero_ne_one,↓fJ,↓fK,↓fM,↓fN,n4,n5,n7,hso,hsx,s1,s2,s3,s4,w1,w2,hv.len',hfit',sr]
      exact ⟨0,hz.out _⟩
      )
   ·rw [if_neg hck] at c5
    rw [decide_eq_false hck,Bool.false_and] at hok
    rw [hok,if_neg (by decide)] at hE
    have hz:=hfz 150 hE (by decide)
    rw [hE]
    replace hz:=aB.mk hz
    replace hok:=aB.mk hok
    replace hE:=aB.mk hE
    replace hfz:=aB.mk hfz
    replace hfit:=aB.mk hfit
    replace hpl:=aB.mk hpl
    generalize lE k r c w (b6 bs) (dK bs) (cE bs)=CK at *
    simp only [aP] at c5
    rcases hTRf with hT | hT
    all_goals rw [hT] at c4 c5
    all_goals clear q1 pt
    all_goals replace hT:=aB.mk hT
    all_goals (
     refine bJ follows Tryz.func92 (by unfold Tryz.f92;rfl) (by unfold Tryz.f92;simp) eP (by unfold Tryz.f92;simp) (by kernel_rfl) ?_;unfold Tryz.f92
     simp only [↓pre,simprocAttr,aA,sx,fF,eP,bne,aC,bG,a8,Option.map_none,Option.map_some,aJ,aK,aF,aG,aW,Nat.one_ne_zero,Nat.zero_ne_one,↓fJ,↓fK,↓fM,↓fN,n4,n5,n7,hso,hsx,s1,s2,s3,s4,sr]
     refine aL (h1) (by simp only [aA,aO, *]) ?_;simp only [↓pre,simprocAttr,aA,sx,fF,eP,bne,aC,bG,a8,Option.map_none,Option.map_some,aJ,aK,aF,aG,aW,Nat.one_ne_zero,Nat.zero_ne_one,↓fJ,↓fK,↓fM,↓fN,n4,n5,n7,hso,hsx,s1,s2,s3,s4,sr];(refine bM (c1) (by simp only [aA,aO, *]) (by intro k;rfl) ?_);simp only [↓pre,simprocAttr,aA,sx,fF,eP,bne,aC,bG,a8,Option.map_none,Option.map_some,aJ,aK,aF,aG,aW,Nat.one_ne_zero,Nat.zero_ne_one,↓fJ,↓fK,↓fM,↓fN,n4,n5,n7,hso,hsx,s1,s2,s3,s4,sr];(refine bM (c2) (by simp only [aA,aO, *]) (by intro k;rfl) ?_);simp only [↓pre,simprocAttr,aA,sx,fF,eP,bne,aC,bG,a8,Option.map_none,Option.map_some,aJ,aK,aF,aG,aW,Nat.one_ne_zero,Nat.zero_ne_one,↓fJ,↓fK,↓fM,↓fN,n4,n5,n7,hso,hsx,s1,s2,s3,s4,sr]
     refine cU (by kernel_rfl) ?_
     simp only [↓pre,simprocAttr,aA,sx,fF,eP,bne,aC,bG,a8,Option.map_none,Option.map_some,aJ,aK,aF,aG,aW,Nat.one_ne_zero,Nat.zero_ne_one,↓fJ,↓fK,↓fM,↓fN,n4,n5,n7,hso,hsx,s1,s2,s3,s4,sr]
     refine cU (by kernel_rfl) ?_
     simp only [↓pre,simprocAttr,aA,sx,fF,eP,bne,aC,bG,a8,Option.map_none,Option.map_some,aJ,aK,aF,aG,aW,Nat.one_ne_zero,Nat.zero_ne_one,↓fJ,↓fK,↓fM,↓fN,n4,n5,n7,hso,hsx,s1,s2,s3,s4,sr]
     refine aL (c3) (by simp only [aA,aO, *]) ?_;simp only [↓pre,simprocAttr,aA,sx,fF,eP,bne,aC,bG,a8,Option.map_none,Option.map_some,aJ,aK,aF,aG,aW,Nat.one_ne_zero,Nat.zero_ne_one,↓fJ,↓fK,↓fM,↓fN,n4,n5,n7,hso,hsx,s1,s2,s3,s4,w1,w2,hv.len',hfit',hck,sr];refine aL (c4) (by simp only [aA,aO, *]) ?_;simp only [↓pre,simprocAttr,aA,sx,fF,eP,bne,aC,bG,a8,Option.map_none,Option.map_some,aJ,aK,aF,aG,aW,Nat.one_ne_zero,Nat.zero_ne_one,↓fJ,↓fK,↓fM,↓fN,n4,n5,n7,hso,hsx,s1,s2,s3,s4,w1,w2,hv.len',hfit',hck,sr];refine aL (c5) (by rfl) ?_;simp only [↓pre,simprocAttr,aA,sx,fF,eP,bne,aC,bG,a8,Option.map_none,Option.map_some,aJ,aK,aF,aG,aW,Nat.one_ne_zero,Nat.zero_ne_one,↓fJ,↓fK,↓fM,↓fN,n4,n5,n7,hso,hsx,s1,s2,s3,s4,w1,w2,hv.len',hfit',hck,sr]
     exact ⟨0,hz.out _⟩
     )
  ·have hfit':((bs.length:Nat):Int) < ((7+6*pN bs:Nat):Int):=by omega
   have hok:pV k r c w bs=false:=by unfold pV;rw [decide_eq_false hfit];rfl
   rw [hok,if_neg (by decide)] at hE
   have hz:=hfz 150 hE (by decide)
   rw [hE]
   replace hz:=aB.mk hz
   replace hok:=aB.mk hok
   replace hE:=aB.mk hE
   replace hfz:=aB.mk hfz
   replace hfit:=aB.mk hfit
   refine bJ follows Tryz.func92 (by unfold Tryz.f92;rfl) (by unfold Tryz.f92;simp) eP (by unfold Tryz.f92;simp) (by kernel_rfl) ?_;unfold Tryz.f92
   simp only [↓pre,simprocAttr,aA,sx,fF,eP,bne,aC,bG,a8,Option.map_none,Option.map_some,aJ,aK,aF,aG,aW,Nat.one_ne_zero,Nat.zero_ne_one,↓fJ,↓fK,↓fM,↓fN,n4,n5,n7,hso,hsx,s1,s2,s3,s4,sr]
   refine aL (h1) (by simp only [aA,aO, *]) ?_;simp only [↓pre,simprocAttr,aA,sx,fF,eP,bne,aC,bG,a8,Option.map_none,Option.map_some,aJ,aK,aF,aG,aW,Nat.one_ne_zero,Nat.zero_ne_one,↓fJ,↓fK,↓fM,↓fN,n4,n5,n7,hso,hsx,s1,s2,s3,s4,sr];(refine bM (c1) (by simp only [aA,aO, *]) (by intro k;rfl) ?_);simp only [↓pre,simprocAttr,aA,sx,fF,eP,bne,aC,bG,a8,Option.map_none,Option.map_some,aJ,aK,aF,aG,aW,Nat.one_ne_zero,Nat.zero_ne_one,↓fJ,↓fK,↓fM,↓fN,n4,n5,n7,hso,hsx,s1,s2,s3,s4,sr];(refine bM (c2) (by simp only [aA,aO, *]) (by intro k;rfl) ?_);simp only [↓pre,simprocAttr,aA,sx,fF,eP,bne,aC,bG,a8,Option.map_none,Option.map_some,aJ,aK,aF,aG,aW,Nat.one_ne_zero,Nat.zero_ne_one,↓fJ,↓fK,↓fM,↓fN,n4,n5,n7,hso,hsx,s1,s2,s3,s4,sr]
   refine cU (by kernel_rfl) ?_
   simp only [↓pre,simprocAttr,aA,sx,fF,eP,bne,aC,bG,a8,Option.map_none,Option.map_some,aJ,aK,aF,aG,aW,Nat.one_ne_zero,Nat.zero_ne_one,↓fJ,↓fK,↓fM,↓fN,n4,n5,n7,hso,hsx,s1,s2,s3,s4,sr]
   refine cU (by kernel_rfl) ?_
   simp only [↓pre,simprocAttr,aA,sx,fF,eP,bne,aC,bG,a8,Option.map_none,Option.map_some,aJ,aK,aF,aG,aW,Nat.one_ne_zero,Nat.zero_ne_one,↓fJ,↓fK,↓fM,↓fN,n4,n5,n7,hso,hsx,s1,s2,s3,s4,sr]
   refine aL (c3) (by simp only [aA,aO, *]) ?_;simp only [↓pre,simprocAttr,aA,sx,fF,eP,bne,aC,bG,a8,Option.map_none,Option.map_some,aJ,aK,aF,aG,aW,Nat.one_ne_zero,Nat.zero_ne_one,↓fJ,↓fK,↓fM,↓fN,n4,n5,n7,hso,hsx,s1,s2,s3,s4,w1,w2,hv.len',hfit',sr]
   exact ⟨0,hz.out _⟩
 ·have hE:nE k r c w bs=(if bL k r c w=true then (if (bs.length:Int)=wI k c then 0 else 20) else 2):=by
   unfold nE
   by_cases hm:bL k r c w=true
   ·rw [if_pos hm,if_pos hm,if_neg (fun h=>hg ⟨hm,h⟩),if_neg (fun h=>hg ⟨hm,h⟩)]
   ·rw [if_neg hm,if_neg hm]
  have hne:nE k r c w bs≠0:=by
   rw [hE]
   by_cases hm:bL k r c w=true
   ·rw [if_pos hm,if_neg (fun h=>hg ⟨hm,h⟩)];decide
   ·rw [if_neg hm];decide
  rw [←hE] at h1
  have hz:=hfz _ rfl hne
  replace hz:=aB.mk hz
  replace hE:=aB.mk hE
  replace hfz:=aB.mk hfz
  refine bJ follows Tryz.func92 (by unfold Tryz.f92;rfl) (by unfold Tryz.f92;simp) eP (by unfold Tryz.f92;simp) (by kernel_rfl) ?_;unfold Tryz.f92
  simp only [↓pre,simprocAttr,aA,sx,fF,eP,bne,aC,bG,a8,Option.map_none,Option.map_some,aJ,aK,aF,aG,aW,Nat.one_ne_zero,Nat.zero_ne_one,↓fJ,↓fK,↓fM,↓fN,sr]
  refine aL (h1) (by simp only [aA,aO, *]) ?_;simp only [↓pre,simprocAttr,aA,sx,fF,eP,bne,aC,bG,a8,Option.map_none,Option.map_some,aJ,aK,aF,aG,aW,Nat.one_ne_zero,Nat.zero_ne_one,↓fJ,↓fK,↓fM,↓fN,hne,sr]
  exact ⟨0,hz.out _⟩
theorem tV {v:AV} {n:Nat} {cs:List AV} (h:bD v n cs):v.cells=[v]:=by
 rcases h.form with ⟨rfl,_⟩ | ⟨_,_,rfl,_⟩ | ⟨_,_,rfl,_⟩ <;> rfl
theorem tW {v:AV} {n:Nat} {cs:List AV} (h:bD v n cs):fC v=true:=by
 rcases h.form with ⟨rfl,_⟩ | ⟨_,_,rfl,_⟩ | ⟨_,_,rfl,_⟩ <;> rfl
abbrev aei (k r c w:Int) (v:AV):AV := .agg [.val (.int .i64 k),.val (.int .i64 r),.val (.int .i64 c),.val (.int .i64 w),v]
theorem as5 (k r c w:Int) (v:AV) (n:Nat) (cs:List AV) (hv:bD v n cs) (g:FuncId) (a:Int) (is:Bool) (e:Int) (hg:aY Tryz.prog g [aei k r c w v] ⟨.tup [aE a,bC is,aE e],[]⟩):aY Tryz.prog 87 [aei k r c w v,.clo g []] ⟨.tup [aE (if e=0 then (if is=true then a else 0) else 0),aE e],[]⟩:=by
 have f1:=cA hv
 have q1:=bP hv
 have hp:=hv.plain
 by_cases he:e=0
 ·subst he
  rw [if_pos rfl]
  cases is with
  | true =>
   rw [if_pos rfl]
   refine bB follows Tryz.func87 (by unfold Tryz.f87;rfl) (by unfold Tryz.f87;simp) aD (by unfold Tryz.f87;simp) (by kernel_rfl) ?_;unfold Tryz.f87
   simp only [↓pre,simprocAttr,aA,sx,aap,aD,aC,f1,q1,sr]
   refine aL (hg) (by simp only [aA,aO, *]) ?_;simp only [↓pre,simprocAttr,aA,sx,aap,aD,aC,f1,q1,sr]
  | false =>
   rw [if_neg (by decide)]
   refine bB follows Tryz.func87 (by unfold Tryz.f87;rfl) (by unfold Tryz.f87;simp) aD (by unfold Tryz.f87;simp) (by kernel_rfl) ?_;unfold Tryz.f87
   simp only [↓pre,simprocAttr,aA,sx,aap,aD,aC,f1,q1,sr]
   refine aL (hg) (by simp only [aA,aO, *]) ?_;simp only [↓pre,simprocAttr,aA,sx,aap,aD,aC,f1,q1,sr]
 ·rw [if_neg he]
  refine bB follows Tryz.func87 (by unfold Tryz.f87;rfl) (by unfold Tryz.f87;simp) aD (by unfold Tryz.f87;simp) (by kernel_rfl) ?_;unfold Tryz.f87
  simp only [↓pre,simprocAttr,aA,sx,aap,aD,aC,f1,q1,sr]
  refine aL (hg) (by simp only [aA,aO, *]) ?_;simp only [↓pre,simprocAttr,aA,sx,aap,aD,aC,f1,q1,he,sr]
theorem as6 (k r c w:Int) (v:AV) (ps:List bN) (cells:List AV) (hv:fQ v ps cells):aY Tryz.prog 88 [aei k r c w v] ⟨adO k r c w ps,[]⟩:=by
 have h:=art k r c w v ps cells hv
 have f1:=cA hv.rd
 have q1:=bP hv.rd
 have hp:=hv.rd.plain
 unfold adO at h ⊢
 generalize (jF k r c w ps).getD 0 0=a at *
 generalize decide (1≤(jF k r c w ps).length)=b at *
 generalize eD k r c w ps=e at *
 refine bB follows Tryz.func88 (by unfold Tryz.f88;rfl) (by unfold Tryz.f88;simp) aD (by unfold Tryz.f88;simp) (by kernel_rfl) ?_;unfold Tryz.f88
 simp only [↓pre,simprocAttr,aA,sx,aks,aD,f1,q1]
 refine aL (h) (by simp only [aA,aO, *]) ?_;simp only [↓pre,simprocAttr,aA,sx,aks,aD,f1,q1,bC]
def gA (k r c w:Int) (ps:List bN):Int:=(jF k r c w ps).getD 0 0
def amF (k r c w:Int) (ps:List bN):Int:=(jF k r c w ps).getD 1 0
theorem as7 (k r c w:Int) (v:AV) (ps:List bN) (cells:List AV) (hv:fQ v ps cells):aY Tryz.prog 87 [aei k r c w v,.clo 88 []] ⟨.tup [aE (if eD k r c w ps=0 then gA k r c w ps else 0),aE (eD k r c w ps)],[]⟩:=by
 have h:=as5 k r c w v _ _ hv.rd _ _ _ _ (as6 k r c w v ps cells hv)
 have e:(if decide (1≤(jF k r c w ps).length)=true then (jF k r c w ps).getD 0 0 else 0)=gA k r c w ps:=by
  unfold gA
  split
  ·rfl
  ·rename_i h1
   have:(jF k r c w ps).length=0:=by simp at h1;simp [h1]
   rw [List.eq_nil_of_length_eq_zero this]
   rfl
 rw [e] at h
 exact h
def eH (k r c w:Int) (ps:List bN):List UInt8:=lP k r c w ps 2 (gA k r c w ps) k.toNat
def gK (k r c w:Int) (ps:List bN):Int:=if eD k r c w ps=0 then (if gA k r c w ps=0 then 5 else if iL k r c w ps 2 (gA k r c w ps) < k.toNat then 5 else nE k r c w (eH k r c w ps)) else eD k r c w ps
def pW (k r c w:Int) (ps:List bN):AV:=if gK k r c w ps=0 then .tup [kL (b6 (eH k r c w ps)) (dK (eH k r c w ps)) (cE (eH k r c w ps)),aE (gA k r c w ps),aE 0] else .tup [nQ,aE 0,aE (gK k r c w ps)]
theorem amG {k r c w:Int} {ps:List bN} (h:eD k r c w ps=0):bL k r c w=true∧dO k r c ps=true:=by
 unfold eD at h
 split at h
 ·rename_i h1
  split at h
  ·rename_i h2;exact ⟨h1,h2⟩
  ·omega
 ·omega
theorem amH {k r c w:Int} {ps:List bN} (hc:eD k r c w ps=0) (h:gA k r c w ps≠0):gV (gA k r c w ps)=true:=by
 have hl:1≤(jF k r c w ps).length:=by
  rcases Nat.eq_zero_or_pos (jF k r c w ps).length with h0 | h0
  ·exfalso
   apply h
   unfold gA
   rw [List.eq_nil_of_length_eq_zero h0]
   rfl
  ·exact h0
 have hm:=aru hl
 have hm2:gA k r c w ps∈(jO k r c w ps).filter (m9 k (fR k r c w ps)):=hm
 have:=(alx k r c w ps).2 _ (List.mem_filter.1 hm2).1
 unfold gV
 exact decide_eq_true this
theorem agN (bs:List UInt8) (n:Nat) (h:bs.length=n):bD (bE n (aQ bs)) bs.length (aQ bs++[]):=by rw [h,List.append_nil];exact dH _ _
theorem amI {k r c w:Int} {ps:List bN} (hm:bL k r c w=true):(eH k r c w ps).length=k.toNat*c.toNat:=vA _ _ _ _ _ _ _ _
def lR:Nat→Bool:=fun d=>d != 4
theorem amJ (k r c w:Int) (v:AV) (ps:List bN) (cells:List AV) (hv:fQ v ps cells):aY Tryz.prog 17 [aA k r c w,v] ⟨pW k r c w ps,[]⟩:=by
 refine dY ?_
 have h1:=as7 k r c w v ps cells hv
 have hvc:=tV hv.rd
 have hvo:=tW hv.rd
 have f1:=cA hv.rd
 have q1:=bP hv.rd
 have hp:=hv.rd.plain
 have hz:gK k r c w ps≠0→∀ m,fzT 0 m (.tup [.agg [.val (.int .i64 0),.val (.int .i64 0),.val (.slice none 0 0)],.val (.int .i64 0),.val (.int .i64 (gK k r c w ps))])=some (pW k r c w ps):=fun h m=>by
  unfold pW
  rw [if_neg h]
  exact y6 (fun x hx=>by
   simp only [List.mem_cons,List.not_mem_nil,or_false] at hx
   rcases hx with rfl | rfl | rfl
   ·exact sY fun c hc=>by
     simp only [List.mem_cons,List.not_mem_nil,or_false] at hc
     rcases hc with rfl | rfl | rfl <;> exact bU _
   ·exact bU _
   ·exact bU _) 0 m
 by_cases hc:eD k r c w ps=0
 ·obtain ⟨hm,hr⟩:=amG hc
  have hE:gK k r c w ps=if gA k r c w ps=0 then 5 else if iL k r c w ps 2 (gA k r c w ps) < k.toNat then 5 else nE k r c w (eH k r c w ps):=by unfold gK;rw [if_pos hc]
  rw [if_pos hc,hc] at h1
  have hver:=amH hc
  have hrd:=fun h=>agI k r c w 2 (gA k r c w ps) v ps cells hv hm hr (.inr rfl) (hver h)
  have hcv:gK k r c w ps=0→pW k r c w ps = .tup [kL (b6 (eH k r c w ps)) (dK (eH k r c w ps)) (cE (eH k r c w ps)),aE (gA k r c w ps),aE 0]:=fun h=>by unfold pW;rw [if_pos h]
  have hdl:=amI (ps:=ps) hm
  have hcD:eH k r c w ps=lP k r c w ps 2 (gA k r c w ps) k.toNat:=rfl
  unfold pO at hrd
  rw [←hcD] at hrd
  clear hcD
  generalize gA k r c w ps=W at *
  generalize eH k r c w ps=D at *
  by_cases hW:W=0
  ·subst hW
   rw [if_pos rfl] at hE
   have hz:=hz (by rw [hE];decide)
   rw [hE] at hz
   replace hz:=aB.mk hz
   replace hE:=aB.mk hE
   clear hrd hver hcv
   refine bJ follows Tryz.func17 (by unfold Tryz.f17;rfl) (by unfold Tryz.f17;simp) lR (by unfold Tryz.f17;simp) (by kernel_rfl) ?_;unfold Tryz.f17
   simp only [↓pre,simprocAttr,aA,sx,oA,lR,bne,aC,bG,aJ,aK,aF,aG,aW,f1,q1,Nat.one_ne_zero,Nat.zero_ne_one,↓hvc,↓hvo,sr]
   refine aL (h1) (by simp only [aA,aO, *]) ?_;simp only [↓pre,simprocAttr,aA,sx,oA,lR,bne,aC,bG,aJ,aK,aF,aG,aW,f1,q1,Nat.one_ne_zero,Nat.zero_ne_one,↓hvc,↓hvo,sr]
   exact ⟨0,hz.out _⟩
  ·rw [if_neg hW] at hE
   have hrd:=hrd hW
   clear hver
   by_cases hlt:iL k r c w ps 2 W < k.toNat
   ·rw [if_pos hlt] at hE hrd
    have hz:=hz (by rw [hE];decide)
    rw [hE] at hz
    replace hz:=aB.mk hz
    replace hE:=aB.mk hE
    clear hcv
    simp only [aP] at hrd
    refine bJ follows Tryz.func17 (by unfold Tryz.f17;rfl) (by unfold Tryz.f17;simp) lR (by unfold Tryz.f17;simp) (by kernel_rfl) ?_;unfold Tryz.f17
    simp only [↓pre,simprocAttr,aA,sx,oA,lR,bne,aC,bG,aJ,aK,aF,aG,aW,f1,q1,Nat.one_ne_zero,Nat.zero_ne_one,↓hvc,↓hvo,sr]
    refine aL (h1) (by simp only [aA,aO, *]) ?_;simp only [↓pre,simprocAttr,aA,sx,oA,lR,bne,aC,bG,aJ,aK,aF,aG,aW,f1,q1,Nat.one_ne_zero,Nat.zero_ne_one,↓hvc,↓hvo,hW,sr];refine aL (hrd) (by simp only [aA,aO, *]) ?_;simp only [↓pre,simprocAttr,aA,sx,oA,lR,bne,aC,bG,aJ,aK,aF,aG,aW,f1,q1,Nat.one_ne_zero,Nat.zero_ne_one,↓hvc,↓hvo,hW,sr]
    exact ⟨0,hz.out _⟩
   ·rw [if_neg hlt] at hE hrd
    have hpa:=as4 k r c w (bE (k.toNat*c.toNat) (aQ D)) D [] (agN D _ hdl)
    unfold rS at hpa
    have pt:=(dH (k.toNat*c.toNat) (aQ D)).plain
    rw [←hE] at hpa
    replace hlt:=aB.mk hlt
    by_cases he:gK k r c w ps=0
    ·rw [he,if_pos rfl] at hpa
     have hcv:=hcv he
     have hf:=fun m=>y6 (fun x (hx:x∈[kL (b6 D) (dK D) (cE D),aE W,aE 0])=>by
      simp only [List.mem_cons,List.not_mem_nil,or_false] at hx
      rcases hx with rfl | rfl | rfl
      ·exact aeh _ _ _
      ·exact bU _
      ·exact bU _) 0 m
     rw [←hcv] at hf
     unfold kL at hpa
     rw [hcv] at hf
     unfold kL at hf
     rw [hcv]
     unfold kL
     replace hcv:=aB.mk hcv
     replace hE:=aB.mk hE
     replace hz:=aB.mk hz
     generalize b6 D=pl at *
     generalize dK D=pd at *
     generalize cE D=pr at *
     have hTRf:bE pr.length (bW pr) = .val (.slice none 0 0)∨bE pr.length (bW pr) = .tree pr.length pr.length (bW pr) false:=by unfold bE;split;exact .inl rfl;exact .inr rfl
     rcases hTRf with hT | hT
     all_goals rw [hT] at hpa hf ⊢
     all_goals replace hT:=aB.mk hT
     all_goals replace hf:=aB.mk hf
     all_goals (
      refine bJ follows Tryz.func17 (by unfold Tryz.f17;rfl) (by unfold Tryz.f17;simp) lR (by unfold Tryz.f17;simp) (by kernel_rfl) ?_;unfold Tryz.f17
      simp only [↓pre,simprocAttr,aA,sx,oA,lR,bne,aC,bG,aJ,aK,aF,aG,aW,f1,q1,Nat.one_ne_zero,Nat.zero_ne_one,↓hvc,↓hvo,sr]
      refine aL (h1) (by simp only [aA,aO, *]) ?_;simp only [↓pre,simprocAttr,aA,sx,oA,lR,bne,aC,bG,aJ,aK,aF,aG,aW,f1,q1,Nat.one_ne_zero,Nat.zero_ne_one,↓hvc,↓hvo,hW,sr];refine aL (hrd) (by simp only [aA,aO, *]) ?_;simp only [↓pre,simprocAttr,aA,sx,oA,lR,bne,aC,bG,aJ,aK,aF,aG,aW,f1,q1,Nat.one_ne_zero,Nat.zero_ne_one,↓hvc,↓hvo,hW,sr];refine aL (hpa) (by simp only [aA,aO, *]) ?_;simp only [↓pre,simprocAttr,aA,sx,oA,lR,bne,aC,bG,aJ,aK,aF,aG,aW,f1,q1,Nat.one_ne_zero,Nat.zero_ne_one,↓hvc,↓hvo,hW,sr]
      exact ⟨0,hf.out _⟩
     )
    ·rw [if_neg he] at hpa
     have hz:=hz he
     replace hz:=aB.mk hz
     replace hE:=aB.mk hE
     replace hcv:=aB.mk hcv
     generalize gK k r c w ps=CE at *
     unfold nQ aP at hpa
     refine bJ follows Tryz.func17 (by unfold Tryz.f17;rfl) (by unfold Tryz.f17;simp) lR (by unfold Tryz.f17;simp) (by kernel_rfl) ?_;unfold Tryz.f17
     simp only [↓pre,simprocAttr,aA,sx,oA,lR,bne,aC,bG,aJ,aK,aF,aG,aW,f1,q1,Nat.one_ne_zero,Nat.zero_ne_one,↓hvc,↓hvo,sr]
     refine aL (h1) (by simp only [aA,aO, *]) ?_;simp only [↓pre,simprocAttr,aA,sx,oA,lR,bne,aC,bG,aJ,aK,aF,aG,aW,f1,q1,Nat.one_ne_zero,Nat.zero_ne_one,↓hvc,↓hvo,hW,he,sr];refine aL (hrd) (by simp only [aA,aO, *]) ?_;simp only [↓pre,simprocAttr,aA,sx,oA,lR,bne,aC,bG,aJ,aK,aF,aG,aW,f1,q1,Nat.one_ne_zero,Nat.zero_ne_one,↓hvc,↓hvo,hW,he,sr];refine aL (hpa) (by simp only [aA,aO, *]) ?_;simp only [↓pre,simprocAttr,aA,sx,oA,lR,bne,aC,bG,aJ,aK,aF,aG,aW,f1,q1,Nat.one_ne_zero,Nat.zero_ne_one,↓hvc,↓hvo,hW,he,sr]
     exact ⟨0,hz.out _⟩
 ·have hE:gK k r c w ps=eD k r c w ps:=by unfold gK;rw [if_neg hc]
  rw [if_neg hc] at h1
  have hz:=hz (by rw [hE];exact hc)
  rw [hE] at hz
  replace hz:=aB.mk hz
  replace hE:=aB.mk hE
  refine bJ follows Tryz.func17 (by unfold Tryz.f17;rfl) (by unfold Tryz.f17;simp) lR (by unfold Tryz.f17;simp) (by kernel_rfl) ?_;unfold Tryz.f17
  simp only [↓pre,simprocAttr,aA,sx,oA,lR,bne,aC,bG,aJ,aK,aF,aG,aW,f1,q1,Nat.one_ne_zero,Nat.zero_ne_one,↓hvc,↓hvo,sr]
  refine aL (h1) (by simp only [aA,aO, *]) ?_;simp only [↓pre,simprocAttr,aA,sx,oA,lR,bne,aC,bG,aJ,aK,aF,aG,aW,f1,q1,Nat.one_ne_zero,Nat.zero_ne_one,↓hvc,↓hvo,hc,sr]
  exact ⟨0,hz.out _⟩

structure acj where
 dr:Nat
 row:Int
 sl:Nat
 bs:List UInt8
def acj.cells (p:acj):List AV:=[aE p.dr,aE p.row,aE p.sl,bE p.bs.length (aQ p.bs)]
def as8 (l:List acj):List AV:=l.flatMap acj.cells
structure WrA (m0 m:aH) (a:Nat) (k r c w:Int) (row:AV) (num:Int) (kv:AV) (l:List acj):Prop where
 ex:∃ v,m.at_ a=some ⟨[aE k,aE r,aE c,aE w,row,aE num,kv,v],195,.var,true⟩∧cH .var m 69 4 v l.length (as8 l)∧lY m0 v
 lt:a < m0.next
 next:m0.next≤m.next
 mm:m.mm=m0.mm
 at_:∀ j k,m0.at_ j=some k→j < m0.next→j≠a→m.at_ j=some k
structure auN (m m':aH) (pv:AV):Prop where
 next:m.next≤m'.next
 mm:m'.mm=m.mm
 at_:∀ j k,m.at_ j=some k→j < m.next→cP pv≠some j→m'.at_ j=some k




theorem amK {P:Program} {once:Nat→Bool} {n id id2:Nat} {b:Code} {K:bI→aH→Prop} {Q:Ex→bI→aH→Prop} {e:bI} {m:aH} (R:bI→aH→Prop) (h2:∀ e m,R e m→K e m) (h1:xW (eC P once n b) (nZ id (nZ id2 (o7 R Q))) e m):xW (eC P once n b) (nZ id (nZ id2 (o7 K Q))) e m :=
 aj2 (.loop b) _ _ e m (adk (adk (adj h2 fun _ _ _ h=>h))) h1
def dD (k r c w:Int) (v:AV):AV := .agg [aE k,aE r,aE c,aE w,v]
theorem as9 (k r c w:Int) (hm:bL k r c w=true):aY Tryz.prog 211 [aA k r c w] ⟨aE (dV k r c),[]⟩:=by
 have hmn:=gF hm
 have w1:IntKind.i64.wrap (k+r)=k+r:=dU (by omega) (by omega)
 have w2:IntKind.i64.wrap (4*(k+r))=4*(k+r):=dU (by omega) (by omega)
 have w3:IntKind.i64.wrap (12+4*(k+r))=12+4*(k+r):=dU (by omega) (by omega)
 have w4:IntKind.i64.wrap (12+4*(k+r)+c)=dV k r c:=dU (by omega) (by omega)
 replace hmn:=aB.mk hmn
 refine bB follows Tryz.func211 (by unfold Tryz.f211;rfl) (by unfold Tryz.f211;simp) aD (by unfold Tryz.f211;simp) (by kernel_rfl) ?_;unfold Tryz.f211
 simp only [↓pre,simprocAttr,aA,sx,apW,aD,w1,w2,w3,w4]
def rT (k r c w:Int) (L:List (List UInt8)):Bool:=decide ((L.length:Int)=(k+r)*w*2) && L.all fun b=>eO k r c b.length
def iU (k r c w:Int) (L:List (List UInt8)):Int:=if bL k r c w=true then (if rT k r c w L=true then 0 else 90) else 2
theorem agO {k r c w:Int} (h:bL k r c w=true):0≤(k+r)*w∧(k+r)*w≤4096:=by
 have h1:=jE.1 h
 have h2:(k+r)*w≤16*w:=Int.mul_le_mul_of_nonneg_right (by omega) (by omega)
 exact ⟨Int.mul_nonneg (by omega) (by omega),by omega⟩
theorem agP (k r c w:Int) (v:AV) (L:List (List UInt8)) (cells:List AV) (hv:fT v L cells):aY Tryz.prog 124 [dD k r c w v] ⟨aE (iU k r c w L),[]⟩:=by
 have hp:=hv.rd.plain
 have hf:=cA hv.rd
 have ho:=bP hv.rd
 have hd:=tO k r c w
 unfold iU dD
 cases hm:bL k r c w with
 | false =>
  simp only [hm,Bool.false_eq_true,if_false] at hd ⊢
  refine bB follows Tryz.func124 (by unfold Tryz.f124;rfl) (by unfold Tryz.f124;simp) aD (by unfold Tryz.f124;simp) (by kernel_rfl) ?_;unfold Tryz.f124
  simp only [↓pre,simprocAttr,aA,sx,rD,aD,aC,hf,ho]
  refine aL (hd) (by rfl) ?_;simp only [↓pre,simprocAttr,aA,sx,rD,aD,aC,bC,dC,cS]
 | true =>
  simp only [hm,if_true] at hd ⊢
  have hmn:=gF hm
  have hb:=agO hm
  have hs:=as9 k r c w hm
  have w1:IntKind.i64.wrap ((k+r)*w)=(k+r)*w:=dU (by omega) (by omega)
  have w2:IntKind.i64.wrap ((k+r)*w*2)=(k+r)*w*2:=dU (by omega) (by omega)
  by_cases hl:(L.length:Int)=(k+r)*w*2
  ·generalize hres:(if rT k r c w L=true then (0:Int) else 90)=E
   have hno:∀ b:List UInt8,b∈L→eO k r c b.length=false→E=90:=fun b hb h=>by
    rw [←hres,if_neg]
    intro h2
    unfold rT at h2
    rw [Bool.and_eq_true,List.all_eq_true] at h2
    rw [h2.2 b hb] at h
    cases h
   have hyes:(∀ b∈L,eO k r c b.length=true)→E=0:=fun h=>by
    rw [←hres,if_pos]
    unfold rT
    rw [decide_eq_true hl,Bool.true_and,List.all_eq_true]
    exact h
   have hln:∀ n:Nat,eO k r c n=(decide ((n:Int)=0) || decide ((n:Int)=dV k r c)):=fun _=>rfl
   obtain ⟨N,hN⟩:∃ N:Nat,L.length=N:=⟨_,rfl⟩
   have hN2:N≤8192:=by omega
   replace hmn:=aB.mk hmn
   replace hb:=aB.mk hb
   replace hres:=aB.mk hres
   replace hno:=aB.mk hno
   replace hyes:=aB.mk hyes
   replace hN:=aB.mk hN
   have hN':=hN.out
   refine bB follows Tryz.func124 (by unfold Tryz.f124;rfl) (by unfold Tryz.f124;simp) aD (by unfold Tryz.f124;simp) (by kernel_rfl) ?_;unfold Tryz.f124
   simp only [↓pre,simprocAttr,aA,sx,rD,aD,aC,aI,hf,ho,hv.rd.len',w1,w2,sr]
   refine aL (hd) (by rfl) ?_;simp only [↓pre,simprocAttr,aA,sx,rD,aD,aC,aI,hf,ho,hv.rd.len',w1,w2,hl,sr]
   rw [b7]
   refine b8 (fun q e m=>∃ i,q+i=N∧e 1 = .tptr 0 [aE k,aE r,aE c,aE w,v]∧e 27=v∧e 28=aE ((k+r)*w*2)∧e 29=aE (i:Nat)∧aB (∀ j b,j < i→L[j]? = some b→eO k r c b.length=true)) N ⟨0,by omega,rfl,rfl,rfl,rfl,⟨fun j b h=>by omega⟩⟩ ?_
   rintro q e m ⟨i,hq,e1,e27,e28,e29,hJ⟩
   replace hq:=aB.mk hq
   by_cases hlt:i < N
   ·have hlt':((i:Nat):Int) < (k+r)*w*2:=by omega
    have wi:=cF (n:=i) (by omega)
    obtain ⟨b,hbi⟩:∃ b,L[i]? = some b:=⟨_,List.getElem?_eq_getElem (by omega)⟩
    obtain ⟨a,x,ha,hra⟩:=hv.at_ i b hbi
    have hil:i < L.length:=by omega
    have fa:=cA hra
    have oa:=bP hra
    have step:eO k r c b.length=true→∀ j b',j < i+1→L[j]? = some b'→eO k r c b'.length=true:=fun h j b' hj hb'=>by
     by_cases hji:j=i
     ·subst hji
      rw [hbi] at hb'
      cases hb'
      exact h
     ·exact hJ.out j b' (by omega) hb'
    replace step:=aB.mk step
    by_cases h1:(b.length:Int)=0
    ·simp only [↓pre,simprocAttr,aA,sx,rD,aD,aC,aI,hf,ho,hv.rd.len',w1,w2,e1,e27,e28,e29,hlt',hv.rd.addr',hil,ha,oa,hra.len',h1,wi,sr]
     exact ⟨q - 1,by have:=hq.out;omega,i+1,by have:=hq.out;omega,rfl,⟨step.out (by rw [hln,decide_eq_true h1];rfl)⟩⟩
    ·by_cases h2:(b.length:Int)=dV k r c
     ·have hz:¬ dV k r c=0:=fun h=>h1 (h2.trans h)
      simp only [↓pre,simprocAttr,aA,sx,rD,aD,aC,aI,hf,ho,hv.rd.len',w1,w2,e1,e27,e28,e29,hlt',hv.rd.addr',hil,ha,oa,hra.len',h2,hz,sr]
      refine aL (hs) (by rfl) ?_;simp only [↓pre,simprocAttr,aA,sx,rD,aD,aC,aI,hf,ho,hv.rd.len',w1,w2,e1,e27,e28,e29,wi,sr]
      exact ⟨q - 1,by have:=hq.out;omega,i+1,by have:=hq.out;omega,rfl,⟨step.out (by rw [hln,decide_eq_true h2,Bool.or_true])⟩⟩
     ·have hE:=hno.out b (List.mem_of_getElem? hbi) (by rw [hln,decide_eq_false h1,decide_eq_false h2];rfl)
      subst hE
      simp only [↓pre,simprocAttr,aA,sx,rD,aD,aC,aI,hf,ho,hv.rd.len',w1,w2,e1,e27,e28,e29,hlt',hv.rd.addr',hil,ha,oa,hra.len',h1,h2,sr]
      refine aL (hs) (by rfl) ?_;simp only [↓pre,simprocAttr,aA,sx,rD,aD,aC,aI,hf,ho,hv.rd.len',w1,w2,e1,e27,e28,e29,h2,sr]
   ·have hlt':¬ ((i:Nat):Int) < (k+r)*w*2:=by omega
    have hE:=hyes.out fun b hb=>by
     obtain ⟨j,hj⟩:=List.getElem?_of_mem hb
     have:=(List.getElem?_eq_some_iff.1 hj).1
     exact hJ.out j b (by omega) hj
    subst hE
    simp only [↓pre,simprocAttr,aA,sx,rD,aD,aC,aI,hf,ho,hv.rd.len',w1,w2,e1,e27,e28,e29,hlt',sr]
  ·have hB:rT k r c w L=false:=by unfold rT;rw [decide_eq_false hl];rfl
   rw [hB,if_neg (by decide)]
   replace hmn:=aB.mk hmn
   replace hb:=aB.mk hb
   refine bB follows Tryz.func124 (by unfold Tryz.f124;rfl) (by unfold Tryz.f124;simp) aD (by unfold Tryz.f124;simp) (by kernel_rfl) ?_;unfold Tryz.f124
   simp only [↓pre,simprocAttr,aA,sx,rD,aD,aC,aI,hf,ho,hv.rd.len',w1,w2,sr]
   refine aL (hd) (by rfl) ?_;simp only [↓pre,simprocAttr,aA,sx,rD,aD,aC,aI,hf,ho,hv.rd.len',w1,w2,hl,sr]
theorem amL (v:AV) (b:List UInt8) (x:List AV) (hv:bD v b.length (aQ b++x)) (hb:b.length≤65536):aY Tryz.prog 153 [v] ⟨if b.length=0 then aP else .tree b.length b.length (aQ b) true,[]⟩:=by
 refine dY ?_
 have hp:=hv.plain
 by_cases h0:b.length=0
 ·rw [if_pos h0]
  have h0':(b.length:Int)=0:=by omega
  refine bJ follows Tryz.func153 (by unfold Tryz.f153;rfl) (by unfold Tryz.f153;simp) aD (by unfold Tryz.f153;simp) (by kernel_rfl) ?_;unfold Tryz.f153
  simp only [↓pre,simprocAttr,aA,sx,akz,aD,aC,aM,hv.len',jR,h0',sr]
  exact ⟨0,fP⟩
 ·rw [if_neg h0]
  have h0':¬ (b.length:Int)=0:=by omega
  have hmk:=fun m=>qK m (n:=b.length) hb
  have hsrc:∀ m,fW Tryz.prog 5 1 m v=some (aQ b,b.length):=fun m=>by
   rcases hv.form with ⟨_,h⟩ | ⟨_,_,_,h⟩ | ⟨c,f,rfl,hle⟩
   ·exact absurd h h0
   ·exact absurd h h0
   ·rw [aby (by rw [List.length_append,gH];omega),Nat.mul_one,List.take_left' (gH b)]
  have hcp:∀ m:aH,o5 Tryz.prog 5 (m.push ⟨aZ b.length fun _=>0,5,.flat,true⟩) (.sl m.next 0 b.length b.length true) v=some ⟨aE (b.length:Nat),m.push ⟨aQ b,5,.flat,true⟩,none⟩:=fun m=>by
   have h2:cG Tryz.prog 5=some 1:=by kernel_rfl
   have h4:bR Tryz.prog 5 = .flat:=by kernel_rfl
   have hb:(m.push ⟨aZ b.length fun _=>0,5,.flat,true⟩).at_ m.next=some ⟨aZ b.length fun _=>0,5,.flat,true⟩:=by rw [aG,if_pos rfl]
   simp only [o5,h2,hsrc,hb,Option.bind_some,h4]
   rw [if_pos ⟨trivial,trivial,by rw [eE];omega⟩,agy rfl,Nat.min_self,Nat.mul_one,List.take_of_length_le (by rw [gH];omega)]
   congr 4
   unfold cI
   rw [gH,List.take_zero,List.nil_append,Nat.zero_add,List.drop_eq_nil_of_le (by rw [eE];omega),List.append_nil]
  refine bJ follows Tryz.func153 (by unfold Tryz.f153;rfl) (by unfold Tryz.f153;simp) aD (by unfold Tryz.f153;simp) (by kernel_rfl) ?_;unfold Tryz.f153
  simp only [↓pre,simprocAttr,aA,sx,akz,aD,aC,aM,hv.len',jR,h0',hmk,hcp,sr]
  exact ⟨0,by rw [sJ (by rw [aG,if_pos rfl]),List.drop_zero]⟩
theorem aaY (b:List UInt8):bD (if b.length=0 then aP else .tree b.length b.length (aQ b) true) b.length (aQ b++[]):=by
 rw [List.append_nil]
 split
 ·rename_i h;exact ⟨.inl ⟨rfl,h⟩⟩
 ·exact ⟨.inr (.inr ⟨_,_,rfl,Nat.le_refl _⟩)⟩
theorem ack {v:AV} {n:Nat} {cs:List AV} (h:bD v n cs):iN v=false:=by
 rcases h.form with ⟨rfl,_⟩ | ⟨_,_,rfl,_⟩ | ⟨_,_,rfl,_⟩ <;> rfl
theorem ata {P:Program} {t:TypeId} {v:AV} {n sz i j:Nat} {cs:List AV} (h:bD v n cs) (h1:(bZ P t).bind (cG P)=some sz) (hi:i < j) (hj:j≤n):∃ v',lU P t (some i) (some j) (some j) v=some v'∧bD v' (j - i) (cs.drop (i*sz)):=by
 obtain ⟨el,hel,hsz⟩:=Option.bind_eq_some_iff.1 h1
 rcases h.form with ⟨rfl,h0⟩ | ⟨_,_,rfl,h0⟩ | ⟨c,f,rfl,hc⟩
 ·omega
 ·omega
 ·refine ⟨.tree (j - i) (j - i) (cs.drop (i*sz)) true, ?_,⟨.inr (.inr ⟨_,true,rfl,Nat.le_refl _⟩)⟩⟩
  simp only [lU,hel,hsz,iG,Option.isSome_some,Option.isNone_some,Bool.and_false,Bool.false_eq_true,if_false,Option.bind_some,Option.getD_some,Option.getD_none]
  rw [if_pos (by omega),if_neg (by omega)]
  simp
def rU (L:List (List UInt8)) (W row:Nat) (n:Nat):List bN:=(List.range n).map fun i=>(L.getD ((i*W+row)*2) [],L.getD ((i*W+row)*2+1) [])
theorem acl (L:List (List UInt8)) (W row n:Nat):(rU L W row n).length=n:=by simp [rU]
theorem atb {L:List (List UInt8)} {W row n i:Nat} (h:i < n):(rU L W row n)[i]? = some (L.getD ((i*W+row)*2) [],L.getD ((i*W+row)*2+1) []):=by
 unfold rU
 rw [List.getElem?_map,List.getElem?_range h]
 rfl
theorem atc (L:List (List UInt8)) (W row n:Nat):rU L W row (n+1)=rU L W row n++[(L.getD ((n*W+row)*2) [],L.getD ((n*W+row)*2+1) [])]:=by
 unfold rU
 rw [List.range_succ,List.map_append]
 rfl
def tY (b:List UInt8):AV:=if b.length=0 then aP else .tree b.length b.length (aQ b) true
def lS (ps:List bN):List AV:=ps.flatMap fun p=>[tY p.1,tY p.2]
theorem atd (ps:List bN) (p:bN):lS (ps++[p])=lS ps++[tY p.1,tY p.2]:=by simp [lS]
theorem ate (ps:List bN):(lS ps).length=ps.length*2:=by
 induction ps with
 | nil=>rfl
 | cons p ps ih =>
  simp only [lS,List.flatMap_cons,List.length_append,List.length_cons,List.length_nil] at ih ⊢
  omega
theorem atf {ps:List bN} {i:Nat} {p:bN} (h:ps[i]? = some p):(lS ps)[i*2]? = some (tY p.1)∧(lS ps)[i*2+1]? = some (tY p.2):=by
 induction ps generalizing i with
 | nil=>simp at h
 | cons q ps ih =>
  unfold lS
  rw [List.flatMap_cons]
  cases i with
  | zero=>simp at h;subst h;exact ⟨rfl,rfl⟩
  | succ i =>
   have:=ih (i:=i) (by simpa using h)
   rw [show (i+1)*2=i*2+1+1 by omega]
   exact this
theorem atg (ps:List bN):fQ (bE ps.length (lS ps)) ps (lS ps):=by
 refine ⟨dH _ _,fun i p hp => ?_⟩
 obtain ⟨h1,h2⟩:=atf hp
 exact ⟨_,_,[],[],h1,h2,aaY _,aaY _⟩
theorem ath (ps:List bN):∀ c∈lS ps,eG c:=by
 intro c hc
 obtain ⟨p,_,h⟩:=List.mem_flatMap.1 hc
 simp only [List.mem_cons,List.not_mem_nil,or_false] at h
 rcases h with rfl | rfl
 ·exact kK (aaY _)
 ·exact kK (aaY _)
def eY (k r c w:Int) (L:List (List UInt8)) (row:Int):Int:=if iU k r c w L=0 then (if row < 0∨w≤row then 2 else 0) else iU k r c w L
def dM (k r w:Int) (L:List (List UInt8)) (row:Int):List bN:=rU L w.toNat row.toNat (k+r).toNat
def aaZ (k r c w:Int) (L:List (List UInt8)) (row:Int):AV:=if eY k r c w L row=0 then .tup [bE (k+r).toNat (lS (dM k r w L row)),aE 0] else .tup [aP,aE (eY k r c w L row)]
theorem acm {k r c w:Int} {L:List (List UInt8)} (h:iU k r c w L=0):bL k r c w=true∧(L.length:Int)=(k+r)*w*2∧∀ b∈L,eO k r c b.length=true:=by
 unfold iU at h
 split at h
 ·rename_i h1
  split at h
  ·rename_i h2
   unfold rT at h2
   rw [Bool.and_eq_true,List.all_eq_true] at h2
   exact ⟨h1,of_decide_eq_true h2.1,h2.2⟩
  ·omega
 ·omega
theorem amM {k r c w:Int} (hm:bL k r c w=true) {n:Nat} (h:eO k r c n=true):n≤140:=by
 have:=jE.1 hm
 unfold eO dV at h
 rw [Bool.or_eq_true,decide_eq_true_eq,decide_eq_true_eq] at h
 omega
theorem amN {k r w:Int} {row W N i:Nat} (hw:w=(W:Int)) (hN:k+r=(N:Int)) (hr:row < W) (hi:i < N) {n:Nat} (hl:(n:Int)=(k+r)*w*2):(i*W+row)*2+2≤n:=by
 have h1:(i+1)*W≤N*W:=Nat.mul_le_mul_right _ hi
 rw [Nat.add_mul,Nat.one_mul] at h1
 have h2:(n:Int)=((N*W*2:Nat):Int):=by rw [hl,hw,hN];simp
 omega
theorem aej (k r c w row:Int) (v:AV) (L:List (List UInt8)) (cells:List AV) (hv:fT v L cells):aY Tryz.prog 83 [dD k r c w v,aE row] ⟨aaZ k r c w L row,[]⟩:=by
 refine dY ?_
 have hp:=hv.rd.plain
 have hf:=cA hv.rd
 have ho:=bP hv.rd
 have hck:=agP k r c w v L cells hv
 unfold aaZ eY
 unfold dD at hck ⊢
 by_cases hE:iU k r c w L=0
 ·rw [if_pos hE]
  rw [hE] at hck
  obtain ⟨hm,hl,hlen⟩:=acm hE
  by_cases hrow:row < 0∨w≤row
  ·rw [if_pos hrow,if_neg (by decide)]
   have hz:=fun m=>gS (bU (.slice none 0 0)) (bU (.int .i64 2)) 1 m
   replace hz:=aB.mk hz
   replace hE:=aB.mk hE
   by_cases h1:row < 0
   ·refine bJ follows Tryz.func83 (by unfold Tryz.f83;rfl) (by unfold Tryz.f83;simp) aD (by unfold Tryz.f83;simp) (by kernel_rfl) ?_;unfold Tryz.f83
    simp only [↓pre,simprocAttr,aA,sx,qG,aD,aC,aI,aM,hf,ho,sr]
    refine aL (hck) (by simp only [aA,aO, *]) ?_;simp only [↓pre,simprocAttr,aA,sx,qG,aD,aC,aI,aM,hf,ho,h1,sr]
    exact ⟨1,hz.out _⟩
   ·have h2:w≤row:=by omega
    refine bJ follows Tryz.func83 (by unfold Tryz.f83;rfl) (by unfold Tryz.f83;simp) aD (by unfold Tryz.f83;simp) (by kernel_rfl) ?_;unfold Tryz.f83
    simp only [↓pre,simprocAttr,aA,sx,qG,aD,aC,aI,aM,hf,ho,sr]
    refine aL (hck) (by simp only [aA,aO, *]) ?_;simp only [↓pre,simprocAttr,aA,sx,qG,aD,aC,aI,aM,hf,ho,h1,h2,sr]
    exact ⟨1,hz.out _⟩
  ·rw [if_neg hrow,if_pos rfl]
   have hmn:=gF hm
   have hml:=jE.1 hm
   have h1:¬ row < 0:=by omega
   have h2:¬ w≤row:=by omega
   obtain ⟨N,hN⟩:∃ N:Nat,k+r=(N:Int):=⟨(k+r).toNat,by omega⟩
   obtain ⟨W,hW⟩:∃ W:Nat,w=(W:Int):=⟨w.toNat,by omega⟩
   obtain ⟨ro,hro⟩:∃ ro:Nat,row=(ro:Int):=⟨row.toNat,by omega⟩
   have hidx:=fun i (hi:i < N)=>amN hW hN (row:=ro) (by omega) hi hl
   have hps:=atc L W ro
   have hpl:=acl L W ro
   unfold dM
   rw [show (k+r).toNat=N by omega,show w.toNat=W by omega,show row.toNat=ro by omega]
   have wN:IntKind.i64.wrap (k+r)=(N:Int):=by rw [hN];exact dE (by omega)
   have hWW:∀ i:Nat,i < N→i*W≤4096:=fun i hi=>by
    have:i*W≤16*256:=Nat.mul_le_mul (by omega) (by omega)
    omega
   generalize rU L W ro=RP at *
   have hR0:lS (RP 0)=[]:=List.eq_nil_of_length_eq_zero (by rw [ate,hpl])
   replace hmn:=aB.mk hmn
   replace hml:=aB.mk hml
   replace hidx:=aB.mk hidx
   replace hps:=aB.mk hps
   replace hpl:=aB.mk hpl
   replace hE:=aB.mk hE
   replace hl:=aB.mk hl
   replace hN:=aB.mk hN
   replace hlen:=aB.mk hlen
   replace hWW:=aB.mk hWW
   replace hR0:=aB.mk hR0
   replace hrow:=aB.mk hrow
   refine bJ follows Tryz.func83 (by unfold Tryz.f83;rfl) (by unfold Tryz.f83;simp) aD (by unfold Tryz.f83;simp) (by kernel_rfl) ?_;unfold Tryz.f83
   simp only [↓pre,simprocAttr,aA,sx,qG,aD,aC,aI,aM,hf,ho,sr]
   refine aL (hck) (by simp only [aA,aO, *]) ?_;simp only [↓pre,simprocAttr,aA,sx,qG,aD,aC,aI,aM,hf,ho,h1,h2,wN,sr]
   rw [b7]
   refine b8 (fun q e m=>∃ i lv,q+i=N∧e 1=aE row∧e 2 = .tptr 0 [aE k,aE r,aE c,aE w,v]∧e 7=lv∧e 31=aE (N:Nat)∧e 32=aE (i:Nat)∧aB (cH .var m 131 2 lv i (lS (RP i)))) N ⟨0,_,by omega,rfl,rfl,rfl,rfl,rfl,⟨by rw [hR0.out];exact gT⟩⟩ ?_
   rintro q e m ⟨i,lv,hq,e1,e2,e7,e31,e32,hJ⟩
   replace hq:=aB.mk hq
   by_cases hlt:i < N
   ·have hlt':((i:Nat):Int) < ((N:Nat):Int):=by omega
    have wi:=cF (n:=i) (by have:=hmn.out;have:=hN.out;omega)
    have hix:=hidx.out i hlt
    have hw4:=hWW.out i hlt
    have hro4:ro≤256:=by have:=hml.out;have:=hrow.out;omega
    have w1:IntKind.i64.wrap ((i:Int)*w)=((i*W:Nat):Int):=by rw [hW,show (i:Int)*(W:Int)=((i*W:Nat):Int) by simp];exact dE (by omega)
    have w2:IntKind.i64.wrap (((i*W:Nat):Int)+row)=((i*W+ro:Nat):Int):=by rw [hro,show ((i*W:Nat):Int)+(ro:Int)=((i*W+ro:Nat):Int) by simp];exact dE (by omega)
    have w3:IntKind.i64.wrap (((i*W+ro:Nat):Int)*2)=(((i*W+ro)*2:Nat):Int):=by rw [show ((i*W+ro:Nat):Int)*2=(((i*W+ro)*2:Nat):Int) by simp];exact dE (by omega)
    have w4:IntKind.i64.wrap ((((i*W+ro)*2:Nat):Int)+2)=(((i*W+ro)*2+2:Nat):Int):=by rw [show ((((i*W+ro)*2:Nat):Int)+2)=(((i*W+ro)*2+2:Nat):Int) by simp];exact dE (by omega)
    have hps:=hps.out i
    generalize hat:(i*W+ro)*2=at_ at *
    have n1:jB (.val (.int .i64 (at_:Nat)))=some at_:=ac8
    have n2:jB (.val (.int .i64 ((at_+2:Nat):Int)))=some (at_+2):=ac8
    obtain ⟨u,su,ru⟩:=ata (P:=Tryz.prog) (t:=45) (sz:=1) hv.rd (by kernel_rfl) (i:=at_) (j:=at_+2) (by omega) (by omega)
    rw [show at_+2 - at_=2 by omega,Nat.mul_one] at ru
    have hb0:L[at_]? = some (L.getD at_ []):=by rw [List.getD_eq_getElem?_getD,List.getElem?_eq_getElem (by omega)];rfl
    have hb1:L[at_+1]? = some (L.getD (at_+1) []):=by rw [List.getD_eq_getElem?_getD,List.getElem?_eq_getElem (by omega)];rfl
    have hm0:=amM hm (hlen.out _ (List.mem_of_getElem? hb0))
    have hm1:=amM hm (hlen.out _ (List.mem_of_getElem? hb1))
    obtain ⟨a0,x0,ha0,ra0⟩:=hv.at_ _ _ hb0
    obtain ⟨a1,x1,ha1,ra1⟩:=hv.at_ _ _ hb1
    have hc0:(cells.drop at_)[0]? = some a0:=by rw [List.getElem?_drop];exact ha0
    have hc1:(cells.drop at_)[1]? = some a1:=by rw [List.getElem?_drop];exact ha1
    have t0:=amL a0 _ x0 ra0 (by omega)
    have t1:=amL a1 _ x1 ra1 (by omega)
    have r0:=aaY (L.getD at_ [])
    have r1:=aaY (L.getD (at_+1) [])
    rw [←show tY (L.getD at_ [])=(if (L.getD at_ []).length=0 then aP else .tree (L.getD at_ []).length (L.getD at_ []).length (aQ (L.getD at_ [])) true) from rfl] at t0 r0
    rw [←show tY (L.getD (at_+1) [])=(if (L.getD (at_+1) []).length=0 then aP else .tree (L.getD (at_+1) []).length (L.getD (at_+1) []).length (aQ (L.getD (at_+1) [])) true) from rfl] at t1 r1
    have hpp:=atd (RP i) (L.getD at_ [],L.getD (at_+1) [])
    rw [←hps] at hpp
    simp only at hpp
    generalize tY (L.getD at_ [])=T0 at *
    generalize tY (L.getD (at_+1) [])=T1 at *
    have pu:=ru.plain
    have pa0:=ra0.plain
    have pa1:=ra1.plain
    have oa0:=bP ra0
    have oa1:=bP ra1
    have o0:=bP r0
    have o1:=bP r1
    have k0:=tW r0
    have k1:=tW r1
    have c0:=tV r0
    have c1:=tV r1
    have s0:=cK r0
    have s1:=cK r1
    have hbt:∀ m,fV Tryz.prog m 24 1 [(0,.agg [T0,T1])]=some ⟨.tree 1 1 [T0,T1] true,m,none⟩:=fun m=>xZ (el:=131) (sz:=2) (z:=[.val (.slice none 0 0),.val (.slice none 0 0)]) (by kernel_rfl) (by kernel_rfl) (by kernel_rfl) rfl (by simp [jH,ack r0,ack r1]) (by decide)
    have hso:=fun m=>hv.rd.slOk (P:=Tryz.prog) (m:=m) (t:=45)
    replace hps:=aB.mk hps
    replace hpp:=aB.mk hpp
    replace hat:=aB.mk hat
    replace hix:=aB.mk hix
    simp only [↓pre,simprocAttr,aA,sx,qG,aD,aC,aI,aM,hf,ho,e1,e2,e7,e31,e32,hlt',w1,w2,w3,w4,hso,a8,Option.map_some,Option.map_none,n1,n2,su,hv.rd.sliceX,ru.addr',hc0,hc1,oa0,oa1,↓k0,↓k1,↓c0,↓c1,s0,s1,o0,o1,hbt,Nat.zero_mul,Nat.one_mul,sr]
    (refine bM (t0) (by simp only [aA,aO, *]) (by intro k;simp only [sq,sr, *]) ?_);simp only [↓pre,simprocAttr,aA,sx,qG,aD,aC,aI,aM,hf,ho,e1,e2,e7,e31,e32,hlt',w1,w2,w3,w4,hso,a8,Option.map_some,Option.map_none,n1,n2,su,hv.rd.sliceX,ru.addr',hc0,hc1,oa0,oa1,↓k0,↓k1,↓c0,↓c1,s0,s1,o0,o1,hbt,Nat.zero_mul,Nat.one_mul,sr];(refine bM (t1) (by simp only [aA,aO, *]) (by intro k;simp only [sq,sr, *]) ?_);simp only [↓pre,simprocAttr,aA,sx,qG,aD,aC,aI,aM,hf,ho,e1,e2,e7,e31,e32,hlt',w1,w2,w3,w4,hso,a8,Option.map_some,Option.map_none,n1,n2,su,hv.rd.sliceX,ru.addr',hc0,hc1,oa0,oa1,↓k0,↓k1,↓c0,↓c1,s0,s1,o0,o1,hbt,Nat.zero_mul,Nat.one_mul,sr]
    refine qE (sz:=2) (y:=48) (zl:=[.slice none 0 0,.slice none 0 0]) (by kernel_rfl) hJ.out (by kernel_rfl) (by kernel_rfl) (by kernel_rfl) rfl abz rfl (by have:=hmn.out;have:=hN.out;omega) (by have:=hmn.out;have:=hN.out;omega) ?_
    intro lv' m' ho' hn'
    refine cU (by kernel_rfl) ?_
    simp only [↓pre,simprocAttr,aA,sx,qG,aD,aC,aI,aM,hf,ho,e1,e2,e31,e32,wi,sr]
    refine ⟨q - 1,by have:=hq.out;omega,i+1,lv',by have:=hq.out;omega,rfl,rfl,⟨?_⟩⟩
    rw [hpp.out]
    exact ho'
   ·have hlt':¬ ((i:Nat):Int) < ((N:Nat):Int):=by omega
    have hi:i=N:=by have:=hq.out;omega
    subst hi
    have hfin:=fun k=>ad3 hJ.out (ath _) k
    replace hfin:=aB.mk hfin
    simp only [↓pre,simprocAttr,aA,sx,qG,aD,aC,aI,aM,hf,ho,e1,e2,e7,e31,e32,hlt',sr]
    exact ⟨1,by rw [kC,dT,hfin.out,Option.bind_some,dT,fP,jC];rfl⟩
 ·rw [if_neg hE,if_neg hE]
  have hz:=fun m=>gS (bU (.slice none 0 0)) (bU (.int .i64 (iU k r c w L))) 1 m
  replace hz:=aB.mk hz
  refine bJ follows Tryz.func83 (by unfold Tryz.f83;rfl) (by unfold Tryz.f83;simp) aD (by unfold Tryz.f83;simp) (by kernel_rfl) ?_;unfold Tryz.f83
  simp only [↓pre,simprocAttr,aA,sx,qG,aD,aC,aI,aM,hf,ho,sr]
  refine aL (hck) (by simp only [aA,aO, *]) ?_;simp only [↓pre,simprocAttr,aA,sx,qG,aD,aC,aI,aM,hf,ho,hE,sr]
  exact ⟨1,hz.out _⟩
theorem acn (k r c w:Int) (L:List (List UInt8)) (row:Int) (hk:0≤k+r):fQ (bE (k+r).toNat (lS (dM k r w L row))) (dM k r w L row) (lS (dM k r w L row)):=by
 have:=atg (dM k r w L row)
 unfold dM at this ⊢
 rw [acl] at this
 exact this
theorem sZ {k r c w:Int} {L:List (List UInt8)} {row:Int} (h:eY k r c w L row=0):dO k r c (dM k r w L row)=true∧bL k r c w=true:=by
 unfold eY at h
 split at h
 ·rename_i hE
  obtain ⟨hm,hl,hlen⟩:=acm hE
  have hmn:=gF hm
  refine ⟨?_,hm⟩
  unfold dO dM
  rw [Bool.and_eq_true]
  refine ⟨decide_eq_true (by rw [acl];omega),List.all_eq_true.2 fun p hp => ?_⟩
  unfold rU at hp
  obtain ⟨i,_,rfl⟩:=List.mem_map.1 hp
  have:∀ j,eO k r c (L.getD j []).length=true:=fun j=>by
   rw [List.getD_eq_getElem?_getD]
   cases hq:L[j]? with
   | none=>rfl
   | some b=>exact hlen b (List.mem_of_getElem? hq)
  unfold jN
  rw [this,this]
  rfl
 ·contradiction
def oQ (k c:Int) (l:List b9):List UInt8:=pU (dN l) (wI k c).toNat
def agQ (k c w:Int) (l:List b9):AV:=if jQ w l=true then .tup [.tree (wI k c).toNat (wI k c).toNat (aQ (oQ k c l)) true,aE 0] else .tup [aP,aE 150]
def aa0:Nat→Bool:=fun d=>d != 31 && d != 32
theorem ati (k r c w:Int) (hm:bL k r c w=true) (v:AV) (l:List b9) (hv:qM v l) (hl1:1≤l.length) (hl2:(l.length:Int)≤lI k c):aY Tryz.prog 274 [aA k r c w,v] ⟨agQ k c w l,[]⟩:=by
 refine dY ?_
 have hL:=afX k r c w
 simp only [hm,if_true] at hL
 have hw:=gU hm
 have hml:=jE.1 hm
 have hlb:=rF hw.1 hw.2
 have hl128:l.length≤128:=by unfold lI at hl2;omega
 have h1:=amw k r c w v l hv (by omega)
 obtain ⟨x,hr⟩:=hv
 have hp:=hr.plain
 have g1:¬ ((l.length:Nat):Int) < 1:=by omega
 have g2:¬ lI k c < ((l.length:Nat):Int):=by omega
 unfold agQ
 by_cases hok:jQ w l=true
 ·rw [if_pos hok]
  rw [hok] at h1
  have hlr:∀ x∈l,(0≤x.1∧x.1≤1073741824)∧0≤x.2∧x.2≤1073741824:=fun y hy=>by
   have:=List.all_eq_true.1 hok y hy
   unfold i9 at this
   have:=of_decide_eq_true this
   omega
  have ho0:eM aH.empty 5 1 aP ([]:List AV).length []:=gT
  have t4:=amv aH.empty aP [] v l ⟨x,hr⟩ ho0 hlr (by omega) (by simp)
  have o4:=agK l _ _ _ ho0
  rw [List.nil_append,List.length_nil,Nat.zero_add] at o4
  have t5:=amy k r c w hm _ _ _ o4 (by rw [pP];unfold wI;unfold lI at hl2;omega)
  generalize pS aH.empty aP [] l=G4 at *
  replace hlr:=aB.mk hlr
  replace o4:=aB.mk o4
  replace hml:=aB.mk hml
  replace hlb:=aB.mk hlb
  simp only [aE,aP] at t4 t5
  refine bJ follows Tryz.func274 (by unfold Tryz.f274;rfl) (by unfold Tryz.f274;simp) aa0 (by unfold Tryz.f274;simp) (by kernel_rfl) ?_;unfold Tryz.f274
  simp only [↓pre,simprocAttr,aA,sx,wJ,aa0,bne,aC,hr.len',g1,g2,sr]
  refine aL (hL) (by rfl) ?_;simp only [↓pre,simprocAttr,aA,sx,wJ,aa0,bne,aC,hr.len',g1,g2,sr];refine aL (h1) (by simp only [aA,aO, *]) ?_;simp only [↓pre,simprocAttr,aA,sx,wJ,aa0,bne,aC,hr.len',g1,g2,sr]
  refine qF t4 ?_
  refine cU (by kernel_rfl) ?_
  simp only [↓pre,simprocAttr,aA,sx,wJ,aa0,bne,aC,hr.len',g1,g2,sr]
  refine qF t5 ?_
  refine cU (by kernel_rfl) ?_
  simp only [↓pre,simprocAttr,aA,sx,wJ,aa0,bne,aC,hr.len',g1,g2,sr]
  refine ⟨0, ?_⟩
  rw [kC,dT,sJ (by rw [aG,if_pos rfl]),Option.bind_some,dT,fP,jC,List.drop_zero]
  rfl
 ·rw [if_neg hok]
  rw [Bool.not_eq_true] at hok
  rw [hok] at h1
  have hf:=fun m=>gS (bU (.slice none 0 0)) (bU (.int .i64 150)) 1 m
  replace hf:=aB.mk hf
  refine bJ follows Tryz.func274 (by unfold Tryz.f274;rfl) (by unfold Tryz.f274;simp) aD (by unfold Tryz.f274;simp) (by kernel_rfl) ?_;unfold Tryz.f274
  simp only [↓pre,simprocAttr,aA,sx,wJ,aD,aC,hr.len',g1,g2,sr]
  refine aL (hL) (by rfl) ?_;simp only [↓pre,simprocAttr,aA,sx,wJ,aD,aC,hr.len',g1,g2,sr];refine aL (h1) (by simp only [aA,aO, *]) ?_;simp only [↓pre,simprocAttr,aA,sx,wJ,aD,aC,hr.len',g1,g2,sr]
  exact ⟨1,hf.out _⟩
def qO (k c w:Int) (bs:List UInt8) (n:Int):Int:=if n < 1∨lI k c < n then 20 else if jQ w (dQ bs n.toNat)=true∧oQ k c (dQ bs n.toNat)=bs then 0 else 150
def aa1 (k c w:Int) (bs:List UInt8) (n:Int):AV:=if qO k c w bs n=0 then .tup [bE n.toNat (bW (dQ bs n.toNat)),aE 0] else .tup [aP,aE (qO k c w bs n)]
theorem atj (k r c w:Int) (hm:bL k r c w=true) (v:AV) (bs:List UInt8) (x:List AV) (hv:bD v bs.length (aQ bs++x)) (hl:(bs.length:Int)=wI k c) (n:Int):aY Tryz.prog 217 [aA k r c w,v,aE n] ⟨aa1 k c w bs n,[]⟩:=by
 refine dY ?_
 have hL:=afX k r c w
 have hz:=amC k r c w v bs.length _ hv
 simp only [hm,if_true,hl] at hL hz
 have hw:=gU hm
 have hlb:=rF hw.1 hw.2
 have hp:=hv.plain
 unfold aa1 qO
 by_cases hn:n < 1∨lI k c < n
 ·rw [if_pos hn,if_neg (by decide)]
  have hf:=fun m=>gS (bU (.slice none 0 0)) (bU (.int .i64 20)) 1 m
  replace hf:=aB.mk hf
  replace hlb:=aB.mk hlb
  by_cases h1:n < 1
  ·refine bJ follows Tryz.func217 (by unfold Tryz.f217;rfl) (by unfold Tryz.f217;simp) aD (by unfold Tryz.f217;simp) (by kernel_rfl) ?_;unfold Tryz.f217
   simp only [↓pre,simprocAttr,aA,sx,jY,aD,aC,sr]
   refine aL (hz) (by simp only [aA,aO, *]) ?_;simp only [↓pre,simprocAttr,aA,sx,jY,aD,aC,h1,sr];refine aL (hL) (by rfl) ?_;simp only [↓pre,simprocAttr,aA,sx,jY,aD,aC,h1,sr]
   exact ⟨1,hf.out _⟩
  ·have h2:lI k c < n:=by omega
   refine bJ follows Tryz.func217 (by unfold Tryz.f217;rfl) (by unfold Tryz.f217;simp) aD (by unfold Tryz.f217;simp) (by kernel_rfl) ?_;unfold Tryz.f217
   simp only [↓pre,simprocAttr,aA,sx,jY,aD,aC,sr]
   refine aL (hz) (by simp only [aA,aO, *]) ?_;simp only [↓pre,simprocAttr,aA,sx,jY,aD,aC,h1,h2,sr];refine aL (hL) (by rfl) ?_;simp only [↓pre,simprocAttr,aA,sx,jY,aD,aC,h1,h2,sr]
   exact ⟨1,hf.out _⟩
 ·rw [if_neg hn]
  have h1:¬ n < 1:=by omega
  have h2:¬ lI k c < n:=by omega
  obtain ⟨N,hN⟩:∃ N:Nat,n=(N:Int):=⟨n.toNat,by omega⟩
  subst hN
  rw [Int.toNat_natCast]
  have h6:6*N≤bs.length:=by unfold wI at hl;unfold lI at h2;omega
  have c4:=amB v bs x N hv h6 (by unfold wI at hl;omega)
  have hpl:(dQ bs N).length=N:=aci _ _
  have hrd:=dH N (bW (dQ bs N))
  have c5:=ati k r c w hm (bE N (bW (dQ bs N))) (dQ bs N) ⟨[],by rw [List.append_nil,hpl];exact hrd⟩ (by omega) (by rw [hpl];omega)
  have hll:(oQ k c (dQ bs N)).length=(wI k c).toNat:=by
   unfold oQ
   refine aef ?_
   rw [pP,hpl]
   omega
  have c6:=amD (.tree (wI k c).toNat (wI k c).toNat (aQ (oQ k c (dQ bs N))) true) v (oQ k c (dQ bs N)) bs [] x ⟨.inr (.inr ⟨_,true,by rw [hll,List.append_nil],by rw [hll];exact Nat.le_refl _⟩)⟩ hv
  have hfin:=fun m=>gS (kK hrd) (bU (.int .i64 0)) 1 m
  have hf:=fun m=>gS (bU (.slice none 0 0)) (bU (.int .i64 150)) 1 m
  unfold agQ at c5
  have pt:=hrd.plain
  have st:=cK hrd
  generalize bE N (bW (dQ bs N))=TR at *
  generalize oQ k c (dQ bs N)=LB at *
  replace hfin:=aB.mk hfin
  replace hf:=aB.mk hf
  replace hpl:=aB.mk hpl
  replace hrd:=aB.mk hrd
  replace hlb:=aB.mk hlb
  replace hn:=aB.mk hn
  by_cases hok:jQ w (dQ bs N)=true
  ·rw [if_pos hok] at c5
   by_cases heq:LB=bs
   ·rw [show (if jQ w (dQ bs N)=true∧LB=bs then (0:Int) else 150)=0 from if_pos ⟨hok,heq⟩,if_pos rfl]
    rw [decide_eq_true heq] at c6
    replace hok:=aB.mk hok
    replace heq:=aB.mk heq
    refine bJ follows Tryz.func217 (by unfold Tryz.f217;rfl) (by unfold Tryz.f217;simp) aD (by unfold Tryz.f217;simp) (by kernel_rfl) ?_;unfold Tryz.f217
    simp only [↓pre,simprocAttr,aA,sx,jY,aD,aC,sr]
    refine aL (hz) (by simp only [aA,aO, *]) ?_;simp only [↓pre,simprocAttr,aA,sx,jY,aD,aC,h1,h2,st,sr];refine aL (hL) (by rfl) ?_;simp only [↓pre,simprocAttr,aA,sx,jY,aD,aC,h1,h2,st,sr];refine aL (c4) (by simp only [aA,aO, *]) ?_;simp only [↓pre,simprocAttr,aA,sx,jY,aD,aC,h1,h2,st,sr];refine aL (c5) (by simp only [aA,aO, *]) ?_;simp only [↓pre,simprocAttr,aA,sx,jY,aD,aC,h1,h2,st,sr];refine aL (c6) (by simp only [aA,aO, *]) ?_;simp only [↓pre,simprocAttr,aA,sx,jY,aD,aC,h1,h2,st,sr]
    exact ⟨1,hfin.out _⟩
   ·rw [show (if jQ w (dQ bs N)=true∧LB=bs then (0:Int) else 150)=150 from if_neg (fun h=>heq h.2),if_neg (by decide)]
    rw [decide_eq_false heq] at c6
    replace hok:=aB.mk hok
    replace heq:=aB.mk heq
    refine bJ follows Tryz.func217 (by unfold Tryz.f217;rfl) (by unfold Tryz.f217;simp) aD (by unfold Tryz.f217;simp) (by kernel_rfl) ?_;unfold Tryz.f217
    simp only [↓pre,simprocAttr,aA,sx,jY,aD,aC,sr]
    refine aL (hz) (by simp only [aA,aO, *]) ?_;simp only [↓pre,simprocAttr,aA,sx,jY,aD,aC,h1,h2,st,sr];refine aL (hL) (by rfl) ?_;simp only [↓pre,simprocAttr,aA,sx,jY,aD,aC,h1,h2,st,sr];refine aL (c4) (by simp only [aA,aO, *]) ?_;simp only [↓pre,simprocAttr,aA,sx,jY,aD,aC,h1,h2,st,sr];refine aL (c5) (by simp only [aA,aO, *]) ?_;simp only [↓pre,simprocAttr,aA,sx,jY,aD,aC,h1,h2,st,sr];refine aL (c6) (by simp only [aA,aO, *]) ?_;simp only [↓pre,simprocAttr,aA,sx,jY,aD,aC,h1,h2,st,sr]
    exact ⟨1,hf.out _⟩
  ·rw [if_neg hok] at c5
   rw [show (if jQ w (dQ bs N)=true∧LB=bs then (0:Int) else 150)=150 from if_neg (fun h=>hok h.1),if_neg (by decide)]
   replace hok:=aB.mk hok
   simp only [aP] at c5
   refine bJ follows Tryz.func217 (by unfold Tryz.f217;rfl) (by unfold Tryz.f217;simp) aD (by unfold Tryz.f217;simp) (by kernel_rfl) ?_;unfold Tryz.f217
   simp only [↓pre,simprocAttr,aA,sx,jY,aD,aC,sr]
   refine aL (hz) (by simp only [aA,aO, *]) ?_;simp only [↓pre,simprocAttr,aA,sx,jY,aD,aC,h1,h2,st,sr];refine aL (hL) (by rfl) ?_;simp only [↓pre,simprocAttr,aA,sx,jY,aD,aC,h1,h2,st,sr];refine aL (c4) (by simp only [aA,aO, *]) ?_;simp only [↓pre,simprocAttr,aA,sx,jY,aD,aC,h1,h2,st,sr];refine aL (c5) (by simp only [aA,aO, *]) ?_;simp only [↓pre,simprocAttr,aA,sx,jY,aD,aC,h1,h2,st,sr]
   exact ⟨1,hf.out _⟩
theorem atk (l:List b9) (hl:l.length≤1000000):aY Tryz.prog 132 [bE l.length (bW l)] ⟨bE l.length (bW l),[]⟩:=by
 refine dY ?_
 by_cases h0:l.length=0
 ·have e:bE l.length (bW l)=aP:=by unfold bE;rw [if_pos h0]
  rw [e]
  refine bJ follows Tryz.func132 (by unfold Tryz.f132;rfl) (by unfold Tryz.f132;simp) aD (by unfold Tryz.f132;simp) (by kernel_rfl) ?_;unfold Tryz.f132
  have hn:∀ x y,dP Tryz.prog .eql 31 x y aP (.val (.slice none 0 0))=some (bC true):=fun x y=>by
   have:bZ Tryz.prog 31=some 67:=by kernel_rfl
   rfl
  unfold aP at *
  simp only [↓pre,simprocAttr,aA,sx,akx,aD,aC,aM,hn,sr]
  exact ⟨0,fP⟩
 ·have e:bE l.length (bW l) = .tree l.length l.length (bW l) false:=by unfold bE;rw [if_neg h0]
  rw [e]
  have hn:∀ x y,dP Tryz.prog .eql 31 x y (.tree l.length l.length (bW l) false) (.val (.slice none 0 0))=some (bC false):=fun x y=>by
   have:bZ Tryz.prog 31=some 67:=by kernel_rfl
   simp [dP,this,qR,bC]
  have hbt:∀ m,fV Tryz.prog m 31 0 []=some ⟨.tree 0 0 [] true,m,none⟩:=fun m=>xZ (el:=67) (sz:=2) (z:=[]) (by kernel_rfl) (by kernel_rfl) (by kernel_rfl) rfl rfl (by decide)
  have hap:∀ m,fX Tryz.prog 67 m (.tree 0 0 [] true) (.tree l.length l.length (bW l) false)=some ⟨.sl m.next 0 l.length l.length false,m.push ⟨bW l,67,.flat,true⟩,none⟩:=fun m=>by
   have h1:cG Tryz.prog 67=some 2:=by kernel_rfl
   have h2:j8 Tryz.prog 67=some 16:=by kernel_rfl
   have h3:gB Tryz.prog 67=some [.int .i64 0,.int .i64 0]:=by kernel_rfl
   have h4:bR Tryz.prog 67 = .flat:=by kernel_rfl
   have h5:=aby (P:=Tryz.prog) (m:=m) (el:=67) (sz:=2) (n:=l.length) (c:=l.length) (cs:=bW l) (f:=false) (by rw [xC];omega)
   rw [List.take_of_length_le (by rw [xC];omega)] at h5
   simp only [fX,h1,h2,h3,h4,h5,d6,Option.bind_some]
   rw [if_pos ⟨by omega,by omega,rfl⟩]
   simp [h0,bK]
  replace e:=aB.mk e
  refine bJ follows Tryz.func132 (by unfold Tryz.f132;rfl) (by unfold Tryz.f132;simp) aD (by unfold Tryz.f132;simp) (by kernel_rfl) ?_;unfold Tryz.f132
  simp only [↓pre,simprocAttr,aA,sx,akx,aD,aC,aM,hn,hbt,hap,sr]
  exact ⟨0,by rw [sJ (by rw [aG,if_pos rfl]),List.drop_zero]⟩
def jA (k r c w:Int) (L:List (List UInt8)) (x:b9):List UInt8:=lP k r c w (dM k r w L x.1) 1 x.2 k.toNat
def rV (k r c w:Int) (L:List (List UInt8)) (x:b9) (n:Int):Int:=if iL k r c w (dM k r w L x.1) 1 x.2 < k.toNat then 5 else qO k c w (jA k r c w L x) n
def xE (k r c w:Int) (L:List (List UInt8)) (x:b9) (n:Int):List b9:=dQ (jA k r c w L x) n.toNat
def agR (k r c w:Int) (L:List (List UInt8)) (x:b9) (n:Int):AV:=if rV k r c w L x n=0 then .tup [bE n.toNat (bW (xE k r c w L x n)),aE 0] else .tup [aP,aE (rV k r c w L x n)]
theorem aa2 {w:Int} {x:b9} (h:i9 w x=true):(0≤x.1∧x.1 < w)∧1≤x.2∧x.2≤1073741824:=by
 unfold i9 at h
 exact of_decide_eq_true h
theorem aco {k r c w:Int} {L:List (List UInt8)} {row:Int} (hE:iU k r c w L=0) (h:0≤row∧row < w):eY k r c w L row=0:=by
 unfold eY
 rw [if_pos hE,if_neg (by omega)]
theorem atl (k r c w:Int) (v:AV) (L:List (List UInt8)) (cells:List AV) (hv:fT v L cells) (hE:iU k r c w L=0) (x:b9) (hx:i9 w x=true) (n:Int):aY Tryz.prog 134 [dD k r c w v,.agg [aE x.1,aE x.2],aE n] ⟨agR k r c w L x n,[]⟩:=by
 refine dY ?_
 obtain ⟨hx1,hx2⟩:=aa2 hx
 have hp:=hv.rd.plain
 have hf:=cA hv.rd
 have ho:=bP hv.rd
 have hr:=aej k r c w x.1 v L cells hv
 have hR0:=aco hE hx1
 unfold aaZ at hr
 rw [if_pos hR0] at hr
 obtain ⟨hrb,hm⟩:=sZ hR0
 have hmn:=gF hm
 have hrv:=acn k r c w L x.1 (by omega)
 have hsr:=agI k r c w 1 x.2 _ _ _ hrv hm hrb (.inl rfl) (by unfold gV;exact decide_eq_true hx2)
 have pr:=hrv.rd.plain
 have sr':=cK hrv.rd
 unfold agR rV xE jA
 unfold pO at hsr
 unfold dD at hr ⊢
 generalize bE (k+r).toNat (lS (dM k r w L x.1))=RV at *
 generalize dM k r w L x.1=ps at *
 by_cases hlt:iL k r c w ps 1 x.2 < k.toNat
 ·rw [if_pos hlt] at hsr
  rw [if_pos hlt,if_neg (by decide)]
  have hz:=fun m=>gS (bU (.slice none 0 0)) (bU (.int .i64 5)) 1 m
  simp only [aP] at hsr
  replace hz:=aB.mk hz
  replace hrv:=aB.mk hrv
  replace hmn:=aB.mk hmn
  replace hlt:=aB.mk hlt
  replace hR0:=aB.mk hR0
  refine bJ follows Tryz.func134 (by unfold Tryz.f134;rfl) (by unfold Tryz.f134;simp) aD (by unfold Tryz.f134;simp) (by kernel_rfl) ?_;unfold Tryz.f134
  simp only [↓pre,simprocAttr,aA,sx,sK,aD,aC,hf,ho,sr',sr]
  refine aL (hr) (by simp only [aA,aO, *]) ?_;simp only [↓pre,simprocAttr,aA,sx,sK,aD,aC,hf,ho,sr',sr];refine aL (hsr) (by simp only [aA,aO, *]) ?_;simp only [↓pre,simprocAttr,aA,sx,sK,aD,aC,hf,ho,sr',sr]
  exact ⟨1,hz.out _⟩
 ·rw [if_neg hlt] at hsr
  rw [if_neg hlt]
  have hdl:=vA k r c w ps 1 x.2 k.toNat
  have hwc:((k.toNat*c.toNat:Nat):Int)=wI k c:=by unfold wI;rw [Int.natCast_mul,Int.toNat_of_nonneg (by omega),Int.toNat_of_nonneg (by omega)]
  have hdr:=dH (k.toNat*c.toNat) (aQ (lP k r c w ps 1 x.2 k.toNat))
  have hre:=atj k r c w hm (bE (k.toNat*c.toNat) (aQ (lP k r c w ps 1 x.2 k.toNat))) (lP k r c w ps 1 x.2 k.toNat) [] (by rw [List.append_nil,hdl];exact hdr) (by rw [hdl];exact hwc) n
  have pd:=hdr.plain
  have sd:=cK hdr
  unfold aa1 at hre
  generalize lP k r c w ps 1 x.2 k.toNat=D at *
  generalize bE (k.toNat*c.toNat) (aQ D)=DV at *
  replace hrv:=aB.mk hrv
  replace hdr:=aB.mk hdr
  replace hmn:=aB.mk hmn
  replace hlt:=aB.mk hlt
  replace hR0:=aB.mk hR0
  by_cases h0:qO k c w D n=0
  ·rw [if_pos h0] at hre ⊢
   have hrt:=dH n.toNat (bW (dQ D n.toNat))
   have hz:=fun m=>gS (kK hrt) (bU (.int .i64 0)) 1 m
   have st:=cK hrt
   generalize bE n.toNat (bW (dQ D n.toNat))=TR at *
   replace hz:=aB.mk hz
   replace h0:=aB.mk h0
   replace hrt:=aB.mk hrt
   refine bJ follows Tryz.func134 (by unfold Tryz.f134;rfl) (by unfold Tryz.f134;simp) aD (by unfold Tryz.f134;simp) (by kernel_rfl) ?_;unfold Tryz.f134
   simp only [↓pre,simprocAttr,aA,sx,sK,aD,aC,hf,ho,sr',sr]
   refine aL (hr) (by simp only [aA,aO, *]) ?_;simp only [↓pre,simprocAttr,aA,sx,sK,aD,aC,hf,ho,sr',sd,st,sr];refine aL (hsr) (by simp only [aA,aO, *]) ?_;simp only [↓pre,simprocAttr,aA,sx,sK,aD,aC,hf,ho,sr',sd,st,sr];refine aL (hre) (by simp only [aA,aO, *]) ?_;simp only [↓pre,simprocAttr,aA,sx,sK,aD,aC,hf,ho,sr',sd,st,sr]
   exact ⟨1,hz.out _⟩
  ·rw [if_neg h0] at hre ⊢
   have hz:=fun m=>gS (bU (.slice none 0 0)) (bU (.int .i64 (qO k c w D n))) 1 m
   generalize qO k c w D n=E at *
   simp only [aP] at hre
   replace hz:=aB.mk hz
   refine bJ follows Tryz.func134 (by unfold Tryz.f134;rfl) (by unfold Tryz.f134;simp) aD (by unfold Tryz.f134;simp) (by kernel_rfl) ?_;unfold Tryz.f134
   simp only [↓pre,simprocAttr,aA,sx,sK,aD,aC,hf,ho,sr',sr]
   refine aL (hr) (by simp only [aA,aO, *]) ?_;simp only [↓pre,simprocAttr,aA,sx,sK,aD,aC,hf,ho,sr',sd,sr];refine aL (hsr) (by simp only [aA,aO, *]) ?_;simp only [↓pre,simprocAttr,aA,sx,sK,aD,aC,hf,ho,sr',sd,sr];refine aL (hre) (by simp only [aA,aO, *]) ?_;simp only [↓pre,simprocAttr,aA,sx,sK,aD,aC,hf,ho,sr',sd,sr]
   exact ⟨1,hz.out _⟩
end Go.Proofs.YtaekhhlgnbhnpaaGreat
set_option linter.unusedVariables false
set_option linter.unusedSimpArgs false
set_option maxRecDepth 10000
namespace Go.Tw
open Go
theorem vT.mono {P:Program} {f:FuncId} {args:List AV} {m:aH} {Q Q':AV→aH→Prop} (h:vT P f args m Q) (hq:∀ r m',Q r m'→Q' r m'):vT P f args m Q' :=
 ⟨h.1,fun w I ρ vs a b c d=>(h.2 w I ρ vs a b c d).mono fun en u w' ⟨h0,v,r,m',I',ρ',h1,h2,h3⟩=>⟨h0,v,r,m',I',ρ',h1,hq _ _ h2,h3⟩⟩
section
variable {v:Value} {cs:List AV} {a b c d:Nat} {f:Bool} {k:IntKind} {n:Int}
theorem amO:(AV.val v).cells=[.val v]:=rfl
theorem amP:(AV.agg cs).cells=cs:=rfl
theorem amQ:(AV.sl a b c d f).cells=[.sl a b c d f]:=rfl
theorem amR:(AV.tree a b cs f).cells=[.tree a b cs f]:=rfl
theorem amS:fC (.agg cs)=true:=rfl
theorem amT:fC (.val (.int k n))=true:=rfl
theorem amU:fC (.val (.bool f))=true:=rfl
theorem amV:fC (.val (.slice none 0 0))=true:=rfl
theorem amW:fC (.sl a b c d f)=true:=rfl
theorem amX:fC (.tree a b cs f)=true:=rfl
end
theorem c8:(type_of% @amO)∧(type_of% @amP)∧(type_of% @amQ)∧(type_of% @amR)∧(type_of% @amS)∧(type_of% @amT)∧(type_of% @amU)∧(type_of% @amV)∧(type_of% @amW)∧(type_of% @amX):=⟨@amO,@amP,@amQ,@amR,@amS,@amT,@amU,@amV,@amW,@amX⟩
end Go.Tw
namespace Go.Proofs.YtaekhhlgnbhnpaaGreat
open Go Go.Tw Go.Proofs Go.Gf
structure y9 (m:aH) (d0 d1 d2 ve lv sv:AV) (E:Int):Prop where
 d:m.at_ 0=some ⟨[d0,d1,d2],33,.var,true⟩
 v:m.at_ 1=some ⟨[ve],3,.var,true⟩
 l:m.at_ 2=some ⟨[lv],31,.var,true⟩
 s:m.at_ 3=some ⟨[sv],31,.var,true⟩
 e:m.at_ 4=some ⟨[aE E],28,.var,true⟩
theorem atm (m:aH) {d0 d1 d2 ve lv sv:AV} (h:y9 m d0 d1 d2 ve lv sv 0):vT Tryz.prog 131 [.ptr 4 0,.ptr 0 0,.ptr 1 0,.ptr 2 0,.ptr 3 0] m fun _ m'=>m'=m:=by
 have he:=h.e
 refine aju follows Tryz.func131 (by unfold Tryz.f131;rfl) (by unfold Tryz.f131;simp) aD (by unfold Tryz.f131;simp) (by kernel_rfl) ?_;unfold Tryz.f131
 simp only [↓pre,simprocAttr,aA,sx,akw,aD,aC,he]
theorem atn (m:aH) {d0 d1 d2 ve lv sv:AV} {E:Int} (h0:E≠0) (h:y9 m d0 d1 d2 ve lv sv E):vT Tryz.prog 131 [.ptr 4 0,.ptr 0 0,.ptr 1 0,.ptr 2 0,.ptr 3 0] m fun _ m'=>y9 m' (aE 0) (aE 0) aP (aE 0) aP aP E:=by
 obtain ⟨hd,hv,hl,hs,he⟩:=h
 refine aju follows Tryz.func131 (by unfold Tryz.f131;rfl) (by unfold Tryz.f131;simp) aD (by unfold Tryz.f131;simp) (by kernel_rfl) ?_;unfold Tryz.f131
 simp only [↓pre,simprocAttr,aA,sx,akw,aD,aC,aJ,aF,hd,hv,hl,hs,he,h0,Nat.one_ne_zero]
 refine ⟨?_, ?_, ?_, ?_, ?_⟩ <;> simp [aF,hd,hv,hl,hs,he,aP,aE]
def pX (k r c w:Int) (L:List (List UInt8)):List b9→Int→Int
 | [],_=>0
 | x::xs,n=>if rV k r c w L x (min n (lI k c))=0 then pX k r c w L xs (n - min n (lI k c)) else rV k r c w L x (min n (lI k c))
def nF (k r c w:Int) (L:List (List UInt8)):List b9→Int→List b9
 | [],_=>[]
 | x::xs,n=>xE k r c w L x (min n (lI k c))++nF k r c w L xs (n - min n (lI k c))
theorem aek (k r c w:Int) (L:List (List UInt8)) (x:b9) (n:Int):(xE k r c w L x n).length=n.toNat:=aci _ _
theorem ael {k r c w:Int} {L:List (List UInt8)} {x:b9} {n:Int} (h:rV k r c w L x n=0):1≤n∧n≤lI k c:=by
 unfold rV at h
 split at h
 ·omega
 ·unfold qO at h
  split at h
  ·omega
  ·omega
def cB (k r c w:Int) (L:List (List UInt8)) (row:Int):List UInt8:=eH k r c w (dM k r w L row)
def iM (k r c w:Int) (L:List (List UInt8)) (row:Int):Int:=if eY k r c w L row=0 then (if gK k r c w (dM k r w L row)=0 then (if dK (cB k r c w L row)=0 then 0 else pX k r c w L (cE (cB k r c w L row)) (oS k r c w (b6 (cB k r c w L row)))) else gK k r c w (dM k r w L row)) else eY k r c w L row
def kM (k r c w:Int) (L:List (List UInt8)) (row:Int):List b9:=if dK (cB k r c w L row)=0 then [] else cE (cB k r c w L row)
def dS (k r c w:Int) (L:List (List UInt8)) (row:Int):List b9:=if dK (cB k r c w L row)=0 then cE (cB k r c w L row) else nF k r c w L (cE (cB k r c w L row)) (oS k r c w (b6 (cB k r c w L row)))
def s6 (l:List b9):AV:=bE l.length (bW l)
def aem (k r c w:Int) (L:List (List UInt8)) (row:Int):AV:=if iM k r c w L row=0 then .tup [kL (b6 (cB k r c w L row)) (dK (cB k r c w L row)) (cE (cB k r c w L row)),aE (gA k r c w (dM k r w L row)),s6 (kM k r c w L row),s6 (dS k r c w L row),aE 0] else .tup [nQ,aE 0,aP,aP,aE (iM k r c w L row)]
theorem ato {a b c d e:AV} (ha:eG a) (hb:eG b) (hc:eG c) (hd:eG d) (he:eG e):eG (.tup [a,b,c,d,e]):=y6 fun x hx=>by
 simp only [List.mem_cons,List.not_mem_nil,or_false] at hx
 rcases hx with rfl | rfl | rfl | rfl | rfl <;> assumption
theorem atp:eG nQ:=sY fun c hc=>by
 simp only [List.mem_cons,List.not_mem_nil,or_false] at hc
 rcases hc with rfl | rfl | rfl <;> exact bU _
theorem atq {k r c w:Int} {ps:List bN} (h:gK k r c w ps=0):eD k r c w ps=0∧gA k r c w ps≠0∧¬ iL k r c w ps 2 (gA k r c w ps) < k.toNat∧nE k r c w (eH k r c w ps)=0:=by
 unfold gK at h
 split at h
 ·rename_i hc
  split at h
  ·contradiction
  ·rename_i h1
   split at h
   ·contradiction
   ·rename_i h2
    exact ⟨hc,h1,h2,h⟩
 ·contradiction
theorem aen {k r c w:Int} {ps:List bN} (h:gK k r c w ps=0):lE k r c w (b6 (eH k r c w ps)) (dK (eH k r c w ps)) (cE (eH k r c w ps))=0:=by
 obtain ⟨hc,_,_,h3⟩:=atq h
 unfold nE at h3
 split at h3
 ·split at h3
  ·split at h3
   ·rename_i h4
    unfold pV at h4
    rw [Bool.and_eq_true,Bool.and_eq_true,decide_eq_true_eq,decide_eq_true_eq] at h4
    exact h4.2.1
   ·contradiction
  ·contradiction
 ·contradiction
theorem amY {k r c w len dep:Int} {l:List b9} (h:lE k r c w len dep l=0):oE k r c w len=0∧dep=min (oF k r c w len) 1∧(l.length:Int)=if dep=0 then oS k r c w len else oF k r c w len:=by
 obtain ⟨hm,hd⟩:=acg h
 unfold qN at hd
 simp only [Bool.and_eq_true,decide_eq_true_eq] at hd
 obtain ⟨h1,h2,h3,h4⟩:=hd
 have hF:=acf (r:=r) (w:=w) (n:=len) hm
 refine ⟨h1,by omega, ?_⟩
 rw [h3]
 by_cases hd0:dep=0
 ·rw [if_neg (by omega),if_pos hd0]
 ·rw [if_pos (by omega),if_neg hd0]
end Go.Proofs.YtaekhhlgnbhnpaaGreat
namespace Go.Proofs.YtaekhhlgnbhnpaaGreat
open Go Go.Tw Go.Proofs Go.Gf
abbrev obR:List ResultVar:=[.cell 4 33,.cell 5 3,.cell 6 31,.cell 7 31,.cell 8 28]
abbrev obC:List AV:=[.ptr 4 0,.ptr 0 0,.ptr 1 0,.ptr 2 0,.ptr 3 0]
structure ObE (e:bI):Prop where
 a:e 4 = .ptr 0 0
 b:e 5 = .ptr 1 0
 c:e 6 = .ptr 2 0
 d:e 7 = .ptr 3 0
 e:e 8 = .ptr 4 0
theorem amZ {m:aH} {e:bI} {d0 d1 d2 ve lv sv:AV} {E:Int} (h:y9 m d0 d1 d2 ve lv sv E) (he:ObE e):jU Tryz.prog obR e m=some (.tup [.agg [d0,d1,d2],ve,lv,sv,aE E]):=by
 obtain ⟨hd,hv,hl,hs,h4⟩:=h
 obtain ⟨ea,eb,ec,ed,ee⟩:=he
 simp only [jU,mS,nW,iX,ea,eb,ec,ed,ee,hd,hv,hl,hs,h4,Option.bind_some,if_neg (show ¬ fO.var=fO.hole by decide),kO,show vF Tryz.prog 33=some true by kernel_rfl,show cG Tryz.prog 33=some 3 by kernel_rfl,show vF Tryz.prog 3=some false by kernel_rfl,show vF Tryz.prog 31=some false by kernel_rfl,show vF Tryz.prog 28=some false by kernel_rfl]
 rfl
theorem acp {m:aH} {e:bI} {d0 d1 d2 ve lv sv:AV} {E:Int} (h0:E≠0) (h:y9 m d0 d1 d2 ve lv sv E) (he:ObE e):afs Tryz.prog obR 131 obC (fun v m=>∃ k,fzT k m v=some (.tup [nQ,aE 0,aP,aP,aE E])) .ret e m :=
 (atn m h0 h).mono fun _ m' h'=>by
  rw [amZ h' he]
  exact ⟨1,ato atp (bU _) (bU _) (bU _) (bU _) 1 m'⟩
theorem am0 {m:aH} {e:bI} {len dep W:Int} {DV lv sv LT ST:AV} {n:Nat} {cs:List AV} (hD:bD DV n cs) (h:y9 m (aE len) (aE dep) DV (aE W) lv sv 0) (hl:fzT 1 m lv=some LT) (hs:fzT 1 m sv=some ST) (he:ObE e):afs Tryz.prog obR 131 obC (fun v m=>∃ k,fzT k m v=some (.tup [.agg [aE len,aE dep,DV],aE W,LT,ST,aE 0])) .ret e m :=
 (atm m h).mono fun _ m' h'=>by
  subst h'
  rw [amZ h he]
  refine ⟨1, ?_⟩
  have h1:fzT 1 m' (.agg [aE len,aE dep,DV])=some (.agg [aE len,aE dep,DV]):=sY (fun c hc=>by
   simp only [List.mem_cons,List.not_mem_nil,or_false] at hc
   rcases hc with rfl | rfl | rfl
   ·exact bU _
   ·exact bU _
   ·exact kK hD) 1 m'
  simp only [aE] at h1 ⊢
  simp only [kC,dT,h1,hl,hs,Option.bind_some,fP,jC,Option.map_some]
def iF:Nat→Bool:=fun d=>d != 4 && d != 5 && d != 6 && d != 7 && d != 8
theorem am1 (k r c w row:Int) (v:AV) (L:List (List UInt8)) (cells:List AV) (hv:fT v L cells):aY Tryz.prog 59 [dD k r c w v,aE row] ⟨aem k r c w L row,[]⟩:=by
 refine dY ?_
 have hp:=hv.rd.plain
 have hf:=cA hv.rd
 have ho:=bP hv.rd
 have hck:=agP k r c w v L cells hv
 have hrw:=aej k r c w row v L cells hv
 unfold aem iM
 unfold dD at hck hrw ⊢
 unfold aaZ at hrw
 have hz3:gB Tryz.prog 33=some [.int .i64 0,.int .i64 0,.slice none 0 0]:=by kernel_rfl
 by_cases hR:eY k r c w L row=0
 ·rw [if_pos hR] at hrw ⊢
  obtain ⟨hrb,hm⟩:=sZ hR
  have hE:iU k r c w L=0:=by
   unfold eY at hR
   split at hR
   ·assumption
   ·assumption
  have hrow:¬ row < 0∧¬ w≤row:=by
   unfold eY at hR
   rw [if_pos hE] at hR
   split at hR
   ·omega
   ·omega
  obtain ⟨h1,h2⟩:=hrow
  rw [hE] at hck
  have hmn:=gF hm
  have hrv:=acn k r c w L row (by omega)
  have hcr:=amJ k r c w _ _ _ hrv
  have hpr:=hrv.rd.plain
  have hsr:=cK hrv.rd
  have hoR:=bP hrv.rd
  unfold kM dS cB
  generalize bE (k+r).toNat (lS (dM k r w L row))=RV at *
  generalize dM k r w L row=ps at *
  unfold pW at hcr
  refine ajv follows Tryz.func59 (by unfold Tryz.f59;rfl) (by unfold Tryz.f59;simp) iF (by unfold Tryz.f59;simp) (by kernel_rfl) (by kernel_rfl) (by unfold Tryz.f59;decide) (by kernel_rfl) ?_
  unfold aft Tryz.f59
  by_cases hC:gK k r c w ps=0
  ·rw [if_pos hC] at hcr ⊢
   have hD:=aen hC
   obtain ⟨hl0,hl1,hdep,hll,hlr⟩:=y8 hD
   obtain ⟨hoE,hdF,hlc⟩:=amY hD
   have hRr:=dH (cE (eH k r c w ps)).length (bW (cE (eH k r c w ps)))
   have hw:=gU hm
   have hdb:=wP hw.1 hw.2
   have hcl:=atk (cE (eH k r c w ps)) (by unfold dI at hll;omega)
   have hst:=akZ k r c w (b6 (eH k r c w ps))
   have hlf:=afX k r c w
   simp only [hm,if_true] at hlf
   rw [hoE] at hst
   unfold kL at hcr ⊢
   unfold s6
   generalize gA k r c w ps=W at *
   generalize dK (eH k r c w ps)=PD at *
   generalize b6 (eH k r c w ps)=PL at *
   generalize cE (eH k r c w ps)=PR at *
   have hfR:=cA hRr
   have hoL:=bP hRr
   have hsL:=cK hRr
   have hpL:=hRr.plain
   by_cases hd0:PD=0
   ·rw [if_pos hd0,if_pos hd0,if_pos hd0,if_pos rfl]
    rw [hd0] at hcr ⊢
    replace hd0:=aB.mk hd0
    have hfin:=kK hRr
    replace hfin:=aB.mk hfin
    have hcL:=tV hRr
    have hkL:=tW hRr
    generalize bE PR.length (bW PR)=RT at *
    simp only [aE] at hcr hrw
    simp only [↓pre,simprocAttr,aA,sx,iK,c8,iF,bne,aC,aJ,aK,aF,aG,bX,bO,aW,Nat.one_ne_zero,Nat.zero_ne_one,Nat.reduceEqDiff,hf,ho,sr]
    refine aL (hck) (by simp only [aA,aO, *]) ?_;simp only [↓pre,simprocAttr,aA,sx,iK,c8,iF,bne,aC,aJ,aK,aF,aG,bX,bO,aW,Nat.one_ne_zero,Nat.zero_ne_one,Nat.reduceEqDiff,hf,ho,h1,h2,hoR,hsr,hsL,hoL,hcL,hkL,sr];refine aL (hrw) (by simp only [aA,aO, *]) ?_;simp only [↓pre,simprocAttr,aA,sx,iK,c8,iF,bne,aC,aJ,aK,aF,aG,bX,bO,aW,Nat.one_ne_zero,Nat.zero_ne_one,Nat.reduceEqDiff,hf,ho,h1,h2,hoR,hsr,hsL,hoL,hcL,hkL,sr];refine aL (hcr) (by simp only [aA,aO, *]) ?_;simp only [↓pre,simprocAttr,aA,sx,iK,c8,iF,bne,aC,aJ,aK,aF,aG,bX,bO,aW,Nat.one_ne_zero,Nat.zero_ne_one,Nat.reduceEqDiff,hf,ho,h1,h2,hoR,hsr,hsL,hoL,hcL,hkL,sr];refine aL (hcl) (by simp only [aA,aO, *]) ?_;simp only [↓pre,simprocAttr,aA,sx,iK,c8,iF,bne,aC,aJ,aK,aF,aG,bX,bO,aW,Nat.one_ne_zero,Nat.zero_ne_one,Nat.reduceEqDiff,hf,ho,h1,h2,hoR,hsr,hsL,hoL,hcL,hkL,sr]
    exact am0 hRr ⟨rfl,rfl,rfl,rfl,rfl⟩ fP (hfin.out _ _) ⟨rfl,rfl,rfl,rfl,rfl⟩
   ·rw [if_neg hd0,if_neg hd0,if_neg hd0]
    have hPD:PD=1:=by omega
    rw [if_neg hd0] at hlc
    have hos:0≤oS k r c w PL∧oS k r c w PL≤40000:=by
     have:=aaD (a:=PL) (b:=wI k c) hl0 hl1 (by unfold wI;omega) (by unfold wI;omega)
     unfold oS
     rw [if_pos hoE]
     unfold sI
     omega
    have hlb:=rF hw.1 hw.2
    have hlfb:5≤lI k c∧lI k c≤128:=hlb
    have hPRl:PR.length≤126:=by unfold dI at hll;omega
    have hlea:=fun (i:Nat) (x:b9) (hi:PR[i]? = some x) n=>atl k r c w v L cells hv hE x (by
     have:=hlr x (List.mem_of_getElem? hi)
     unfold i9
     exact decide_eq_true this) n
    have hcells:=fun i x hi=>vB PR [] i x hi
    rw [List.append_nil] at hcells
    unfold dD at hlea
    have hlenRT:=fun t ht=>hRr.len' (P:=Tryz.prog) (t:=t) ht
    have haddRT:=fun t j ht=>hRr.addr' (P:=Tryz.prog) (t:=t) (k:=j) ht
    have hcL:=tV hRr
    have hkL:=tW hRr
    generalize bE PR.length (bW PR)=RT at *
    generalize hEE:pX k r c w L PR (oS k r c w PL)=EE at *
    generalize hRR:nF k r c w L PR (oS k r c w PL)=RR at *
    generalize oS k r c w PL=OS at *
    generalize hLI:lI k c=LI at *
    replace hLI:=aB.mk hLI
    simp only [aE] at hcr hrw
    generalize hRES:(if EE=0 then AV.tup [AV.agg [aE PL,aE PD,RT],aE W,RT,bE RR.length (bW RR),aE 0] else AV.tup [nQ,aE 0,aP,aP,aE EE])=RES
    replace hRES:=aB.mk hRES
    replace hPD:=aB.mk hPD
    replace hEE:=aB.mk hEE
    replace hRR:=aB.mk hRR
    replace hos:=aB.mk hos
    replace hlr:=aB.mk hlr
    replace hlea:=aB.mk hlea
    replace hcells:=aB.mk hcells
    replace hdF:=aB.mk hdF
    replace hlc:=aB.mk hlc
    replace hrv:=aB.mk hrv
    replace hmn:=aB.mk hmn
    replace hlfb:=aB.mk hlfb
    replace hlb:=aB.mk hlb
    replace hw:=aB.mk hw
    replace hdb:=aB.mk hdb
    replace hD:=aB.mk hD
    simp only [↓pre,simprocAttr,aA,sx,iK,c8,iF,bne,aC,aJ,aK,aF,aG,bX,bO,aW,Nat.one_ne_zero,Nat.zero_ne_one,Nat.reduceEqDiff,hf,ho,sr]
    refine aL (hck) (by simp only [aA,aO, *]) ?_;simp only [↓pre,simprocAttr,aA,sx,iK,c8,iF,bne,aC,aJ,aK,aF,aG,bX,bO,aW,Nat.one_ne_zero,Nat.zero_ne_one,Nat.reduceEqDiff,hf,ho,h1,h2,hoR,hsr,hsL,hoL,hcL,hkL,hd0,hlenRT,sr];refine aL (hrw) (by simp only [aA,aO, *]) ?_;simp only [↓pre,simprocAttr,aA,sx,iK,c8,iF,bne,aC,aJ,aK,aF,aG,bX,bO,aW,Nat.one_ne_zero,Nat.zero_ne_one,Nat.reduceEqDiff,hf,ho,h1,h2,hoR,hsr,hsL,hoL,hcL,hkL,hd0,hlenRT,sr];refine aL (hcr) (by simp only [aA,aO, *]) ?_;simp only [↓pre,simprocAttr,aA,sx,iK,c8,iF,bne,aC,aJ,aK,aF,aG,bX,bO,aW,Nat.one_ne_zero,Nat.zero_ne_one,Nat.reduceEqDiff,hf,ho,h1,h2,hoR,hsr,hsL,hoL,hcL,hkL,hd0,hlenRT,sr];refine aL (hcl) (by simp only [aA,aO, *]) ?_;simp only [↓pre,simprocAttr,aA,sx,iK,c8,iF,bne,aC,aJ,aK,aF,aG,bX,bO,aW,Nat.one_ne_zero,Nat.zero_ne_one,Nat.reduceEqDiff,hf,ho,h1,h2,hoR,hsr,hsL,hoL,hcL,hkL,hd0,hlenRT,sr];refine aL (hst) (by rfl) ?_;simp only [↓pre,simprocAttr,aA,sx,iK,c8,iF,bne,aC,aJ,aK,aF,aG,bX,bO,aW,Nat.one_ne_zero,Nat.zero_ne_one,Nat.reduceEqDiff,hf,ho,h1,h2,hoR,hsr,hsL,hoL,hcL,hkL,hd0,hlenRT,sr];refine aL (hlf) (by rfl) ?_;simp only [↓pre,simprocAttr,aA,sx,iK,c8,iF,bne,aC,aJ,aK,aF,aG,bX,bO,aW,Nat.one_ne_zero,Nat.zero_ne_one,Nat.reduceEqDiff,hf,ho,h1,h2,hoR,hsr,hsL,hoL,hcL,hkL,hd0,hlenRT,sr]
    rw [b7]
    refine b8 (fun q e m=>∃ i left acc lv,q+i=PR.length∧ObE e∧e 2 = .tptr 0 [aE k,aE r,aE c,aE w,v]∧e 10=aE left∧e 11=aE LI∧e 74=RT∧e 75=aE (PR.length:Nat)∧e 76=aE (i:Nat)∧aB ((0≤left∧left≤40000)∧y9 m (aE PL) (aE PD) RT (aE W) RT lv 0∧4 < m.next∧eM m 67 2 lv acc.length (bW acc)∧(∀ j,cP lv=some j→4 < j)∧pX k r c w L (PR.drop i) left=EE∧acc++nF k r c w L (PR.drop i) left=RR∧acc.length≤i*128)) PR.length ⟨0,OS,[],aP,by omega,⟨rfl,rfl,rfl,rfl,rfl⟩,rfl,rfl,rfl,rfl,rfl,rfl,⟨hos.out,⟨rfl,rfl,rfl,rfl,rfl⟩,by simp [bX,bO,aW],gT,fun j h=>by simp [cP,aP] at h,hEE.out,hRR.out,by simp⟩⟩ ?_
    rintro q e m ⟨i,left,acc,lv,hq,he,e2,e10,e11,e74,e75,e76,hJ⟩
    replace hq:=aB.mk hq
    obtain ⟨hleft,hB,hnx,hown,hblk,hLE,hLR,hacc⟩:=hJ.out
    clear hJ
    obtain ⟨e4,e5,e6,e7,e8⟩:=he
    obtain ⟨b0,b1,b2,b3,b4⟩:=hB
    have g0:¬ (0=m.next):=by omega
    have g1:¬ (1=m.next):=by omega
    have g2:¬ (2=m.next):=by omega
    have g3:¬ (3=m.next):=by omega
    have g4:¬ (4=m.next):=by omega
    by_cases hlt:i < PR.length
    ·have hlt':((i:Nat):Int) < ((PR.length:Nat):Int):=by omega
     have wi:=cF (n:=i) (by omega)
     obtain ⟨x,hx⟩:∃ x,PR[i]? = some x:=⟨_,List.getElem?_eq_getElem hlt⟩
     obtain ⟨ha,hb⟩:=hcells.out i x hx
     obtain ⟨ht,htl⟩:=qI ha hb
     have hdrop:PR.drop i=x::PR.drop (i+1):=by
      rw [List.drop_eq_getElem_cons hlt]
      congr 1
      rw [List.getElem?_eq_getElem hlt] at hx
      exact Option.some.inj hx
     have hlf2:=hlea.out i x hx (min left LI)
     rw [hdrop] at hLE hLR
     simp only [pX,nF,hLI.out] at hLE hLR
     unfold agR at hlf2
     replace hdrop:=aB.mk hdrop
     replace hx:=aB.mk hx
     have hlL:=aek k r c w L x (min left LI)
     have hok:=ael (k:=k) (r:=r) (c:=c) (w:=w) (L:=L) (x:=x) (n:=min left LI)
     by_cases hE0:rV k r c w L x (min left LI)=0
     ·rw [if_pos hE0] at hLE hlf2
      obtain ⟨hn1,hn2⟩:=hok hE0
      obtain ⟨N,hN⟩:∃ N:Nat,min left LI=(N:Int):=⟨(min left LI).toNat,by omega⟩
      rw [hN] at hLE hlf2 hLR hlL hn1 hn2
      rw [Int.toNat_natCast] at hlf2 hlL
      generalize xE k r c w L x ↑N=LR at *
      have hTr:=dH N (bW LR)
      have pT:=hTr.plain
      have sT:=cK hTr
      have lT:=fun t ht=>hTr.len' (P:=Tryz.prog) (t:=t) ht
      have hsrc:=fun m=>hTr.src (P:=Tryz.prog) (m:=m) (el:=67) (sz:=2) (by rw [xC];omega)
      rw [show (bW LR).take (N*2)=bW LR from List.take_of_length_le (by rw [xC];omega)] at hsrc
      generalize bE N (bW LR)=TR at *
      have hNl:N≤128:=by have:=hlfb.out;omega
      have wl:IntKind.i64.wrap (left - (N:Int))=left - (N:Int):=dU (by omega) (by omega)
      replace hlL:=aB.mk hlL
      replace hLE:=aB.mk hLE
      replace hLR:=aB.mk hLR
      replace hown:=aB.mk hown
      replace hblk:=aB.mk hblk
      replace hacc:=aB.mk hacc
      replace hok:=aB.mk hok
      replace hTr:=aB.mk hTr
      replace hsrc:=aB.mk hsrc
      replace hE0:=aB.mk hE0
      have hne:4 < m.next:=hnx
      simp only [↓pre,simprocAttr,aA,sx,iK,c8,iF,bne,aC,aJ,aK,aF,aG,bX,bO,aW,Nat.one_ne_zero,Nat.zero_ne_one,Nat.reduceEqDiff,hf,ho,e2,e4,e5,e6,e7,e8,e10,e11,e74,e75,e76,b0,b1,b2,b3,b4,g0,g1,g2,g3,g4,hoL,hcL,hkL,aM,hlt',hlt,haddRT,ht,htl,hN,sr]
      refine aL (hlf2) (by simp only [aA,aO, *]) ?_;simp only [↓pre,simprocAttr,aA,sx,iK,c8,iF,bne,aC,aJ,aK,aF,aG,bX,bO,aW,Nat.one_ne_zero,Nat.zero_ne_one,Nat.reduceEqDiff,hf,ho,e2,e4,e5,e6,e7,e8,e10,e11,e74,e75,e76,b0,b1,b2,b3,b4,g0,g1,g2,g3,g4,hoL,hcL,hkL,aM,hN,sT,sr]
      generalize hm3:aH.put (aH.put (aH.push m _) _ _) _ _=m3
      have c0:m3.at_ 0=some ⟨[aE PL,aE PD,RT],33,.var,true⟩:=by rw [←hm3];simp [aF,aG,b0,g0]
      have c1:m3.at_ 1=some ⟨[aE W],3,.var,true⟩:=by rw [←hm3];simp [aF,aG,b1,g1]
      have c2:m3.at_ 2=some ⟨[RT],31,.var,true⟩:=by rw [←hm3];simp [aF,aG,b2,g2]
      have c3:m3.at_ 3=some ⟨[lv],31,.var,true⟩:=by rw [←hm3];simp [aF,aG,b3,g3]
      have c4:m3.at_ 4=some ⟨[aE 0],28,.var,true⟩:=by rw [←hm3];simp [aF,aG,aE]
      have cn:4 < m3.next:=by rw [←hm3];simp only [bX,bO];omega
      have co:eM m3 67 2 lv acc.length (bW acc):=hown.out.keep (by rw [←hm3];simp only [bX,bO];omega) fun j kk hj hk=>by
       have h4:=hblk.out j hj
       have hjl:j < m.next:=by
        rcases hown.out.form with ⟨rfl,_⟩ | ⟨b,rfl,_,hb,_⟩
        ·simp [cP,aP] at hj
        ·simp only [cP,Option.some.injEq] at hj;omega
       rw [←hm3,aF,if_neg (by omega),aF,if_neg (by omega),aG,if_neg (by omega)]
       exact hk
      clear hm3 hown
      have hacc2:=hacc.out
      have hNb:N≤1000000:=by omega
      refine vV (kd := .flat) (y:=16) (zl:=[.int .i64 0,.int .i64 0]) (by kernel_rfl) co (by kernel_rfl) (by kernel_rfl) (by kernel_rfl) rfl (hsrc.out m3) (by rw [xC];have:=hlL.out;omega) (by omega) (by omega) ?_
      intro lv' m4 ho' hn' hkp hbk
      have hnb:∀ j,j≤4→cP lv≠some j:=fun j h1 h2=>by have:=hblk.out j h2;omega
      have d0:=hkp 0 _ c0 (by omega) (hnb 0 (by omega))
      have d1:=hkp 1 _ c1 (by omega) (hnb 1 (by omega))
      have d2:=hkp 2 _ c2 (by omega) (hnb 2 (by omega))
      have d3:=hkp 3 _ c3 (by omega) (hnb 3 (by omega))
      have d4:=hkp 4 _ c4 (by omega) (hnb 4 (by omega))
      have hbk':∀ j,cP lv'=some j→4 < j:=fun j hj=>by
       rcases hbk j hj with h | h
       ·omega
       ·exact hblk.out j h
      have ocl:lv'.cells=[lv']∧fC lv'=true:=by
       rcases ho'.form with ⟨rfl,_⟩ | ⟨b,rfl,_⟩
       ·exact ⟨rfl,rfl⟩
       ·exact ⟨rfl,rfl⟩
      obtain ⟨ok1,ok2⟩:=ocl
      replace hkp:=aB.mk hkp
      replace hbk:=aB.mk hbk
      replace hbk':=aB.mk hbk'
      replace hnb:=aB.mk hnb
      replace ho':=aB.mk ho'
      replace hacc2:=aB.mk hacc2
      simp only [↓pre,simprocAttr,aA,sx,iK,c8,iF,bne,aC,aJ,aK,aF,aG,bX,bO,aW,Nat.one_ne_zero,Nat.zero_ne_one,Nat.reduceEqDiff,hf,ho,e2,e4,e5,e6,e7,e8,e10,e11,e74,e75,e76,d3,ok1,ok2,lT,wl,wi,sr]
      refine ⟨q - 1,by have:=hq.out;omega,i+1,left - N,acc++LR,lv',by have:=hq.out;omega,⟨e4,e5,e6,e7,e8⟩,rfl,rfl,⟨⟨by omega,by omega⟩,⟨?_, ?_, ?_, ?_, ?_⟩,by omega, ?_,hbk'.out,hLE.out,by rw [List.append_assoc];exact hLR.out,by rw [List.length_append];have:=hlL.out;have:=hacc2.out;omega⟩⟩
      ·rw [aF,if_neg (by decide)];exact d0
      ·rw [aF,if_neg (by decide)];exact d1
      ·rw [aF,if_neg (by decide)];exact d2
      ·rw [aF,if_pos rfl]
      ·rw [aF,if_neg (by decide)];exact d4
      ·rw [aee,List.length_append,hlL.out]
       exact ho'.out.keep (by rw [bX];exact Nat.le_refl _) fun j kk hj hk=>by
        have:=hbk'.out j hj
        rw [aF,if_neg (by omega)]
        exact hk
     ·rw [if_neg hE0] at hLE hlf2
      have hres:=hRES.out
      rw [←hLE,if_neg hE0] at hres
      generalize rV k r c w L x (min left LI)=E at *
      replace hres:=aB.mk hres
      replace hLE:=aB.mk hLE
      replace hown:=aB.mk hown
      replace hok:=aB.mk hok
      unfold aP at hlf2
      simp only [↓pre,simprocAttr,aA,sx,iK,c8,iF,bne,aC,aJ,aK,aF,aG,bX,bO,aW,Nat.one_ne_zero,Nat.zero_ne_one,Nat.reduceEqDiff,hf,ho,e2,e4,e5,e6,e7,e8,e10,e11,e74,e75,e76,b0,b1,b2,b3,b4,g0,g1,g2,g3,g4,hoL,hcL,hkL,hlt',hlt,haddRT,ht,htl,sr]
      refine aL (hlf2) (by simp only [aA,aO, *]) ?_;simp only [↓pre,simprocAttr,aA,sx,iK,c8,iF,bne,aC,aJ,aK,aF,aG,bX,bO,aW,Nat.one_ne_zero,Nat.zero_ne_one,Nat.reduceEqDiff,hf,ho,e2,e4,e5,e6,e7,e8,e10,e11,e74,e75,e76,b0,b1,b2,b3,b4,g0,g1,g2,g3,g4,hoL,hcL,hkL,hE0,sr]
      rw [←hres.out]
      refine acp (d0:=aE PL) (d1:=aE PD) (d2:=RT) (ve:=aE W) (lv:=RT) (sv:=lv) hE0 ⟨?_, ?_, ?_, ?_, ?_⟩ ⟨e4,e5,e6,e7,e8⟩
      all_goals simp [aF,aG,b0,b1,b2,b3,b4,g0,g1,g2,g3,g4,aE]
    ·have hlt':¬ ((i:Nat):Int) < ((PR.length:Nat):Int):=by omega
     rw [List.drop_of_length_le (by omega)] at hLE hLR
     simp only [pX,nF,List.append_nil] at hLE hLR
     have hres:=hRES.out
     rw [←hLE,if_pos rfl] at hres
     replace hres:=aB.mk hres
     replace hLE:=aB.mk hLE
     replace hLR:=aB.mk hLR
     replace hown:=aB.mk hown
     simp only [↓pre,simprocAttr,aA,sx,iK,c8,iF,bne,aC,aJ,aK,aF,aG,bX,bO,aW,Nat.one_ne_zero,Nat.zero_ne_one,Nat.reduceEqDiff,hf,ho,e2,e4,e5,e6,e7,e8,e10,e11,e74,e75,e76,b0,b1,b2,b3,b4,g0,g1,g2,g3,g4,hoL,hcL,hkL,hlt',sr]
     rw [←hres.out,←hLR.out]
     exact am0 hRr ⟨b0,b1,b2,b3,b4⟩ (aac hRr) (yY hown.out 1) ⟨e4,e5,e6,e7,e8⟩
  ·rw [if_neg hC] at hcr
   rw [if_neg hC,if_neg hC]
   unfold nQ aP at hcr
   simp only [aE] at hcr hrw
   replace hrv:=aB.mk hrv
   replace hmn:=aB.mk hmn
   replace hR:=aB.mk hR
   generalize gK k r c w ps=E at *
   simp only [↓pre,simprocAttr,aA,sx,iK,c8,iF,bne,aC,aJ,aK,aF,aG,bX,bO,aW,Nat.one_ne_zero,Nat.zero_ne_one,Nat.reduceEqDiff,hf,ho,sr]
   refine aL (hck) (by simp only [aA,aO, *]) ?_;simp only [↓pre,simprocAttr,aA,sx,iK,c8,iF,bne,aC,aJ,aK,aF,aG,bX,bO,aW,Nat.one_ne_zero,Nat.zero_ne_one,Nat.reduceEqDiff,hf,ho,h1,h2,hoR,hsr,hC,sr];refine aL (hrw) (by simp only [aA,aO, *]) ?_;simp only [↓pre,simprocAttr,aA,sx,iK,c8,iF,bne,aC,aJ,aK,aF,aG,bX,bO,aW,Nat.one_ne_zero,Nat.zero_ne_one,Nat.reduceEqDiff,hf,ho,h1,h2,hoR,hsr,hC,sr];refine aL (hcr) (by simp only [aA,aO, *]) ?_;simp only [↓pre,simprocAttr,aA,sx,iK,c8,iF,bne,aC,aJ,aK,aF,aG,bX,bO,aW,Nat.one_ne_zero,Nat.zero_ne_one,Nat.reduceEqDiff,hf,ho,h1,h2,hoR,hsr,hC,sr]
   exact acp hC ⟨rfl,rfl,rfl,rfl,rfl⟩ ⟨rfl,rfl,rfl,rfl,rfl⟩
 ·have hRE:eY k r c w L row=if iU k r c w L=0 then (if row < 0∨w≤row then 2 else 0) else iU k r c w L:=rfl
  rw [if_neg hR,if_neg hR]
  refine ajv follows Tryz.func59 (by unfold Tryz.f59;rfl) (by unfold Tryz.f59;simp) iF (by unfold Tryz.f59;simp) (by kernel_rfl) (by kernel_rfl) (by unfold Tryz.f59;decide) (by kernel_rfl) ?_
  unfold aft Tryz.f59
  by_cases hE:iU k r c w L=0
  ·rw [if_pos hE] at hRE
   rw [hE] at hck
   have hrow:row < 0∨w≤row:=by
    by_cases h:row < 0∨w≤row
    ·exact h
    ·rw [if_neg h] at hRE;exact absurd hRE hR
   rw [if_pos hrow] at hRE
   rw [hRE] at *
   by_cases h1:row < 0
   ·simp only [↓pre,simprocAttr,aA,sx,iK,c8,iF,bne,aC,aJ,aK,aF,aG,bX,bO,aW,Nat.one_ne_zero,Nat.zero_ne_one,Nat.reduceEqDiff,hf,ho,sr]
    refine aL (hck) (by simp only [aA,aO, *]) ?_;simp only [↓pre,simprocAttr,aA,sx,iK,c8,iF,bne,aC,aJ,aK,aF,aG,bX,bO,aW,Nat.one_ne_zero,Nat.zero_ne_one,Nat.reduceEqDiff,hf,ho,h1,sr]
    exact acp (E:=2) (by decide) ⟨rfl,rfl,rfl,rfl,rfl⟩ ⟨rfl,rfl,rfl,rfl,rfl⟩
   ·have h2:w≤row:=by omega
    simp only [↓pre,simprocAttr,aA,sx,iK,c8,iF,bne,aC,aJ,aK,aF,aG,bX,bO,aW,Nat.one_ne_zero,Nat.zero_ne_one,Nat.reduceEqDiff,hf,ho,sr]
    refine aL (hck) (by simp only [aA,aO, *]) ?_;simp only [↓pre,simprocAttr,aA,sx,iK,c8,iF,bne,aC,aJ,aK,aF,aG,bX,bO,aW,Nat.one_ne_zero,Nat.zero_ne_one,Nat.reduceEqDiff,hf,ho,h1,h2,sr]
    exact acp (E:=2) (by decide) ⟨rfl,rfl,rfl,rfl,rfl⟩ ⟨rfl,rfl,rfl,rfl,rfl⟩
  ·rw [if_neg hE] at hRE
   rw [hRE]
   simp only [↓pre,simprocAttr,aA,sx,iK,c8,iF,bne,aC,aJ,aK,aF,aG,bX,bO,aW,Nat.one_ne_zero,Nat.zero_ne_one,Nat.reduceEqDiff,hf,ho,sr]
   refine aL (hck) (by simp only [aA,aO, *]) ?_;simp only [↓pre,simprocAttr,aA,sx,iK,c8,iF,bne,aC,aJ,aK,aF,aG,bX,bO,aW,Nat.one_ne_zero,Nat.zero_ne_one,Nat.reduceEqDiff,hf,ho,hE,sr]
   exact acp hE ⟨rfl,rfl,rfl,rfl,rfl⟩ ⟨rfl,rfl,rfl,rfl,rfl⟩
theorem atr {n o cnt:Nat} {f g:Nat→UInt8} {xs:List AV} (hl:xs.length=cnt) (ho:o+cnt≤n) (hx:∀ j,j < cnt→xs[j]? = some (aU (g (o+j)))) (hf:∀ j,j < n→¬ (o≤j∧j < o+cnt)→f j=g j):cI (aZ n f) o xs=aZ n g:=by
 refine List.ext_getElem? fun j => ?_
 rw [aeJ _ _ _ (by rw [eE];omega)]
 by_cases hj:j < n
 ·rw [iD g hj]
  by_cases h:o≤j∧j < o+xs.length
  ·rw [if_pos h,hx _ (by omega),show o+(j - o)=j by omega]
  ·rw [if_neg h,iD f hj,hf j hj (by omega)]
 ·rw [if_neg (by omega),List.getElem?_eq_none (by rw [eE];omega),List.getElem?_eq_none (by rw [eE];omega)]
def oR (k r c w:Int) (L:List (List UInt8)) (x:b9):Bool:=decide (iL k r c w (dM k r w L x.1) 1 x.2 < k.toNat)
def mO (W fr to i:Nat):Bool:=decide (max fr (i*W) < min to ((i+1)*W))
def iG (k r c w:Int) (L:List (List UInt8)) (l:List b9) (fr to:Nat):Int:=if (List.range l.length).any (fun i=>mO (wI k c).toNat fr to i && oR k r c w L (l.getD i (0,0)))=true then 5 else 0
def acq (k r c w:Int) (L:List (List UInt8)) (l:List b9) (p:Nat):UInt8:=if p < l.length*(wI k c).toNat then (jA k r c w L (l.getD (p / (wI k c).toNat) (0,0))).getD (p % (wI k c).toNat) 0 else 0
def kN (k r c w:Int) (L:List (List UInt8)) (l:List b9) (fr to:Nat):List UInt8:=tab (to - fr) fun j=>acq k r c w L l (fr+j)
theorem ats {m : aH} {n fr to i W A Z : Nat} {FF : Nat → UInt8} {D : List UInt8} {dv : AV} (hb : m.at_ 0 = some ⟨aZ n fun j => if fr + j < i * W then FF j else 0, 5, .flat, true⟩) (hsrc : fW Tryz.prog 5 1 m dv = some (((aQ D).drop (A - i * W)).take ((W - (A - i * W)) * 1), W - (A - i * W))) (hDl : D.length = W) (hFx : ∀ j, i * W ≤ fr + j → fr + j < i * W + W → FF j = D.getD (fr + j - i * W) 0) (hA2 : A = max fr (i * W)) (hZ2 : Z = min to ((i + 1) * W)) (hsuc : (i + 1) * W = i * W + W) (hn : to - fr = n) (hAZ : A < Z) :
   o5 Tryz.prog 5 m (.sl 0 (A - fr) (Z - A) (n - (A - fr)) true) dv = some ⟨aE (min (W - (A - i * W)) (Z - A) : Nat), m.put 0 (some ⟨aZ n fun j => if fr + j < (i + 1) * W then FF j else 0, 5, .flat, true⟩), none⟩ := by
 have h2 : cG Tryz.prog 5 = some 1 := by kernel_rfl
 have h4 : bR Tryz.prog 5 = .flat := by kernel_rfl
 simp only [o5, h2, hsrc, hb, Option.bind_some, h4]
 rw [if_pos ⟨trivial, trivial, by rw [eE]; omega⟩]
 have hmin : min (W - (A - i * W)) (Z - A) = Z - A := by omega
 rw [hmin, Nat.mul_one, Nat.mul_one]
 congr 4
 refine atr (cnt := Z - A) (by rw [List.length_take, List.length_take, List.length_drop, gH]; omega) (by omega) (fun j hj => ?_) (fun j hj hnj => ?_)
 · rw [List.getElem?_take, if_pos hj, List.getElem?_take, if_pos (by omega), List.getElem?_drop, if_pos (by omega), hFx (A - fr + j) (by omega) (by omega)]
   unfold aQ
   have hlt : A - i * W + j < D.length := by omega
   rw [List.getElem?_map, List.getElem?_eq_getElem hlt, List.getD_eq_getElem?_getD, show fr + (A - fr + j) - i * W = A - i * W + j by omega, List.getElem?_eq_getElem hlt]
   rfl
 · by_cases h5 : fr + j < i * W
   · rw [if_pos h5, if_pos (by omega)]
   · rw [if_neg h5, if_neg (by omega)]
def pY:Nat→Bool:=fun d=>d != 89
theorem am2 (k r c w row:Int) (v:AV) (L:List (List UInt8)) (cells:List AV) (hv:fT v L cells):aY Tryz.prog 100 [dD k r c w v,aE row] ⟨aE (eY k r c w L row),[]⟩:=by
 have hp:=hv.rd.plain
 have hf:=cA hv.rd
 have ho:=bP hv.rd
 have hck:=agP k r c w v L cells hv
 unfold eY
 unfold dD at hck ⊢
 by_cases hE:iU k r c w L=0
 ·rw [hE] at hck
  rw [if_pos hE]
  replace hE:=aB.mk hE
  by_cases hrow:row < 0∨w≤row
  ·rw [if_pos hrow]
   by_cases h1:row < 0
   ·refine bB follows Tryz.func100 (by unfold Tryz.f100;rfl) (by unfold Tryz.f100;simp) aD (by unfold Tryz.f100;simp) (by kernel_rfl) ?_;unfold Tryz.f100
    simp only [↓pre,simprocAttr,aA,sx,v8,aD,aC,hf,ho,sr]
    refine aL (hck) (by simp only [aA,aO, *]) ?_;simp only [↓pre,simprocAttr,aA,sx,v8,aD,aC,hf,ho,h1,sr]
   ·have h2:w≤row:=by omega
    refine bB follows Tryz.func100 (by unfold Tryz.f100;rfl) (by unfold Tryz.f100;simp) aD (by unfold Tryz.f100;simp) (by kernel_rfl) ?_;unfold Tryz.f100
    simp only [↓pre,simprocAttr,aA,sx,v8,aD,aC,hf,ho,sr]
    refine aL (hck) (by simp only [aA,aO, *]) ?_;simp only [↓pre,simprocAttr,aA,sx,v8,aD,aC,hf,ho,h1,h2,sr]
  ·rw [if_neg hrow]
   have h1:¬ row < 0:=by omega
   have h2:¬ w≤row:=by omega
   refine bB follows Tryz.func100 (by unfold Tryz.f100;rfl) (by unfold Tryz.f100;simp) aD (by unfold Tryz.f100;simp) (by kernel_rfl) ?_;unfold Tryz.f100
   simp only [↓pre,simprocAttr,aA,sx,v8,aD,aC,hf,ho,sr]
   refine aL (hck) (by simp only [aA,aO, *]) ?_;simp only [↓pre,simprocAttr,aA,sx,v8,aD,aC,hf,ho,h1,h2,sr]
 ·rw [if_neg hE]
  refine bB follows Tryz.func100 (by unfold Tryz.f100;rfl) (by unfold Tryz.f100;simp) aD (by unfold Tryz.f100;simp) (by kernel_rfl) ?_;unfold Tryz.f100
  simp only [↓pre,simprocAttr,aA,sx,v8,aD,aC,hf,ho,sr]
  refine aL (hck) (by simp only [aA,aO, *]) ?_;simp only [↓pre,simprocAttr,aA,sx,v8,aD,aC,hf,ho,hE,sr]
def vC (k r c w:Int) (L:List (List UInt8)) (row:Int):Int:=if eY k r c w L row=0 then gK k r c w (dM k r w L row) else eY k r c w L row
theorem am3 (k r c w row:Int) (v:AV) (L:List (List UInt8)) (cells:List AV) (hv:fT v L cells):aY Tryz.prog 27 [dD k r c w v,aE row] ⟨.tup [aE (if vC k r c w L row=0 then b6 (cB k r c w L row) else 0),aE (vC k r c w L row)],[]⟩:=by
 have hp:=hv.rd.plain
 have hf:=cA hv.rd
 have ho:=bP hv.rd
 have hck:=am2 k r c w row v L cells hv
 have hrw:=aej k r c w row v L cells hv
 unfold vC cB
 unfold dD at hck hrw ⊢
 unfold aaZ at hrw
 by_cases hR:eY k r c w L row=0
 ·rw [hR] at hck
  rw [if_pos hR] at hrw
  simp only [if_pos hR]
  obtain ⟨hrb,hm⟩:=sZ hR
  have hmn:=gF hm
  have hrv:=acn k r c w L row (by omega)
  have hcr:=amJ k r c w _ _ _ hrv
  have hpr:=hrv.rd.plain
  have hsr:=cK hrv.rd
  have hRr:=dH (cE (eH k r c w (dM k r w L row))).length (bW (cE (eH k r c w (dM k r w L row))))
  generalize bE (k+r).toNat (lS (dM k r w L row))=RV at *
  generalize dM k r w L row=ps at *
  unfold pW kL nQ at hcr
  have f2:=cA hRr
  have o2:=bP hRr
  have s2:=cK hRr
  generalize bE (cE (eH k r c w ps)).length (bW (cE (eH k r c w ps)))=DV at *
  replace hR:=aB.mk hR
  replace hmn:=aB.mk hmn
  replace hrv:=aB.mk hrv
  replace hRr:=aB.mk hRr
  by_cases hC:gK k r c w ps=0
  ·rw [if_pos hC] at hcr
   rw [if_pos hC,hC]
   simp only [aE] at hcr hrw
   replace hC:=aB.mk hC
   refine bB follows Tryz.func27 (by unfold Tryz.f27;rfl) (by unfold Tryz.f27;simp) aD (by unfold Tryz.f27;simp) (by kernel_rfl) ?_;unfold Tryz.f27
   simp only [↓pre,simprocAttr,aA,sx,tJ,aD,aC,hf,ho,aJ,aK,aF,aG,sr]
   refine aL (hck) (by simp only [aA,aO, *]) ?_;simp only [↓pre,simprocAttr,aA,sx,tJ,aD,aC,hf,ho,aJ,aK,aF,aG,hsr,f2,o2,s2,sr];refine aL (hrw) (by simp only [aA,aO, *]) ?_;simp only [↓pre,simprocAttr,aA,sx,tJ,aD,aC,hf,ho,aJ,aK,aF,aG,hsr,f2,o2,s2,sr];refine aL (hcr) (by simp only [aA,aO, *]) ?_;simp only [↓pre,simprocAttr,aA,sx,tJ,aD,aC,hf,ho,aJ,aK,aF,aG,hsr,f2,o2,s2,sr]
  ·rw [if_neg hC] at hcr
   rw [if_neg hC]
   simp only [aE,aP] at hcr hrw
   refine bB follows Tryz.func27 (by unfold Tryz.f27;rfl) (by unfold Tryz.f27;simp) aD (by unfold Tryz.f27;simp) (by kernel_rfl) ?_;unfold Tryz.f27
   simp only [↓pre,simprocAttr,aA,sx,tJ,aD,aC,hf,ho,aJ,aK,aF,aG,sr]
   refine aL (hck) (by simp only [aA,aO, *]) ?_;simp only [↓pre,simprocAttr,aA,sx,tJ,aD,aC,hf,ho,aJ,aK,aF,aG,hsr,f2,o2,s2,hC,sr];refine aL (hrw) (by simp only [aA,aO, *]) ?_;simp only [↓pre,simprocAttr,aA,sx,tJ,aD,aC,hf,ho,aJ,aK,aF,aG,hsr,f2,o2,s2,hC,sr];refine aL (hcr) (by simp only [aA,aO, *]) ?_;simp only [↓pre,simprocAttr,aA,sx,tJ,aD,aC,hf,ho,aJ,aK,aF,aG,hsr,f2,o2,s2,hC,sr]
 ·simp only [if_neg hR]
  refine bB follows Tryz.func27 (by unfold Tryz.f27;rfl) (by unfold Tryz.f27;simp) aD (by unfold Tryz.f27;simp) (by kernel_rfl) ?_;unfold Tryz.f27
  simp only [↓pre,simprocAttr,aA,sx,tJ,aD,aC,hf,ho,aJ,aK,aF,aG,sr]
  refine aL (hck) (by simp only [aA,aO, *]) ?_;simp only [↓pre,simprocAttr,aA,sx,tJ,aD,aC,hf,ho,aJ,aK,aF,aG,hR,sr]
theorem att {w:Int} {l:List b9} (h:jQ w l=true):∀ x∈l,i9 w x=true:=fun x hx=>List.all_eq_true.1 h x hx
theorem am4 {k r c w : Int} {L : List (List UInt8)} (hk : lI k c ≤ 128) : ∀ (l : List b9) (n : Int), pX k r c w L l n = 0 → (∀ x ∈ nF k r c w L l n, i9 w x = true) ∧ (nF k r c w L l n).length ≤ l.length * 128
 | [], n, _ => ⟨fun x hx => by simp [nF] at hx, by simp [nF]⟩
 | y :: l, n, h => by
   unfold pX at h
   split at h
   · rename_i h1
     obtain ⟨h2, h3⟩ := am4 hk l _ h
     obtain ⟨hn1, hn2⟩ := ael h1
     unfold nF
     refine ⟨fun x hx => ?_, ?_⟩
     · rcases List.mem_append.1 hx with hx | hx
       · unfold rV at h1
         split at h1
         · omega
         · unfold qO at h1
           split at h1
           · omega
           · split at h1
             · rename_i h4
               exact att h4.1 x hx
             · omega
       · exact h2 x hx
     · rw [List.length_append, aek, List.length_cons]
       omega
   · contradiction
theorem xF {k r c w:Int} {L:List (List UInt8)} {row:Int} (h:iM k r c w L row=0):iU k r c w L=0∧eY k r c w L row=0∧gK k r c w (dM k r w L row)=0∧(∀ x∈dS k r c w L row,i9 w x=true)∧(dS k r c w L row).length≤20000∧0≤b6 (cB k r c w L row)∧b6 (cB k r c w L row)≤32768:=by
 unfold iM at h
 split at h
 ·rename_i hR
  split at h
  ·rename_i hC
   have hD:=aen hC
   obtain ⟨hl0,hl1,hdep,hll,hlr⟩:=y8 hD
   obtain ⟨hrb,hm⟩:=sZ hR
   have hw:=gU hm
   have hdb:=wP hw.1 hw.2
   have hlb:=rF hw.1 hw.2
   have hE:iU k r c w L=0:=by
    unfold eY at hR
    split at hR
    ·assumption
    ·assumption
   refine ⟨hE,hR,hC, ?_⟩
   have hPR:(cE (cB k r c w L row)).length≤126:=by unfold dI at hll;unfold cB;omega
   have hre:∀ x∈cE (cB k r c w L row),i9 w x=true:=fun x hx=>by
    have:=hlr x hx
    unfold i9
    exact decide_eq_true this
   unfold dS
   split at h
   ·rename_i hd
    rw [if_pos hd]
    exact ⟨hre,by omega,hl0,hl1⟩
   ·rename_i hd
    rw [if_neg hd]
    obtain ⟨h1,h2⟩:=am4 (by unfold lI;omega) _ _ h
    exact ⟨h1,by omega,hl0,hl1⟩
  ·contradiction
 ·contradiction
def s7 (k r c w:Int) (L:List (List UInt8)) (row off n:Int):Int:=if eY k r c w L row=0 then (if off < 0∨n < 0 then 2 else if mI k c < off∨mI k c - off < n then 3 else iM k r c w L row) else eY k r c w L row
theorem am5 {a b:Int} (ha:0≤a) (hb:1≤b):a≤gD a b*b:=by
 unfold gD
 have h1:=Int.emod_nonneg (a+b - 1) (show b≠0 by omega)
 have h2:=Int.emod_lt_of_pos (a+b - 1) (show 0 < b by omega)
 have h3:=Int.mul_ediv_add_emod (a+b - 1) b
 rw [Int.mul_comm] at h3
 omega
theorem am6 {k r c w:Int} {L:List (List UInt8)} (hk:1≤lI k c):∀ (l:List b9) (n:Int),pX k r c w L l n=0→0≤n→n≤(l.length:Int)*lI k c→((nF k r c w L l n).length:Int)=n
 | [],n,_,h0,hn=>by
  have:n=0:=by simp at hn;omega
  subst this
  rfl
 | y::l,n,h,h0,hn=>by
  unfold pX at h
  split at h
  ·rename_i h1
   obtain ⟨hn1,hn2⟩:=ael h1
   have hm:n - min n (lI k c)≤(l.length:Int)*lI k c:=by
    rw [List.length_cons,Int.natCast_add,Int.add_mul] at hn
    have:(0:Int)≤(l.length:Int)*lI k c:=Int.mul_nonneg (by omega) (by omega)
    omega
   have ih:=am6 hk l _ h (by omega) hm
   unfold nF
   rw [List.length_append,aek,Int.natCast_add,ih]
   omega
  ·contradiction
theorem atu {k r c w:Int} {L:List (List UInt8)} {row:Int} (h:iM k r c w L row=0):oE k r c w (b6 (cB k r c w L row))=0∧((kM k r c w L row).length:Int)=oF k r c w (b6 (cB k r c w L row))∧((dS k r c w L row).length:Int)=oS k r c w (b6 (cB k r c w L row)):=by
 obtain ⟨_,hR,hC,_,_,hl0,hl1⟩:=xF h
 have hD:=aen hC
 change lE k r c w (b6 (cB k r c w L row)) (dK (cB k r c w L row)) (cE (cB k r c w L row))=0 at hD
 obtain ⟨hm,hok⟩:=acg hD
 unfold qN at hok
 simp only [Bool.and_eq_true,decide_eq_true_eq] at hok
 obtain ⟨h1,h2,h3,_⟩:=hok
 have hw:=gU hm
 have hlb:=rF hw.1 hw.2
 have hl:1≤lI k c:=by unfold lI;omega
 have hF0:=acf (n:=b6 (cB k r c w L row)) hm
 refine ⟨h1, ?_⟩
 unfold iM at h
 rw [if_pos hR,if_pos hC] at h
 unfold kM dS
 by_cases hd:dK (cB k r c w L row)=0
 ·rw [if_pos hd,if_pos hd]
  rw [hd] at h2 h3
  rw [if_neg (by decide)] at h3
  exact ⟨by simp;omega,h3⟩
 ·rw [if_neg hd] at h
  rw [if_neg hd,if_neg hd]
  have hd1:dK (cB k r c w L row)=1:=by omega
  rw [hd1,if_pos rfl] at h3
  have hfs:oF k r c w (b6 (cB k r c w L row))≠0:=by omega
  have hs:oS k r c w (b6 (cB k r c w L row))=sI k c (b6 (cB k r c w L row)):=by unfold oS;rw [if_pos h1]
  have hf:oF k r c w (b6 (cB k r c w L row))=gD (sI k c (b6 (cB k r c w L row))) (lI k c):=by
   unfold oF at hfs ⊢
   rw [if_pos h1] at hfs ⊢
   unfold fI at hfs ⊢
   split
   ·rename_i h5
    rw [if_pos h5] at hfs
    exact absurd rfl hfs
   ·rfl
  have hs0:0≤sI k c (b6 (cB k r c w L row)):=by
   unfold sI wI
   exact (aaD hl0 hl1 (by omega) (by omega)).1
  refine ⟨h3,am6 hl _ _ h (by rw [hs];exact hs0) ?_⟩
  rw [h3,hf,hs]
  exact am5 hs0 hl
theorem atv {P:Program} {t:TypeId} {x y:Operand} {a b:List UInt8}:dP P .eql t x y (kG a) (kG b)=some (.val (.bool (decide (a=b)))):=by
 rw [←agM]
 exact afu
theorem acr {P:Program} {t:TypeId} {x y:Operand} {a b:List UInt8}:dP P .neq t x y (kG a) (kG b)=some (.val (.bool (!decide (a=b)))):=by
 rw [←agM]
 exact afv
theorem atw:aY Tryz.prog 24 [] ⟨bC true,[]⟩:=by
 have h1:=am3 0 0 0 0 0 aP [] [] ⟨⟨.inl ⟨rfl,rfl⟩⟩,fun i b h=>by simp at h⟩
 have hE:vC 0 0 0 0 [] 0=2:=by
  have h3:iU 0 0 0 0 []=2:=by
   unfold iU
   rw [if_neg (by decide)]
  have h2:eY 0 0 0 0 [] 0=2:=by
   unfold eY
   rw [h3,if_neg (by decide)]
  unfold vC
  rw [h2,if_neg (by decide)]
 rw [hE,if_neg (by decide)] at h1
 unfold dD aP at h1
 simp only [aE] at h1
 refine bB follows Tryz.func24 (by unfold Tryz.f24;rfl) (by unfold Tryz.f24;simp) aD (by unfold Tryz.f24;simp) (by kernel_rfl) ?_;unfold Tryz.f24
 simp only [↓pre,simprocAttr,aA,sx,akp,aD,aC,sr]
 refine aL (h1) (by rfl) ?_;simp only [↓pre,simprocAttr,aA,sx,akp,aD,aC,sr]
theorem atx (k r c w:Int) (v:AV) (L:List (List UInt8)) (cells:List AV) (hv:fT v L cells):aY Tryz.prog 25 [dD k r c w v] ⟨bC (bL k r c w && decide (400 < (k+r)*w)),[]⟩:=by
 have hp:=hv.rd.plain
 have hf:=cA hv.rd
 have ho:=bP hv.rd
 have h1:=aaB k r c w
 have h2:=fun h=>tP k r c w h
 unfold dD
 cases hm:bL k r c w with
 | false =>
  rw [hm] at h1
  replace h2:=aB.mk h2
  refine bB follows Tryz.func25 (by unfold Tryz.f25;rfl) (by unfold Tryz.f25;simp) aD (by unfold Tryz.f25;simp) (by kernel_rfl) ?_;unfold Tryz.f25
  simp only [↓pre,simprocAttr,aA,sx,abD,aD,aC,hf,ho,sr]
  (refine bM (h1) (by rfl) (by intro k;rfl) ?_);simp only [↓pre,simprocAttr,aA,sx,abD,aD,aC,hf,ho,sr]
 | true =>
  rw [hm] at h1
  have h2:=h2 hm
  have hb:=agO hm
  have wm:IntKind.i64.wrap ((k+r)*w)=(k+r)*w:=dU (by omega) (by omega)
  replace hb:=aB.mk hb
  refine bB follows Tryz.func25 (by unfold Tryz.f25;rfl) (by unfold Tryz.f25;simp) aD (by unfold Tryz.f25;simp) (by kernel_rfl) ?_;unfold Tryz.f25
  simp only [↓pre,simprocAttr,aA,sx,abD,aD,aC,hf,ho,sr]
  (refine bM (h1) (by rfl) (by intro k;rfl) ?_);simp only [↓pre,simprocAttr,aA,sx,abD,aD,aC,hf,ho,wm,sr];(refine bM (h2) (by rfl) (by intro k;rfl) ?_);simp only [↓pre,simprocAttr,aA,sx,abD,aD,aC,hf,ho,wm,sr]
theorem aty (n m:Nat) (f:Nat→UInt8):tab n f++tab m (fun j=>f (n+j))=tab (n+m) f:=by
 refine List.ext_getElem? fun j => ?_
 by_cases h:j < n
 ·rw [List.getElem?_append_left (by rw [pL];exact h),aaR f h,aaR f (by omega)]
 ·rw [List.getElem?_append_right (by rw [pL];omega),pL]
  by_cases h2:j < n+m
  ·rw [aaR _ (by omega),aaR f h2,show n+(j - n)=j by omega]
  ·rw [List.getElem?_eq_none (by rw [pL];omega),List.getElem?_eq_none (by rw [pL];omega)]
section
variable {k r c w:Int} {L:List (List UInt8)} {l:List b9}
theorem atz {fr mi to:Nat} (h1:fr≤mi) (h2:mi≤to):kN k r c w L l fr mi++kN k r c w L l mi to=kN k r c w L l fr to:=by
 unfold kN
 have:=aty (mi - fr) (to - mi) fun j=>acq k r c w L l (fr+j)
 rw [show mi - fr+(to - mi)=to - fr by omega] at this
 rw [←this]
 congr 1
 unfold tab
 refine List.map_congr_left fun j _ => ?_
 rw [←Nat.add_assoc,show fr+(mi - fr)=mi by omega]
theorem acs {fr to:Nat} (h:to≤fr):kN k r c w L l fr to=[]:=by
 unfold kN
 rw [show to - fr=0 by omega]
 simp [tab]
end
def oT (a b:Nat):Nat→Nat
 | 0=>0
 | i+1=>if b.testBit i then oT a b i ^^^ (a <<< i) else oT a b i
def nR (x:Nat):Nat→Nat
 | 0=>x
 | j+1=>nR (if x.testBit (8+j) then x ^^^ (285 <<< j) else x) j
theorem am7:∀ (j x y:Nat),nR (x ^^^ y) j=nR x j ^^^ nR y j
 | 0,x,y=>rfl
 | j+1,x,y=>by
  have e:∀ z:Nat,nR z (j+1)=nR (if z.testBit (8+j) then z ^^^ (285 <<< j) else z) j:=fun z=>rfl
  rw [e,e,e,←am7 j]
  congr 1
  rw [Nat.testBit_xor]
  cases x.testBit (8+j) <;> cases y.testBit (8+j)
  ·rfl
  ·show (x ^^^ y) ^^^ _=x ^^^ (y ^^^ _)
   rw [Nat.xor_assoc]
  ·show (x ^^^ y) ^^^ _=(x ^^^ _) ^^^ y
   rw [Nat.xor_assoc,Nat.xor_assoc,Nat.xor_comm y]
  ·show x ^^^ y=(x ^^^ (285 <<< j)) ^^^ (y ^^^ (285 <<< j))
   rw [Nat.xor_assoc,←Nat.xor_assoc (285 <<< j),Nat.xor_comm (285 <<< j) y,Nat.xor_assoc y,Nat.xor_self,Nat.xor_zero]
def am8:Bool:=(List.range 256).all fun a=>(List.range 8).all fun i=>nR (a <<< i) 7 == gmul a (2 ^ i)
theorem atA:am8=true:=by kernel_rfl
theorem atB {a i:Nat} (ha:a < 256) (hi:i < 8):nR (a <<< i) 7=gmul a (2 ^ i):=by
 have h:=atA
 unfold am8 at h
 rw [List.all_eq_true] at h
 have h2:=h a (List.mem_range.2 ha)
 rw [List.all_eq_true] at h2
 simpa using h2 i (List.mem_range.2 hi)
theorem atC {b i:Nat}:b % 2 ^ (i+1)=if b.testBit i then (b % 2 ^ i) ^^^ 2 ^ i else b % 2 ^ i:=by
 refine Nat.eq_of_testBit_eq fun j => ?_
 cases hb:b.testBit i with
 | true =>
  rw [if_pos rfl,Nat.testBit_xor,Nat.testBit_mod_two_pow,Nat.testBit_mod_two_pow,Nat.testBit_two_pow]
  by_cases h1:j=i
  ·subst h1
   simp [hb]
  ·have h2:¬ i=j:=fun e=>h1 e.symm
   by_cases h3:j < i
   ·simp [h2,h3,show j < i+1 by omega]
   ·simp [h2,h3,show ¬ j < i+1 by omega]
 | false =>
  rw [if_neg (by decide),Nat.testBit_mod_two_pow,Nat.testBit_mod_two_pow]
  by_cases h1:j=i
  ·subst h1
   simp [hb]
  ·by_cases h3:j < i
   ·simp [h3,show j < i+1 by omega]
   ·simp [h3,show ¬ j < i+1 by omega]
theorem am9 {a b:Nat} (ha:a < 256):∀ i,i≤8→nR (oT a b i) 7=gmul a (b % 2 ^ i)
 | 0,_=>by
  show nR 0 7=gmul a (b % 1)
  rw [Nat.mod_one]
  unfold gmul
  rw [ags]
  rfl
 | i+1,h=>by
  have ih:=am9 (b:=b) ha i (by omega)
  rw [atC]
  unfold oT
  split
  ·rw [am7,ih,atB ha (by omega)]
   unfold gmul
   rw [agb]
  ·exact ih
theorem atD {a b:Nat} (ha:a < 256) (hb:b < 256):nR (oT a b 8) 7=gmul a b:=by
 rw [am9 ha 8 (Nat.le_refl _),Nat.mod_eq_of_lt hb]
theorem ana {a b:Nat} (ha:a < 256):∀ i,i≤8→oT a b i < 2 ^ 15
 | 0,_=>by show 0 < _;decide
 | i+1,h=>by
  have ih:=ana (b:=b) ha i (by omega)
  unfold oT
  split
  ·refine Nat.xor_lt_two_pow ih ?_
   rw [Nat.shiftLeft_eq]
   have:2 ^ i≤2 ^ 7:=Nat.pow_le_pow_right (by decide) (by omega)
   calc a*2 ^ i≤a*2 ^ 7:=Nat.mul_le_mul_left _ this
    _ < 2 ^ 15:=by omega
  ·exact ih
section
variable {P:Program} {t:TypeId} {x y:Operand} {k yk:IntKind} {a:Int}
theorem xG {n:Nat}:dP P .shr t x y (.val (.int k a)) (.val (.int yk (n:Nat)))=some (.val (.int k (a / 2 ^ min n k.bits))):=by
 have h1:¬ ((n:Nat):Int) < 0:=by omega
 have h3:a.fdiv (2 ^ min n k.bits)=a / 2 ^ min n k.bits:=Int.fdiv_eq_ediv_of_nonneg _ (Int.le_of_lt (Int.pow_pos (by decide)))
 simp only [dP,qA,eqGuard,binOp,Op.shift,h1,Int.toNat_natCast,cN,Bind.bind,Sem.bind,Pure.pure,if_false,h3]
 simp [cN,Sem.bind]
theorem xH {n:Nat}:dP P .shl t x y (.val (.int k a)) (.val (.int yk (n:Nat)))=some (.val (.int k (k.wrap (a*2 ^ min n k.bits)))):=by
 have h1:¬ ((n:Nat):Int) < 0:=by omega
 simp only [dP,qA,eqGuard,binOp,Op.shift,h1,Int.toNat_natCast,cN,Bind.bind,Sem.bind,Pure.pure,if_false]
 simp [cN,Sem.bind]
end
theorem aeo {n:Nat} (h:n < 4294967296):IntKind.u32.wrap (n:Int)=(n:Int):=by
 simp [IntKind.wrap,IntKind.bits,IntKind.signed]
 omega
theorem anb {a b:Nat} (ha:a < 4294967296) (hb:b < 4294967296):uI .u32 a b=((a ^^^ b:Nat):Int):=by
 have h:a ^^^ b < 4294967296:=Nat.xor_lt_two_pow (n:=32) ha hb
 unfold uI
 rw [tD,tD,BitVec.toNat_xor,BitVec.toNat_ofNat,BitVec.toNat_ofNat]
 simp only [IntKind.bits]
 rw [Nat.mod_eq_of_lt (by omega),Nat.mod_eq_of_lt (by omega)]
 exact aeo h
theorem atE {a:Nat} (ha:a < 4294967296):rA .u32 a 1=((a % 2:Nat):Int):=by
 unfold rA
 rw [show (1:Int)=((1:Nat):Int) from rfl,tD,tD,BitVec.toNat_and,BitVec.toNat_ofNat,BitVec.toNat_ofNat]
 simp only [IntKind.bits]
 rw [Nat.mod_eq_of_lt (by omega),Nat.mod_eq_of_lt (by omega),Nat.and_one_is_mod]
 exact aeo (by omega)
theorem anc (n i b:Nat) (h:i≤b):((n:Nat):Int) / 2 ^ min i b=((n / 2 ^ i:Nat):Int):=by
 rw [Nat.min_eq_left h]
 simp
theorem atF {n i:Nat} (hn:n < 4294967296) (hi:i≤32):rA .u32 (((n:Nat):Int) / 2 ^ min i 32) 1=if n.testBit i then 1 else 0:=by
 rw [anc _ _ _ hi,atE (Nat.lt_of_le_of_lt (Nat.div_le_self _ _) hn),Nat.testBit_eq_decide_div_mod_eq]
 by_cases h:n / 2 ^ i % 2=1
 ·rw [decide_eq_true h,h];rfl
 ·rw [decide_eq_false h,show n / 2 ^ i % 2=0 by omega];rfl
theorem atG {n i:Nat} (hn:n < 256) (hi:i≤8):rA .u8 (((n:Nat):Int) / 2 ^ min i 8) 1=if n.testBit i then 1 else 0:=by
 have h1:n / 2 ^ i < 256:=Nat.lt_of_le_of_lt (Nat.div_le_self _ _) hn
 have h2:=adY (UInt8.ofNat (n / 2 ^ i)) 1
 rw [l8 h1,UInt8.toNat_and,l8 h1,show ((1:UInt8).toNat:Int)=1 from rfl,show (1:UInt8).toNat=1 from rfl,Nat.and_one_is_mod] at h2
 rw [anc _ _ _ hi,h2,Nat.testBit_eq_decide_div_mod_eq]
 by_cases h:n / 2 ^ i % 2=1
 ·rw [decide_eq_true h,h];rfl
 ·rw [decide_eq_false h,show n / 2 ^ i % 2=0 by omega];rfl
theorem ane {n i:Nat} (hn:n < 512) (hi:i≤8):IntKind.u32.wrap (((n:Nat):Int)*2 ^ min i 32)=((n <<< i:Nat):Int):=by
 have h:n*2 ^ i < 4294967296:=by
  have:2 ^ i≤2 ^ 8:=Nat.pow_le_pow_right (by decide) hi
  have:=Nat.mul_le_mul (Nat.le_of_lt hn) this
  omega
 rw [Nat.min_eq_left (by omega),Nat.shiftLeft_eq,show ((n:Nat):Int)*2 ^ i=((n*2 ^ i:Nat):Int) by simp,aeo h]
theorem agS {n:Nat} (h:n < 18446744073709551616):IntKind.u64.wrap (n:Int)=(n:Int):=by
 simp [IntKind.wrap,IntKind.bits,IntKind.signed]
 omega
theorem atH {a b:Nat} (ha:a < 256) (hb:b < 256):nR (oT a b 8) 7=gmul a b:=atD ha hb
theorem aep (a b:UInt8):aY Tryz.prog 351 [aU a,aU b] ⟨aU (aS a b),[]⟩:=by
 have ha:=i7 a
 have hb:=i7 b
 have hwa:IntKind.u32.wrap ((a.toNat:Nat):Int)=(a.toNat:Nat):=aeo (by omega)
 have hrd:=atH ha hb
 have hgl:=adQ ha hb
 have hcl:=fun i h=>ana (b:=b.toNat) ha (i:=i) h
 replace hcl:=aB.mk hcl
 replace hrd:=aB.mk hrd
 refine bB follows Tryz.func351 (by unfold Tryz.f351;rfl) (by unfold Tryz.f351;simp) aD (by unfold Tryz.f351;simp) (by kernel_rfl) ?_;unfold Tryz.f351
 simp only [↓pre,simprocAttr,aA,sx,wO,aD,cV,aM,aU,dC,cS,eq_self,IntKind.bits,xG,xH,hwa]
 rw [b7]
 refine vW (fun e m=>e 5 = .val (.int .u32 ((oT a.toNat b.toNat 8:Nat):Int))) (fun e m e5 => ?_) ?_
 ·have h8:=hcl.out 8 (Nat.le_refl _)
  generalize oT a.toNat b.toNat 8=X at *
  simp only [↓pre,simprocAttr,aA,sx,wO,aD,cV,aM,aU,dC,cS,eq_self,IntKind.bits,xG,xH,hwa,e5]
  rw [b7]
  refine b8 (fun q e m=>∃ x,e 5 = .val (.int .u32 ((x:Nat):Int))∧e 7=aE ((7+q:Nat):Int)∧aB (q≤7)∧aB (x < 2 ^ 15∧nR x q=nR X 7)) 7 ⟨X,e5,rfl,⟨Nat.le_refl _⟩,⟨h8,rfl⟩⟩ ?_
  clear e5
  rintro q e m ⟨x,e5,e7,hq7,hJ⟩
  by_cases h0:q=0
  ·subst h0
   have hlt':¬ (8:Int)≤((7+0:Nat):Int):=by omega
   have hx:x=gmul a.toNat b.toNat:=by rw [←hrd.out,←hJ.out.2];rfl
   subst hx
   have hw:=wX hgl
   rw [show UInt8.ofNat (gmul a.toNat b.toNat)=aS a b from rfl] at hw
   simp only [↓pre,simprocAttr,aA,sx,wO,aD,cV,aM,aU,dC,cS,eq_self,IntKind.bits,xG,xH,hwa,e5,e7,hlt',hw]
  ·obtain ⟨j,rfl⟩:∃ j,q=j+1:=⟨q - 1,by omega⟩
   rw [show 7+(j+1)=8+j by omega] at e7
   obtain ⟨hx,hr⟩:=hJ.out
   have hj:j≤6:=by have:=hq7.out;omega
   have hlt':(8:Int)≤((8+j:Nat):Int):=by omega
   have w1:IntKind.u64.wrap ((8+j:Nat):Int)=((8+j:Nat):Int):=agS (by omega)
   have w2:IntKind.i64.wrap (((8+j:Nat):Int) - 8)=((j:Nat):Int):=by rw [dU (by omega) (by omega)];omega
   have w3:IntKind.u64.wrap ((j:Nat):Int)=((j:Nat):Int):=agS (by omega)
   have w4:IntKind.i64.wrap (((8+j:Nat):Int) - 1)=((7+j:Nat):Int):=by rw [dU (by omega) (by omega)];omega
   have hbt:=atF (n:=x) (i:=8+j) (by omega) (by omega)
   have hsh:IntKind.u32.wrap (285*2 ^ min j 32)=((285 <<< j:Nat):Int):=ane (n:=285) (i:=j) (by omega) (by omega)
   have hal:285 <<< j < 2 ^ 15:=by
    rw [Nat.shiftLeft_eq]
    have:2 ^ j≤2 ^ 6:=Nat.pow_le_pow_right (by decide) hj
    omega
   have hxo:=anb (a:=x) (b:=285 <<< j) (by omega) (by omega)
   have hxl:x ^^^ (285 <<< j) < 2 ^ 15:=Nat.xor_lt_two_pow hx hal
   have hs:nR x (j+1)=nR (if x.testBit (8+j) then x ^^^ (285 <<< j) else x) j:=rfl
   rw [hr] at hs
   cases hbi:x.testBit (8+j) with
   | true =>
    rw [hbi,if_pos rfl] at hbt hs
    replace hs:=aB.mk hs
    replace hr:=aB.mk hr
    replace hx:=aB.mk hx
    replace hxl:=aB.mk hxl
    simp only [↓pre,simprocAttr,aA,sx,wO,aD,cV,aM,aU,dC,cS,eq_self,IntKind.bits,xG,xH,hwa,e5,e7,hlt',hbt,hsh,hxo,w1,w2,w3,w4]
    exact ⟨j,by omega,_,rfl,rfl,⟨by have:=hq7.out;omega⟩,⟨hxl.out,hs.out.symm⟩⟩
   | false =>
    rw [hbi,if_neg (by decide)] at hbt hs
    have h01:¬ (0:Int)=1:=by decide
    replace hs:=aB.mk hs
    replace hr:=aB.mk hr
    replace hx:=aB.mk hx
    replace hxl:=aB.mk hxl
    simp only [↓pre,simprocAttr,aA,sx,wO,aD,cV,aM,aU,dC,cS,eq_self,IntKind.bits,xG,xH,hwa,e5,e7,hlt',hbt,h01,w1,w2,w3,w4]
    exact ⟨j,by omega,_,rfl,rfl,⟨by have:=hq7.out;omega⟩,⟨hx.out,hs.out.symm⟩⟩
 ·refine b8 (fun q e m=>∃ i,q+i=8∧e 0=aU a∧e 1=aU b∧e 5 = .val (.int .u32 ((oT a.toNat b.toNat i:Nat):Int))∧e 6 = .val (.int .u64 (i:Nat))) 8 ⟨0,by omega,rfl,rfl,rfl,rfl⟩ ?_
  rintro q e m ⟨i,hq,e0,e1,e5,e6⟩
  by_cases hlt:i < 8
  ·have hlt':((i:Nat):Int) < 8:=by omega
   have hbt:=atG hb (Nat.le_of_lt hlt)
   have hsh:=ane (n:=a.toNat) (i:=i) (by omega) (by omega)
   have hX:=hcl.out i (by omega)
   have hs:oT a.toNat b.toNat (i+1)=if b.toNat.testBit i then oT a.toNat b.toNat i ^^^ (a.toNat <<< i) else oT a.toNat b.toNat i:=rfl
   have hal:a.toNat <<< i < 4294967296:=by
    rw [Nat.shiftLeft_eq]
    have:2 ^ i≤2 ^ 8:=Nat.pow_le_pow_right (by decide) (by omega)
    have:=Nat.mul_le_mul (Nat.le_of_lt ha) this
    omega
   have hxo:=anb (a:=oT a.toNat b.toNat i) (b:=a.toNat <<< i) (by omega) hal
   have w6:IntKind.u64.wrap (((i:Nat):Int)+1)=((i+1:Nat):Int):=agS (n:=i+1) (by omega)
   cases hbi:b.toNat.testBit i with
   | true =>
    rw [hbi,if_pos rfl] at hbt hs
    rw [←hs] at hxo
    replace hs:=aB.mk hs
    replace hbi:=aB.mk hbi
    simp only [↓pre,simprocAttr,aA,sx,wO,aD,cV,aM,aU,dC,cS,eq_self,IntKind.bits,xG,xH,hwa,e0,e1,e5,e6,hlt',hbt,hsh,hxo,w6]
    exact ⟨q - 1,by omega,i+1,by omega,rfl,rfl⟩
   | false =>
    rw [hbi,if_neg (by decide)] at hbt hs
    rw [←hs] at e5
    replace hs:=aB.mk hs
    replace hbi:=aB.mk hbi
    have h01:¬ (0:Int)=1:=by decide
    simp only [↓pre,simprocAttr,aA,sx,wO,aD,cV,aM,aU,dC,cS,eq_self,IntKind.bits,xG,xH,hwa,e0,e1,e5,e6,hlt',hbt,h01,w6]
    exact ⟨q - 1,by omega,i+1,by omega,rfl,rfl⟩
  ·have hlt':¬ ((i:Nat):Int) < 8:=by omega
   have hi:i=8:=by omega
   subst hi
   simp only [↓pre,simprocAttr,aA,sx,wO,aD,cV,aM,aU,dC,cS,eq_self,IntKind.bits,xG,xH,hwa,e0,e1,e5,e6,hlt']
theorem atJ {a b:UInt8} (h:aS a b=1):a≠0∧b=cL a:=by
 have ha:a≠0:=fun e=>by rw [e,sS] at h;exact absurd h (by decide)
 exact ⟨ha,ab9 ha (h.trans (pK ha).symm)⟩
theorem anf (a:UInt8):aY Tryz.prog 349 [aU a] ⟨.tup [aU (if a=0 then 0 else cL a),aE (if a=0 then 10 else 0)],[]⟩:=by
 have hm:=aep a
 refine bB follows Tryz.func349 (by unfold Tryz.f349;rfl) (by unfold Tryz.f349;simp) aD (by unfold Tryz.f349;simp) (by kernel_rfl) ?_;unfold Tryz.f349
 simp only [↓pre,simprocAttr,aA,sx,aaz,aD,cV,aM,aU,dC,cS,eq_self]
 rw [b7]
 refine b8 (fun q e m=>∃ b,q+b=256∧1≤b∧e 0=aU a∧e 4=aE (b:Nat)∧aB (∀ j,1≤j→j < b→aS a (UInt8.ofNat j)≠1)) 255 ⟨1,by omega,by omega,rfl,rfl,⟨fun j h1 h2=>by omega⟩⟩ ?_
 rintro q e m ⟨b,hq,hb1,e0,e4,hJ⟩
 by_cases hlt:b < 256
 ·have hlt':((b:Nat):Int) < 256:=by omega
  have hw:=wX hlt
  have wi:=cF (n:=b) (by omega)
  have hmb:=hm (UInt8.ofNat b)
  by_cases h1:aS a (UInt8.ofNat b)=1
  ·obtain ⟨ha,hi⟩:=atJ h1
   have h1':((aS a (UInt8.ofNat b)).toNat:Int)=1:=by rw [h1];rfl
   rw [hi] at hw hmb h1'
   simp only [↓pre,simprocAttr,aA,sx,aaz,aD,cV,aM,aU,dC,cS,eq_self,e0,e4,hlt',hw]
   refine aL (hmb) (by rfl) ?_;simp only [↓pre,simprocAttr,aA,sx,aaz,aD,cV,aM,aU,dC,cS,eq_self,e0,e4,hw,h1']
   simp [ha]
  ·have h1':¬ ((aS a (UInt8.ofNat b)).toNat:Int)=1:=fun h=>h1 (UInt8.toNat_inj.1 (by show _=1;omega))
   simp only [↓pre,simprocAttr,aA,sx,aaz,aD,cV,aM,aU,dC,cS,eq_self,e0,e4,hlt',hw]
   refine aL (hmb) (by rfl) ?_;simp only [↓pre,simprocAttr,aA,sx,aaz,aD,cV,aM,aU,dC,cS,eq_self,e0,e4,h1',wi]
   refine ⟨q - 1,by omega,b+1,by omega,by omega,rfl,⟨fun j h2 h3 => ?_⟩⟩
   by_cases e:j=b
   ·subst e;exact h1
   ·exact hJ.out j h2 (by omega)
 ·have hlt':¬ ((b:Nat):Int) < 256:=by omega
  have ha:a=0:=Decidable.byContradiction fun ha=>by
   refine hJ.out (cL a).toNat ?_ (by have:=i7 (cL a);omega) ?_
   ·have:(cL a).toNat≠0:=fun h=>adS ha (UInt8.toNat_inj.1 h)
    omega
   ·rw [UInt8.ofNat_toNat,pK ha]
  subst ha
  simp only [↓pre,simprocAttr,aA,sx,aaz,aD,cV,aM,aU,dC,cS,eq_self,e0,e4,hlt']
  all_goals rfl
theorem ang (a b:UInt8):aY Tryz.prog 337 [aU a,aU b] ⟨.tup [aU (if b=0 then 0 else aS a (cL b)),aE (if b=0 then 10 else 0)],[]⟩:=by
 have hi:=anf b
 have hm:=aep a (cL b)
 refine bB follows Tryz.func337 (by unfold Tryz.f337;rfl) (by unfold Tryz.f337;simp) aD (by unfold Tryz.f337;simp) (by kernel_rfl) ?_;unfold Tryz.f337
 simp only [↓pre,simprocAttr,aA,sx,adC,aD,cV,aM,aU,dC,cS,eq_self]
 by_cases hb:b=0
 ·simp only [if_pos hb] at hi ⊢
  refine aL (hi) (by rfl) ?_;simp only [↓pre,simprocAttr,aA,sx,adC,aD,cV,aM,aU,dC,cS,eq_self]
  all_goals rfl
 ·simp only [if_neg hb] at hi ⊢
  replace hb:=aB.mk hb
  refine aL (hi) (by rfl) ?_;simp only [↓pre,simprocAttr,aA,sx,adC,aD,cV,aM,aU,dC,cS,eq_self];refine aL (hm) (by rfl) ?_;simp only [↓pre,simprocAttr,aA,sx,adC,aD,cV,aM,aU,dC,cS,eq_self]
theorem act {w i:Nat} (F G:Nat→UInt8) (hi:i < w):List.take i (aZ w fun j=>if j < i then F j else G j)++[AV.val (.int .u8 ((F i).toNat:Int))]++List.drop (i+1) (aZ w fun j=>if j < i then F j else G j)=aZ w fun j=>if j < i+1 then F j else G j:=by
 have h:=wW (w:=w) (f:=fun j=>if j < i then F j else G j) (g:=fun j=>if j < i+1 then F j else G j) hi fun j hj=>by
  by_cases e:j=i
  ·subst e;rw [if_pos rfl]
  ·rw [if_neg e]
   by_cases e2:j < i
   ·rw [if_pos e2,if_pos (by omega)]
   ·rw [if_neg e2,if_neg (by omega)]
 simp only [show i < i+1 by omega,if_true] at h
 exact h
theorem agT {w:Nat} (F G:Nat→UInt8):(aZ w fun j=>if j < w then F j else G j)=aZ w F:=pM fun x hx=>by rw [if_pos hx]
def vD:Nat→Bool:=fun d=>d != 44
theorem atK (va vb:AV) (n:Nat) (A B:Nat→UInt8) (c:UInt8) (xa xb:List AV) (hA:bD va n (aZ n A++xa)) (hB:bD vb n (aZ n B++xb)) (hn:n≤65536):aY Tryz.prog 338 [va,aU c,vb] ⟨.tree n n (aZ n (fun j=>A j ^^^ aS c (B j))) true,[]⟩:=by
 refine dY ?_
 have hm:=aep c
 have hp:=hA.plain
 have hq:=hB.plain
 have hmk:=fun m n h=>qK m (n:=n) h
 simp only [aU] at hm
 have mk1:=fun m=>qK m (n:=256) (by omega)
 have mk2:=fun m=>qK m (n:=n) hn
 refine bJ follows Tryz.func338 (by unfold Tryz.f338;rfl) (by unfold Tryz.f338;simp) vD (by unfold Tryz.f338;simp) (by kernel_rfl) ?_;unfold Tryz.f338
 simp only [↓pre,simprocAttr,aA,sx,wM,vD,bne,aC,aI,aM,cV,aJ,aK,aF,aG,bY,aU,mk1,mk2,sr]
 rw [b7]
 refine vW (fun e m=>e 0=va∧e 2=vb∧e 7 = .sl 0 0 256 256 true∧m.at_ 0=some ⟨aZ 256 (fun i=>aS c (UInt8.ofNat i)),5,.flat,true⟩∧0 < m.next) (fun e m hR => ?_) ?_
 ·obtain ⟨e0,e2,e7,hT,hnx⟩:=hR
  generalize hTT:(aZ 256 fun i=>aS c (UInt8.ofNat i))=T at *
  have hTat:∀ z:UInt8,T[z.toNat]? = some (.val (.int .u8 (aS c z).toNat)):=fun z=>by
   rw [←hTT,iD (w:=256) (fun i=>aS c (UInt8.ofNat i)) z.toNat_lt,UInt8.ofNat_toNat]
   rfl
  have hTl:∀ z:UInt8,z.toNat < 256:=fun z=>z.toNat_lt
  have hbx:=fun a b:UInt8=>aaO a b
  simp only [↓pre,simprocAttr,aA,sx,wM,vD,bne,aC,aI,aM,cV,aJ,aK,aF,aG,bY,aU,mk1,mk2,e0,e2,e7,hA.len',sr]
  rw [b7]
  refine b8 (fun q e m'=>∃ j,q+j=n∧e 0=va∧e 2=vb∧e 7 = .sl 0 0 256 256 true∧e 9 = .sl m.next 0 n n true∧e 10=aE (j:Nat)∧aB (m'.at_ 0=some ⟨T,5,.flat,true⟩∧m'.at_ m.next=some ⟨aZ n (fun j'=>if j' < j then A j' ^^^ aS c (B j') else 0),5,.flat,true⟩)) n ⟨0,by omega,e0,e2,e7,rfl,rfl,⟨by rw [aG,if_neg (by omega)];exact hT,by rw [aG,if_pos rfl];rfl⟩⟩ ?_
  clear e0 e2 e7
  rintro q e m' ⟨j,hq,e0,e2,e7,e9,e10,hJ⟩
  replace hq:=aB.mk hq
  by_cases hlt:j < n
  ·have hlt':((j:Nat):Int) < ((n:Nat):Int):=by omega
   have w1:=cF (n:=j) (by omega)
   obtain ⟨h1,h2⟩:=hJ.out
   have hcA:(aZ n A++xa)[j]? = some (aU (A j)):=by rw [List.getElem?_append_left (by rw [eE];omega)];exact iD A hlt
   have hcB:(aZ n B++xb)[j]? = some (aU (B j)):=by rw [List.getElem?_append_left (by rw [eE];omega)];exact iD B hlt
   have hput:=act (fun j'=>A j' ^^^ aS c (B j')) (fun _=>0) hlt
   have hTj:=hTat (B j)
   have hTl':=hTl (B j)
   have hxj:=hbx (A j) (aS c (B j))
   have hl1:j+1≤(aZ n fun j'=>if j' < j then A j' ^^^ aS c (B j') else 0).length:=by rw [eE];omega
   simp only [aU] at hcA hcB
   simp only [↓pre,simprocAttr,aA,sx,wM,vD,bne,aC,aI,aM,cV,aJ,aK,aF,aG,bY,aU,mk1,mk2,e0,e2,e7,e9,e10,hlt',hlt,hA.len',hA.addr',hB.addr',hcA,hcB,h1,h2,hTj,hTl',hxj,hl1,hput,sr]
   refine cU (by kernel_rfl) ?_
   simp only [↓pre,simprocAttr,aA,sx,wM,vD,bne,aC,aI,aM,cV,aJ,aK,aF,aG,bY,aU,mk1,mk2,e0,e2,e7,e9,e10,w1,sr]
   exact ⟨q - 1,by have:=hq.out;omega,j+1,by have:=hq.out;omega,rfl,⟨by rw [if_neg (by omega)];exact h1,rfl⟩⟩
  ·have hlt':¬ ((j:Nat):Int) < ((n:Nat):Int):=by omega
   have hj:j=n:=by have:=hq.out;omega
   subst hj
   obtain ⟨h1,h2⟩:=hJ.out
   rw [agT] at h2
   simp only [↓pre,simprocAttr,aA,sx,wM,vD,bne,aC,aI,aM,cV,aJ,aK,aF,aG,bY,aU,mk1,mk2,e0,e2,e7,e9,e10,hlt',hA.len',sr]
   exact ⟨0,sJ h2⟩
 ·refine b8 (fun q e m=>∃ i,q+i=256∧e 0=va∧e 1=aU c∧e 2=vb∧e 7 = .sl 0 0 256 256 true∧e 8=aE (i:Nat)∧aB (m.at_ 0=some ⟨aZ 256 (fun j=>if j < i then aS c (UInt8.ofNat j) else 0),5,.flat,true⟩∧0 < m.next)) 256 ⟨0,by omega,rfl,rfl,rfl,rfl,rfl,⟨rfl,Nat.succ_pos _⟩⟩ ?_
  rintro q e m ⟨i,hq,e0,e1,e2,e7,e8,hJ⟩
  replace hq:=aB.mk hq
  by_cases hlt:i < 256
  ·have hlt':((i:Nat):Int) < 256:=by omega
   have w1:=cF (n:=i) (by omega)
   have w2:=wX hlt
   have hmi:=hm (UInt8.ofNat i)
   obtain ⟨h1,h2⟩:=hJ.out
   have hput:=act (fun j=>aS c (UInt8.ofNat j)) (fun _=>0) hlt
   have hl1:i+1≤(aZ 256 fun j=>if j < i then aS c (UInt8.ofNat j) else 0).length:=by rw [eE];omega
   simp only [↓pre,simprocAttr,aA,sx,wM,vD,bne,aC,aI,aM,cV,aJ,aK,aF,aG,bY,aU,mk1,mk2,e0,e1,e2,e7,e8,hlt',w2,sr]
   refine aL (hmi) (by rfl) ?_;simp only [↓pre,simprocAttr,aA,sx,wM,vD,bne,aC,aI,aM,cV,aJ,aK,aF,aG,bY,aU,mk1,mk2,e0,e1,e2,e7,e8,hlt,h1,hl1,hput,w1,sr]
   exact ⟨q - 1,by have:=hq.out;omega,i+1,by have:=hq.out;omega,rfl,⟨rfl,h2⟩⟩
  ·have hlt':¬ ((i:Nat):Int) < 256:=by omega
   have hi:i=256:=by have:=hq.out;omega
   subst hi
   obtain ⟨h1,h2⟩:=hJ.out
   rw [agT] at h1
   simp only [↓pre,simprocAttr,aA,sx,wM,vD,bne,aC,aI,aM,cV,aJ,aK,aF,aG,bY,aU,mk1,mk2,e0,e1,e2,e7,e8,hlt',sr]
   exact ⟨h1,h2⟩
theorem lF (n:Nat) (cs:List AV) (f:Bool):bD (.tree n n cs f) n cs:=⟨.inr (.inr ⟨_,_,rfl,Nat.le_refl _⟩)⟩
def xI:Nat→Bool:=fun d=>d != 66
theorem anh (vc vl:AV) (N n:Nat) (c:Nat→UInt8) (M:Mx) (x:List AV) (cells:List AV) (hc:bD vc N (aZ N c++x)) (hv:rN vl N n M cells) (hN:1≤N) (hN2:N≤16) (hn:n≤65536):aY Tryz.prog 311 [vc,vl] ⟨.tup [.tree n n (aZ n (oK N c M)) true,aE 0],[]⟩:=by
 refine dY ?_
 have hp:=hv.rd.plain
 have hpc:=hc.plain
 have k1:¬ (16:Int) < ((N:Nat):Int):=by omega
 have k2:¬ ((N:Nat):Int)=0:=by omega
 have k3:¬ (65536:Int) < ((n:Nat):Int):=by omega
 have hN0:0 < N:=by omega
 obtain ⟨a0,x0,hc0,hr0⟩:=hv.at_ 0 hN0
 have hmk:=fun m=>qK m (n:=n) hn
 have hadd:=fun va vb A B c xa xb hA hB=>atK va vb n A B c xa xb hA hB hn
 replace hadd:=aB.mk hadd
 refine bJ follows Tryz.func311 (by unfold Tryz.f311;rfl) (by unfold Tryz.f311;simp) xI (by unfold Tryz.f311;simp) (by kernel_rfl) ?_;unfold Tryz.f311
 simp only [↓pre,simprocAttr,aA,sx,yH,xI,bne,aC,aI,aU,hv.rd.len',hc.len',k1,sr]
 rw [b7]
 refine vW (fun e m=>e 0=vc∧e 1=vl) (fun e m hR => ?_) ?_
 ·obtain ⟨e0,e1⟩:=hR
  simp only [↓pre,simprocAttr,aA,sx,yH,xI,bne,aC,aI,aU,e0,e1,hv.rd.len',hv.rd.addr',hN0,hc0,hr0.len',k2,hmk,sr]
  rw [b7]
  refine b8 (fun q e m=>∃ i ov,q+i=N∧e 0=vc∧e 1=vl∧e 7=ov∧e 8=aE (i:Nat)∧aB (0 < i→ov = .tree n n (aZ n (oK i c M)) true)∧aB (mJ m ov n (aZ n (oK i c M)))) N ⟨0,_,by omega,e0,e1,rfl,rfl,⟨fun h=>absurd h (by omega)⟩,⟨⟨.inr ⟨_,0,n,true,_,rfl,by rw [aG,if_pos rfl],.inl rfl,rfl,Nat.le_refl _⟩⟩⟩⟩ ?_
  clear e0 e1
  rintro q e m ⟨i,ov,hq,e0,e1,e7,e8,hov,hJ⟩
  replace hq:=aB.mk hq
  by_cases hlt:i < N
  ·have hlt':((i:Nat):Int) < ((N:Nat):Int):=by omega
   have w1:=cF (n:=i) (by omega)
   obtain ⟨a,y,hca,hra⟩:=hv.at_ i hlt
   have hcc:(aZ N c++x)[i]? = some (aU (c i)):=by rw [List.getElem?_append_left (by rw [eE];omega)];exact iD c hlt
   obtain ⟨av,m1,hfz,hrd,_⟩:=hJ.out.fz
   have hfs:fzs m [ov,.val (.int .u8 ((c i).toNat:Int)),a]=some ([av,.val (.int .u8 ((c i).toNat:Int)),a],m1):=by
    simp [fzs,hfz,fz,cA hra]
   have ha:=hadd.out av a (oK i c M) (M i) (c i) [] y (by rw [List.append_nil];exact hrd) hra
   have e:(fun j=>oK i c M j ^^^ aS (c i) (M i j))=oK (i+1) c M:=rfl
   rw [e] at ha
   have htr:=lF n (aZ n (oK (i+1) c M)) true
   have s2:=cK htr
   simp only [aU] at hcc ha
   replace e:=aB.mk e
   replace hrd:=aB.mk hrd
   simp only [↓pre,simprocAttr,aA,sx,yH,xI,bne,aC,aI,aU,e0,e1,e7,e8,hlt',hc.addr',hv.rd.len',hv.rd.addr',hlt,hca,hcc,sr]
   refine xY ha hfs ?_
   refine cU (by kernel_rfl) ?_
   simp only [↓pre,simprocAttr,aA,sx,yH,xI,bne,aC,aI,aU,e0,e1,e7,e8,w1,s2,sr]
   exact ⟨q - 1,by have:=hq.out;omega,i+1,_,by have:=hq.out;omega,rfl,rfl,⟨fun _=>rfl⟩,⟨apM htr⟩⟩
  ·have hlt':¬ ((i:Nat):Int) < ((N:Nat):Int):=by omega
   have hi:i=N:=by have:=hq.out;omega
   subst hi
   have hov':=hov.out hN0
   subst hov'
   simp only [↓pre,simprocAttr,aA,sx,yH,xI,bne,aC,aI,aU,e0,e1,e7,e8,hlt',hv.rd.len',sr]
   exact ⟨0,by rw [kC,dT,x4,Option.bind_some,dT,fP,jC];rfl⟩
 ·refine b8 (fun q e m=>∃ i,q+i=N∧e 0=vc∧e 1=vl∧e 6=aE (i:Nat)) N ⟨0,by omega,rfl,rfl,rfl⟩ ?_
  rintro q e m ⟨i,hq,e0,e1,e6⟩
  replace hq:=aB.mk hq
  by_cases hlt:i < N
  ·have hlt':((i:Nat):Int) < ((N:Nat):Int):=by omega
   have w1:=cF (n:=i) (by omega)
   obtain ⟨a,y,hca,hra⟩:=hv.at_ i hlt
   simp only [↓pre,simprocAttr,aA,sx,yH,xI,bne,aC,aI,aU,e0,e1,e6,hlt',hv.rd.len',hv.rd.addr',hlt,hN0,hc0,hr0.len',hca,hra.len',k3,w1,sr]
   exact ⟨q - 1,by have:=hq.out;omega,i+1,by have:=hq.out;omega,rfl⟩
  ·have hlt':¬ ((i:Nat):Int) < ((N:Nat):Int):=by omega
   simp only [↓pre,simprocAttr,aA,sx,yH,xI,bne,aC,aI,aU,e0,e1,e6,hlt',hv.rd.len',sr]
theorem atL (v:AV) (n w:Nat) (M:Mx) (cells:List AV) (hv:rN v n w M cells) (hn:1≤n) (hn2:n≤32) (hw:1≤w) (hw2:w≤32):aY Tryz.prog 334 [v] ⟨aE 0,[]⟩:=by
 have k1:¬ ((n:Nat):Int) < 1:=by omega
 have k2:¬ (32:Int) < ((n:Nat):Int):=by omega
 have k3:¬ ((w:Nat):Int) < 1:=by omega
 have k4:¬ (32:Int) < ((w:Nat):Int):=by omega
 have hn0:0 < n:=by omega
 obtain ⟨a0,x0,hc0,hr0⟩:=hv.at_ 0 hn0
 refine bB follows Tryz.func334 (by unfold Tryz.f334;rfl) (by unfold Tryz.f334;simp) aD (by unfold Tryz.f334;simp) (by kernel_rfl) ?_;unfold Tryz.f334
 simp only [↓pre,simprocAttr,aA,sx,afR,aD,aC,hv.rd.len',hv.rd.addr',hn0,hc0,hr0.len',k1,k2,k3,k4,sr]
 rw [b7]
 refine b8 (fun q e m=>∃ i,q+i=n∧e 0=v∧e 3=aE (i:Nat)) n ⟨0,by omega,rfl,rfl⟩ ?_
 rintro q e m ⟨i,hq,e0,e3⟩
 replace hq:=aB.mk hq
 by_cases hlt:i < n
 ·have hlt':((i:Nat):Int) < ((n:Nat):Int):=by omega
  have w1:=cF (n:=i) (by omega)
  obtain ⟨a,x,hc,hr⟩:=hv.at_ i hlt
  simp only [↓pre,simprocAttr,aA,sx,afR,aD,aC,hv.rd.len',hv.rd.addr',hn0,hc0,hr0.len',k1,k2,k3,k4,e0,e3,hlt',hlt,hc,hr.len',w1,sr]
  exact ⟨q - 1,by have:=hq.out;omega,i+1,by have:=hq.out;omega,rfl⟩
 ·have hlt':¬ ((i:Nat):Int) < ((n:Nat):Int):=by omega
  simp only [↓pre,simprocAttr,aA,sx,afR,aD,aC,hv.rd.len',hv.rd.addr',hn0,hc0,hr0.len',k1,k2,k3,k4,e0,e3,hlt',sr]
def zA:Nat→Bool:=fun d=>d != 13 && d != 17 && d != 32 && d != 37
theorem atM (m0:aH) (b b' w col:Nat) (f f':Bool) (M M':Nat→UInt8) (hw:w≤64) (hcol:col < w) (hne:b≠b') (h0:M' col≠0) (hb:m0.at_ b=some ⟨aZ w M,5,.flat,true⟩) (hb':m0.at_ b'=some ⟨aZ w M',5,.flat,true⟩):gO Tryz.prog 350 [.sl b 0 w w f,.sl b' 0 w w f',aE (col:Nat)] m0 fun r m'=>r = .tup []∧m'=m0.put b (some ⟨aZ w (fun j=>M j ^^^ aS (aS (M col) (cL (M' col))) (M' j)),5,.flat,true⟩):=by
 have hd:=ang (M col) (M' col)
 rw [if_neg h0,if_neg h0] at hd
 generalize aS (M col) (cL (M' col))=c at *
 have hm:=aep c
 have hx:=aaO
 have hcA:=iD (w:=w) M hcol
 have hcB:=iD (w:=w) M' hcol
 replace h0:=aB.mk h0
 simp only [aU] at hm hd hcA hcB
 refine bJ follows Tryz.func350 (by unfold Tryz.f350;rfl) (by unfold Tryz.f350;simp) zA (by unfold Tryz.f350;simp) (by kernel_rfl) ?_;unfold Tryz.f350
 simp only [↓pre,simprocAttr,aA,sx,aaA,zA,bne,aC,aI,cV,aJ,aF,aG,bY,aU,hcol,hb,hb',hcA,hcB,sr]
 (refine bM (hd) (by rfl) (by intro k;rfl) ?_);simp only [↓pre,simprocAttr,aA,sx,aaA,zA,bne,aC,aI,cV,aJ,aF,aG,bY,aU,sr]
 rw [b7]
 refine b8 (fun q e m=>∃ j,q+j=w∧e 0 = .sl b 0 w w f∧e 1 = .sl b' 0 w w f'∧e 6=aU c∧e 8=aE (j:Nat)∧aB (m=m0.put b (some ⟨aZ w (fun j'=>if j' < j then M j' ^^^ aS c (M' j') else M j'),5,.flat,true⟩))) w ⟨0,by omega,rfl,rfl,rfl,rfl,⟨?_⟩⟩ ?_
 ·have:aZ w (fun j'=>if j' < 0 then M j' ^^^ aS c (M' j') else M j')=aZ w M:=pM fun j _=>by rw [if_neg (by omega)]
  rw [this,aaQ hb]
 rintro q e m ⟨j,hq,e0,e1,e6,e8,hJ⟩
 replace hq:=aB.mk hq
 by_cases hlt:j < w
 ·have hlt':((j:Nat):Int) < ((w:Nat):Int):=by omega
  have w1:=cF (n:=j) (by omega)
  have hat:m.at_ b=some ⟨aZ w (fun j'=>if j' < j then M j' ^^^ aS c (M' j') else M j'),5,.flat,true⟩:=by rw [hJ.out,aF,if_pos rfl]
  have hat':m.at_ b'=some ⟨aZ w M',5,.flat,true⟩:=by rw [hJ.out,aF,if_neg (fun e=>hne e.symm)];exact hb'
  have hcell:=iD (w:=w) (fun j'=>if j' < j then M j' ^^^ aS c (M' j') else M j') hlt
  have hcell':=iD (w:=w) M' hlt
  simp only [Nat.lt_irrefl,if_false,aU] at hcell hcell'
  have hput:=act (fun j'=>M j' ^^^ aS c (M' j')) M hlt
  have hl1:j+1≤(aZ w fun j'=>if j' < j then M j' ^^^ aS c (M' j') else M j').length:=by rw [eE];omega
  have hmj:=hm (M' j)
  have hxj:=hx (M j) (aS c (M' j))
  simp only [↓pre,simprocAttr,aA,sx,aaA,zA,bne,aC,aI,cV,aJ,aF,aG,bY,aU,e0,e1,e6,e8,hlt',hlt,hat,hat',hcell,hcell',sr]
  (refine bM (hmj) (by rfl) (by intro k;rfl) ?_);simp only [↓pre,simprocAttr,aA,sx,aaA,zA,bne,aC,aI,cV,aJ,aF,aG,bY,aU,e0,e1,e6,e8,hlt,hat,hat',hcell,hcell',hxj,hl1,hput,sr]
  refine cU (by kernel_rfl) ?_
  simp only [↓pre,simprocAttr,aA,sx,aaA,zA,bne,aC,aI,cV,aJ,aF,aG,bY,aU,e0,e1,e6,e8,w1,sr]
  refine ⟨q - 1,by have:=hq.out;omega,j+1,by have:=hq.out;omega,rfl,⟨?_⟩⟩
  rw [hJ.out,w9]
 ·have hlt':¬ ((j:Nat):Int) < ((w:Nat):Int):=by omega
  have hj:j=w:=by have:=hq.out;omega
  subst hj
  have hfin:=hJ.out
  rw [agT] at hfin
  subst hfin
  simp only [↓pre,simprocAttr,aA,sx,aaA,zA,bne,aC,aI,cV,aJ,aF,aG,bY,aU,e0,e1,e6,e8,hlt',sr]
def pZ (w:Nat) (β:Nat→Nat) (i:Nat):List AV:=(List.range i).map fun j => .sl (β j) 0 w w true
theorem atN (w:Nat) (β:Nat→Nat) (i:Nat):pZ w β (i+1)=pZ w β i++[.sl (β i) 0 w w true]:=by simp [pZ,List.range_succ]
theorem atO (w:Nat) (β:Nat→Nat) (i:Nat):(pZ w β i).length=i:=by simp [pZ]
theorem atP {w i n:Nat} (β:Nat→Nat) (h:i < n):(pZ w β n)[i]? = some (.sl (β i) 0 w w true):=by
 unfold pZ
 rw [List.getElem?_map,List.getElem?_range h]
 rfl
theorem atQ {w n:Nat} {β γ:Nat→Nat} (h:∀ i,i < n→β i=γ i):pZ w β n=pZ w γ n:=by
 unfold pZ
 refine List.map_congr_left fun i hi => ?_
 rw [h i (List.mem_range.1 hi)]
structure zB (m0 m:aH) (lv:AV) (w i:Nat) (β:Nat→Nat):Prop where
 own:cH .var m 52 1 lv i (pZ w β i)
 row:∀ j,j < i→m0.next≤β j∧β j < m.next∧m.at_ (β j)=some ⟨aZ w (fun _=>0),5,.flat,true⟩∧cP lv≠some (β j)
 inj:∀ j k,j < i→k < i→β j=β k→j=k
 kept:kT m0 m
 new:lY m0 lv
theorem atR (m:aH) (b n:Nat) (f:Bool):oW Tryz.prog m 45 1 [(0,.sl b 0 n n f)]=some ⟨.sl m.next 0 1 1 true,m.push ⟨[.sl b 0 n n f],52,.var,true⟩,none⟩:=by
 have h1:bZ Tryz.prog 45=some 52:=by kernel_rfl
 have h2:cG Tryz.prog 52=some 1:=by kernel_rfl
 have h3:iW Tryz.prog 52 1=some [.val (.slice none 0 0)]:=by kernel_rfl
 have h4:bR Tryz.prog 52 = .var:=by kernel_rfl
 simp [oW,h1,h2,h3,h4,fU,cI,AV.cells,fC,dB,bK]
theorem atS {m:aH} {b:Nat} {x:AV} {f:Bool} (h:m.at_ b=some ⟨[x],52,.var,true⟩):fW Tryz.prog 52 1 m (.sl b 0 1 1 f)=some ([x],1):=by
 have h4:bR Tryz.prog 52 = .var:=by kernel_rfl
 simp [fW,d6,h,h4]
theorem zB.grow {m0 m m3 : aH} {lv lv' : AV} {w i : Nat} {β : Nat → Nat} {sv : eQ} (h : zB m0 m lv w i β)
   (a1 : cH .var m3 52 1 lv' (i + 1) (pZ w β i ++ [.sl m.next 0 w w true])) (b1 : ((m.push ⟨aZ w (fun _ => 0), 5, .flat, true⟩).push sv).next ≤ m3.next)
   (c1 : ∀ j k, ((m.push ⟨aZ w (fun _ => 0), 5, .flat, true⟩).push sv).at_ j = some k → j < ((m.push ⟨aZ w (fun _ => 0), 5, .flat, true⟩).push sv).next → cP lv ≠ some j → m3.at_ j = some k)
   (d1 : ∀ j, cP lv' = some j → j = ((m.push ⟨aZ w (fun _ => 0), 5, .flat, true⟩).push sv).next ∨ cP lv = some j) (e1 : m3.mm = m.mm) : zB m0 m3 lv' w (i + 1) (fun j => if j = i then m.next else β j) := by
 simp only [bO] at b1 c1 d1
 have hkn := h.kept.next
 have hlv : ∀ j, cP lv = some j → j < m.next := fun j hj => by
   rcases h.own.form with ⟨e, _⟩ | ⟨b, e, _, hb, _⟩
   · rw [e] at hj; cases hj
   · rw [e] at hj; cases hj; exact hb
 have hcells : pZ w (fun j => if j = i then m.next else β j) (i + 1) = pZ w β i ++ [.sl m.next 0 w w true] := by
   rw [atN]
   simp only [if_true]
   rw [atQ fun j hj => if_neg (Nat.ne_of_lt hj)]
 refine ⟨by rw [hcells]; exact a1, fun j hj => ?_, fun j k hj hk e => ?_, ⟨e1.trans h.kept.mm, by omega, fun j k hj hl => ?_⟩, fun j hj => ?_⟩
 · by_cases e : j = i
   · simp only [if_pos e]
     refine ⟨hkn, by omega, c1 _ _ (by rw [aG, if_neg (by rw [bO]; omega), aG, if_pos rfl]) (by omega) fun h2 => by have := hlv _ h2; omega, fun h2 => ?_⟩
     rcases d1 _ h2 with h3 | h3
     · omega
     · have := hlv _ h3; omega
   · simp only [if_neg e]
     obtain ⟨r1, r2, r3, r4⟩ := h.row j (by omega)
     refine ⟨r1, by omega, c1 _ _ (by rw [aG, if_neg (by rw [bO]; omega), aG, if_neg (by omega)]; exact r3) (by omega) r4, fun h2 => ?_⟩
     rcases d1 _ h2 with h3 | h3
     · omega
     · exact r4 h3
 · by_cases e1 : j = i <;> by_cases e2 : k = i
   · omega
   · simp only [if_pos e1, if_neg e2] at e
     have := (h.row k (by omega)).2.1
     omega
   · simp only [if_neg e1, if_pos e2] at e
     have := (h.row j (by omega)).2.1
     omega
   · simp only [if_neg e1, if_neg e2] at e
     exact h.inj j k (by omega) (by omega) e
 · have hm := h.kept.at_ j k hj hl
   exact c1 _ _ (by rw [aG, if_neg (by rw [bO]; omega), aG, if_neg (by omega)]; exact hm) (by omega) fun h2 => by have := h.new j h2; omega
 · rcases d1 j hj with h3 | h3
   · omega
   · exact h.new j h3
def acu:Nat→Bool:=fun d=>d != 15
theorem agU (m0:aH) (n w:Nat) (hn:n≤32) (hw:w≤64):gO Tryz.prog 335 [aE (n:Nat),aE (w:Nat)] m0 fun r m'=>∃ β,zB m0 m' r w n β:=by
 have hmk:=fun m=>qK m (n:=w) (by omega)
 refine bJ follows Tryz.func335 (by unfold Tryz.f335;rfl) (by unfold Tryz.f335;simp) acu (by unfold Tryz.f335;simp) (by kernel_rfl) ?_;unfold Tryz.f335
 simp only [↓pre,simprocAttr,aA,sx,adB,acu,bne,aC,aI,aM,hmk,sr]
 rw [b7]
 refine b8 (fun q e m=>∃ i lv β,q+i=n∧e 0=aE (n:Nat)∧e 1=aE (w:Nat)∧e 5=lv∧e 6=aE (i:Nat)∧aB (zB m0 m lv w i β)) n ⟨0,aP,fun _=>0,by omega,rfl,rfl,rfl,rfl,⟨gT,fun j hj=>by omega,fun j k hj=>by omega,kT.refl _,x5 _⟩⟩ ?_
 rintro q e m ⟨i,lv,β,hq,e0,e1,e5,e6,hJ⟩
 replace hq:=aB.mk hq
 by_cases hlt:i < n
 ·have hlt':((i:Nat):Int) < ((n:Nat):Int):=by omega
  have w1:=cF (n:=i) (by omega)
  have hbs:=fun m (b n:Nat) f=>atR m b n f
  replace hJ:=aB.mk hJ
  simp only [↓pre,simprocAttr,aA,sx,adB,acu,bne,aC,aI,aM,hmk,e0,e1,e5,e6,hlt',hbs,sr]
  refine tE (kd := .var) (sz:=1) (y:=24) (zl:=[.slice none 0 0]) (by kernel_rfl) ((hJ.out.out.own.push _).push _) (by kernel_rfl) (by kernel_rfl) (by kernel_rfl) rfl (atS (by rw [aG,if_pos (by rw [bO])])) rfl (by omega) (by omega) fun lv' m' a1 b1 c1 d1 f1 => ?_
  have hg:=hJ.out.out.grow a1 b1 c1 d1 f1
  replace hg:=aB.mk hg
  clear a1 b1 c1 d1 f1
  simp only [↓pre,simprocAttr,aA,sx,adB,acu,bne,aC,aI,aM,hmk,e0,e1,e5,e6,w1,sr]
  exact ⟨q - 1,by have:=hq.out;omega,i+1,lv',_,by have:=hq.out;omega,rfl,rfl,hg⟩
 ·have hlt':¬ ((i:Nat):Int) < ((n:Nat):Int):=by omega
  have hi:i=n:=by have:=hq.out;omega
  subst hi
  simp only [↓pre,simprocAttr,aA,sx,adB,acu,bne,aC,aI,aM,hmk,e0,e1,e5,e6,hlt',sr]
  exact ⟨β,hJ.out⟩
theorem zB.mat {m0 m:aH} {lv:AV} {w n:Nat} {β:Nat→Nat} (h:zB m0 m lv w n β) (hn:1≤n):∃ b,lv = .sl b 0 n n false∧dA m b n w n true β (fun _ _=>0)∧m0.next≤b∧∀ i,i < n→m0.next≤β i:=by
 obtain ⟨b,rfl,hb,hl⟩:=h.own.sl (by omega)
 exact ⟨b,rfl,⟨⟨_,hb,atO _ _ _,fun i hi=>atP β hi⟩,hl,fun i hi=>⟨(h.row i hi).2.1,(h.row i hi).2.2.1⟩,h.inj⟩,h.new b rfl,fun i hi=>(h.row i hi).1⟩
end Go.Proofs.YtaekhhlgnbhnpaaGreat