import Derived.Test.YtaekhhlgnbhnpaaGreatOycG22
import Derived.Test.YtaekhhlgnbhnpaaGreatOycG21
import Derived.Test.YtaekhhlgnbhnpaaGreatOycG18
import Derived.Test.YtaekhhlgnbhnpaaGreatOycG12
import Derived.Test.YtaekhhlgnbhnpaaGreatOycG20
set_option linter.unusedVariables false
set_option linter.unusedSimpArgs false
set_option maxRecDepth 10000
namespace Go.Proofs.YtaekhhlgnbhnpaaGreat
open Go Go.Tw Go.Proofs Go.Gf
theorem auh {bs:List UInt8} {i:Nat} {a:UInt8} (h:bs[i]? = some a):dL ((bs.drop i).take 1)=a.toNat:=by
 have:(bs.drop i).take 1=[a]:=by
  have h1:(bs.drop i)[0]? = some a:=by rw [List.getElem?_drop];simpa using h
  cases hd:bs.drop i with
  | nil=>rw [hd] at h1;cases h1
  | cons y ys=>rw [hd] at h1;cases h1;rfl
 rw [this]
 simp [dL]
theorem anv {k r c w len dep:Int} {l:List b9} (hm:bL k r c w=true):decide (lE k r c w len dep l=0)=qN k r c w len dep l:=by
 unfold lE
 rw [if_pos hm]
 cases qN k r c w len dep l <;> rfl
def eK:Nat→Bool:=fun d=>d != 4 && d != 6 && d != 40 && d != 45 && d != 53
set_option maxHeartbeats 1000000 in
theorem aui (k r c w:Int) (hm:bL k r c w=true) (v:AV) (bs:List UInt8) (x:List AV) (hv:bD v bs.length (aQ bs++x)) (hl:(bs.length:Int)=wI k c):aY Tryz.prog 117 [aA k r c w,v] ⟨.tup [rS k r c w bs,aE (nE k r c w bs)],[]⟩:=by
 refine dY ?_
 have hp:=hv.plain
 have h1:=aaB k r c w
 have h2:=wQ k r c w hm
 have h3:=afT k r c w hm
 rw [hm] at h1
 have hw:=gU hm
 have hbl:bs.length≤768∧32≤bs.length:=by unfold wI at hl;omega
 have hE:nE k r c w bs=if pV k r c w bs=true then 0 else 150:=by unfold nE;rw [if_pos hm,if_pos hl]
 have hfz:∀ E,nE k r c w bs=E→E≠0→∀ m,fzT 0 m (.tup [.agg [.val (.int .i64 0),.val (.int .i64 0),.val (.slice none 0 0)],.val (.int .i64 E)])=some (.tup [rS k r c w bs,aE E]):=fun E hE h0 m=>by
  unfold rS
  rw [hE,if_neg h0]
  exact amE E 0 m
 obtain ⟨v1,s1,r1⟩:=hv.slice (P:=Tryz.prog) (t:=52) (sz:=1) (lo:=none) (hi:=some 4) (by kernel_rfl) (by simp) (by simp only [Option.getD_some];omega)
 obtain ⟨v3,s3,r3⟩:=hv.slice (P:=Tryz.prog) (t:=52) (sz:=1) (lo:=some 5) (hi:=some 7) (by kernel_rfl) (by simp) (by simp only [Option.getD_some];omega)
 obtain ⟨v4,s4,r4⟩:=hv.slice (P:=Tryz.prog) (t:=52) (sz:=1) (lo:=some 7) (hi:=none) (by kernel_rfl) (by simp only [Option.getD_some,Option.getD_none];omega) (by simp)
 simp only [Option.getD_some,Option.getD_none,Nat.mul_one,Nat.sub_zero,List.drop_zero] at r1 r3 r4
 rw [rG _ x 5 (by omega)] at r3
 rw [rG _ x 7 (by omega),←List.length_drop] at r4
 have c1:=aer v1 4 bs x r1 (by omega) (by omega)
 have c3:=aer v3 2 (bs.drop 5) x r3 (by rw [List.length_drop];omega) (by omega)
 have pl1:=r1.plain
 have pl3:=r3.plain
 have pl4:=r4.plain
 obtain ⟨a,ha⟩:∃ a,bs[4]? = some a:=⟨_,List.getElem?_eq_getElem (by omega)⟩
 have ha1:=lL (x:=x) ha
 have hdep:((a.toNat:Nat):Int)=dK bs:=by unfold dK;rw [auh ha]
 have h4l:4 < bs.length:=by omega
 have hn2:pN bs < 65536:=yL 2 (bs.drop 5)
 rw [show dL ((bs.drop 5).take 2)=pN bs from rfl] at c3
 rw [show ((dL (bs.take 4):Nat):Int)=b6 bs from rfl] at c1
 have n4:jB (.val (.int .i64 4))=some 4:=rfl
 have n5:jB (.val (.int .i64 5))=some 5:=rfl
 have n7:jB (.val (.int .i64 7))=some 7:=rfl
 have wa:IntKind.i64.wrap ((a.toNat:Nat):Int)=((a.toNat:Nat):Int):=dE (by have:=a.toNat_lt;omega)
 rw [hdep] at wa
 have hso:=fun m=>hv.slOk (P:=Tryz.prog) (m:=m) (t:=52)
 have hsx:=fun d c m lo hi mx=>hv.sliceX (P:=Tryz.prog) (m:=m) (t:=52) (d:=d) (c:=c) (lo:=lo) (hi:=hi) (mx:=mx)
 have hneq:¬ ((bs.length:Nat):Int)=wI k c→False:=fun h=>h hl
 rw [←hl] at h2
 by_cases hfit:7+6*pN bs≤bs.length
 ·have hfit':¬ dI k c < ((pN bs:Nat):Int):=by unfold dI;unfold wI at hl;omega
  have c4:=anr v4 (bs.drop 7) x (pN bs) r4 (by rw [List.length_drop];omega) (by rw [List.length_drop];omega)
  rw [show dQ (bs.drop 7) (pN bs)=cE bs from rfl] at c4
  have hpl:(cE bs).length=pN bs:=aci _ _
  have hRV:qM (bE (pN bs) (bW (cE bs))) (cE bs):=⟨[],by rw [List.append_nil,hpl];exact dH _ _⟩
  have c5:=auc k r c w (b6 bs) (dK bs) hm _ _ hRV (by omega)
  have pt:=(dH (pN bs) (bW (cE bs))).plain
  have hTRf:bE (pN bs) (bW (cE bs)) = .val (.slice none 0 0)∨bE (pN bs) (bW (cE bs)) = .tree (pN bs) (pN bs) (bW (cE bs)) false:=by unfold bE;split;exact .inl rfl;exact .inr rfl
  have hok:pV k r c w bs=(qN k r c w (b6 bs) (dK bs) (cE bs) && decide (lQ k c (b6 bs) (dK bs) (cE bs)=bs)):=by unfold pV;rw [decide_eq_true hfit,anv hm];rfl
  by_cases hck:qN k r c w (b6 bs) (dK bs) (cE bs)=true
  ·have hck0:lE k r c w (b6 bs) (dK bs) (cE bs)=0:=by have:=anv (len:=b6 bs) (dep:=dK bs) (l:=cE bs) hm;rw [hck] at this;exact of_decide_eq_true this
   have c6:=aug k r c w (b6 bs) (dK bs) _ _ hRV hck0
   rw [hck,Bool.true_and] at hok
   rw [hck] at c5
   have hml:(lQ k c (b6 bs) (dK bs) (cE bs)).length=(wI k c).toNat:=by
    unfold lQ
    refine aef ?_
    obtain ⟨_,_,_,hll,_⟩:=y8 hck0
    unfold nP
    simp only [List.length_append,j7,pP]
    unfold dI at hll
    unfold wI
    omega
   have hMR:bD (.tree (wI k c).toNat (wI k c).toNat (aQ (lQ k c (b6 bs) (dK bs) (cE bs))) true) (lQ k c (b6 bs) (dK bs) (cE bs)).length (aQ (lQ k c (b6 bs) (dK bs) (cE bs))++[]):=by rw [hml,List.append_nil];exact lF _ _ _
   have hfin:pV k r c w bs=true→∀ m,fzT 0 m (.tup [.agg [.val (.int .i64 (b6 bs)),.val (.int .i64 (dK bs)),bE (pN bs) (bW (cE bs))],.val (.int .i64 0)])=some (.tup [rS k r c w bs,aE 0]):=fun h m=>by
    have:=gS (aeh (b6 bs) (dK bs) (cE bs)) (bU (.int .i64 0)) 0 m
    unfold rS
    rw [hE,h,if_pos rfl,if_pos rfl]
    unfold kL at this ⊢
    rw [hpl] at this ⊢
    exact this
   have tM:=cK hMR
   generalize AV.tree (wI k c).toNat (wI k c).toNat (aQ (lQ k c (b6 bs) (dK bs) (cE bs))) true=MV at *
   generalize lQ k c (b6 bs) (dK bs) (cE bs)=MB at *
   have hx1:=fun (d c:Bool) (m:aH)=>rI (d:=d) (c:=c) (m:=m) hMR
   have hx2:=fun (d c:Bool) (m:aH)=>rI (d:=d) (c:=c) (m:=m) hv
   replace hRV:=aB.mk hRV
   replace hck:=aB.mk hck
   replace hck0:=aB.mk hck0
   replace hfit:=aB.mk hfit
   replace hpl:=aB.mk hpl
   replace hml:=aB.mk hml
   replace hMR:=aB.mk hMR
   replace hw:=aB.mk hw
   replace hbl:=aB.mk hbl
   replace hn2:=aB.mk hn2
   replace ha:=aB.mk ha
   replace hl:=aB.mk hl
   replace hneq:=aB.mk hneq
   by_cases heq:MB=bs
   ·rw [decide_eq_true heq] at hok
    have hst:∀ x y,dP Tryz.prog .neq 9 x y (kG MB) (kG bs)=some (.val (.bool false)):=fun x y=>by rw [acr,decide_eq_true heq];rfl
    rw [hok,if_pos rfl] at hE
    rw [hE]
    replace hfin:=aB.mk (hfin hok)
    replace hok:=aB.mk hok
    replace hE:=aB.mk hE
    replace hfz:=aB.mk hfz
    replace heq:=aB.mk heq
    rcases hTRf with hT | hT
    all_goals rw [hT] at c4 c5 c6 hfin
    all_goals clear pt
    all_goals replace hT:=aB.mk hT
    all_goals (
     refine bJ follows Tryz.func117 (by unfold Tryz.f117;rfl) (by unfold Tryz.f117;simp) eK (by unfold Tryz.f117;simp) (by kernel_rfl) ?_;unfold Tryz.f117
     simp only [↓pre,simprocAttr,aA,sx,eW,eK,bne,aC,aM,aI,bG,a8,Option.map_none,Option.map_some,aJ,aK,aF,aG,aW,Nat.one_ne_zero,Nat.zero_ne_one,n4,n5,n7,hso,hsx,s1,s3,s4,hv.len',hv.addr',h4l,ha1,hdep,wa,sr]
     refine aL (h1) (by rfl) ?_;simp only [↓pre,simprocAttr,aA,sx,eW,eK,bne,aC,aM,aI,bG,a8,Option.map_none,Option.map_some,aJ,aK,aF,aG,aW,Nat.one_ne_zero,Nat.zero_ne_one,n4,n5,n7,hso,hsx,s1,s3,s4,hv.len',hv.addr',h4l,ha1,hdep,wa,sr];refine aL (h2) (by rfl) ?_;simp only [↓pre,simprocAttr,aA,sx,eW,eK,bne,aC,aM,aI,bG,a8,Option.map_none,Option.map_some,aJ,aK,aF,aG,aW,Nat.one_ne_zero,Nat.zero_ne_one,n4,n5,n7,hso,hsx,s1,s3,s4,hv.len',hv.addr',h4l,ha1,hdep,wa,sr];(refine bM (c1) (by simp only [aA,aO, *]) (by intro k;rfl) ?_);simp only [↓pre,simprocAttr,aA,sx,eW,eK,bne,aC,aM,aI,bG,a8,Option.map_none,Option.map_some,aJ,aK,aF,aG,aW,Nat.one_ne_zero,Nat.zero_ne_one,n4,n5,n7,hso,hsx,s1,s3,s4,hv.len',hv.addr',h4l,ha1,hdep,wa,sr]
     refine mG (by kernel_rfl) ?_
     simp only [↓pre,simprocAttr,aA,sx,eW,eK,bne,aC,aM,aI,bG,a8,Option.map_none,Option.map_some,aJ,aK,aF,aG,aW,Nat.one_ne_zero,Nat.zero_ne_one,n4,n5,n7,hso,hsx,s1,s3,s4,hv.len',hv.addr',h4l,ha1,hdep,wa,sr]
     refine cU (by kernel_rfl) ?_
     simp only [↓pre,simprocAttr,aA,sx,eW,eK,bne,aC,aM,aI,bG,a8,Option.map_none,Option.map_some,aJ,aK,aF,aG,aW,Nat.one_ne_zero,Nat.zero_ne_one,n4,n5,n7,hso,hsx,s1,s3,s4,hv.len',hv.addr',h4l,ha1,hdep,wa,sr]
     refine aL (c3) (by simp only [aA,aO, *]) ?_;simp only [↓pre,simprocAttr,aA,sx,eW,eK,bne,aC,aM,aI,bG,a8,Option.map_none,Option.map_some,aJ,aK,aF,aG,aW,Nat.one_ne_zero,Nat.zero_ne_one,n4,n5,n7,hso,hsx,s1,s3,s4,hv.len',hv.addr',h4l,ha1,hdep,wa,hfit',tM,hx1,hx2,hst,sr];refine aL (h3) (by rfl) ?_;simp only [↓pre,simprocAttr,aA,sx,eW,eK,bne,aC,aM,aI,bG,a8,Option.map_none,Option.map_some,aJ,aK,aF,aG,aW,Nat.one_ne_zero,Nat.zero_ne_one,n4,n5,n7,hso,hsx,s1,s3,s4,hv.len',hv.addr',h4l,ha1,hdep,wa,hfit',tM,hx1,hx2,hst,sr];refine aL (c4) (by simp only [aA,aO, *]) ?_;simp only [↓pre,simprocAttr,aA,sx,eW,eK,bne,aC,aM,aI,bG,a8,Option.map_none,Option.map_some,aJ,aK,aF,aG,aW,Nat.one_ne_zero,Nat.zero_ne_one,n4,n5,n7,hso,hsx,s1,s3,s4,hv.len',hv.addr',h4l,ha1,hdep,wa,hfit',tM,hx1,hx2,hst,sr];(refine bM (c5) (by rfl) (by intro k;rfl) ?_);simp only [↓pre,simprocAttr,aA,sx,eW,eK,bne,aC,aM,aI,bG,a8,Option.map_none,Option.map_some,aJ,aK,aF,aG,aW,Nat.one_ne_zero,Nat.zero_ne_one,n4,n5,n7,hso,hsx,s1,s3,s4,hv.len',hv.addr',h4l,ha1,hdep,wa,hfit',tM,hx1,hx2,hst,sr];(refine bM (c6) (by rfl) (by intro k;simp only [sq,sr, *]) ?_);simp only [↓pre,simprocAttr,aA,sx,eW,eK,bne,aC,aM,aI,bG,a8,Option.map_none,Option.map_some,aJ,aK,aF,aG,aW,Nat.one_ne_zero,Nat.zero_ne_one,n4,n5,n7,hso,hsx,s1,s3,s4,hv.len',hv.addr',h4l,ha1,hdep,wa,hfit',tM,hx1,hx2,hst,sr]
     exact ⟨0,hfin.out _⟩
     )
   ·rw [decide_eq_false heq] at hok
    have hst:∀ x y,dP Tryz.prog .neq 9 x y (kG MB) (kG bs)=some (.val (.bool true)):=fun x y=>by rw [acr,decide_eq_false heq];rfl
    rw [hok,if_neg (by decide)] at hE
    have hz:=hfz 150 hE (by decide)
    rw [hE]
    replace hz:=aB.mk hz
    replace hok:=aB.mk hok
    replace hE:=aB.mk hE
    replace hfz:=aB.mk hfz
    replace heq:=aB.mk heq
    replace hfin:=aB.mk hfin
    rcases hTRf with hT | hT
    all_goals rw [hT] at c4 c5 c6
    all_goals clear pt
    all_goals replace hT:=aB.mk hT
    all_goals (
     refine bJ follows Tryz.func117 (by unfold Tryz.f117;rfl) (by unfold Tryz.f117;simp) eK (by unfold Tryz.f117;simp) (by kernel_rfl) ?_;unfold Tryz.f117
     simp only [↓pre,simprocAttr,aA,sx,eW,eK,bne,aC,aM,aI,bG,a8,Option.map_none,Option.map_some,aJ,aK,aF,aG,aW,Nat.one_ne_zero,Nat.zero_ne_one,n4,n5,n7,hso,hsx,s1,s3,s4,hv.len',hv.addr',h4l,ha1,hdep,wa,sr]
     refine aL (h1) (by rfl) ?_;simp only [↓pre,simprocAttr,aA,sx,eW,eK,bne,aC,aM,aI,bG,a8,Option.map_none,Option.map_some,aJ,aK,aF,aG,aW,Nat.one_ne_zero,Nat.zero_ne_one,n4,n5,n7,hso,hsx,s1,s3,s4,hv.len',hv.addr',h4l,ha1,hdep,wa,sr];refine aL (h2) (by rfl) ?_;simp only [↓pre,simprocAttr,aA,sx,eW,eK,bne,aC,aM,aI,bG,a8,Option.map_none,Option.map_some,aJ,aK,aF,aG,aW,Nat.one_ne_zero,Nat.zero_ne_one,n4,n5,n7,hso,hsx,s1,s3,s4,hv.len',hv.addr',h4l,ha1,hdep,wa,sr];(refine bM (c1) (by simp only [aA,aO, *]) (by intro k;rfl) ?_);simp only [↓pre,simprocAttr,aA,sx,eW,eK,bne,aC,aM,aI,bG,a8,Option.map_none,Option.map_some,aJ,aK,aF,aG,aW,Nat.one_ne_zero,Nat.zero_ne_one,n4,n5,n7,hso,hsx,s1,s3,s4,hv.len',hv.addr',h4l,ha1,hdep,wa,sr]
     refine mG (by kernel_rfl) ?_
     simp only [↓pre,simprocAttr,aA,sx,eW,eK,bne,aC,aM,aI,bG,a8,Option.map_none,Option.map_some,aJ,aK,aF,aG,aW,Nat.one_ne_zero,Nat.zero_ne_one,n4,n5,n7,hso,hsx,s1,s3,s4,hv.len',hv.addr',h4l,ha1,hdep,wa,sr]
     refine cU (by kernel_rfl) ?_
     simp only [↓pre,simprocAttr,aA,sx,eW,eK,bne,aC,aM,aI,bG,a8,Option.map_none,Option.map_some,aJ,aK,aF,aG,aW,Nat.one_ne_zero,Nat.zero_ne_one,n4,n5,n7,hso,hsx,s1,s3,s4,hv.len',hv.addr',h4l,ha1,hdep,wa,sr]
     refine aL (c3) (by simp only [aA,aO, *]) ?_;simp only [↓pre,simprocAttr,aA,sx,eW,eK,bne,aC,aM,aI,bG,a8,Option.map_none,Option.map_some,aJ,aK,aF,aG,aW,Nat.one_ne_zero,Nat.zero_ne_one,n4,n5,n7,hso,hsx,s1,s3,s4,hv.len',hv.addr',h4l,ha1,hdep,wa,hfit',tM,hx1,hx2,hst,sr];refine aL (h3) (by rfl) ?_;simp only [↓pre,simprocAttr,aA,sx,eW,eK,bne,aC,aM,aI,bG,a8,Option.map_none,Option.map_some,aJ,aK,aF,aG,aW,Nat.one_ne_zero,Nat.zero_ne_one,n4,n5,n7,hso,hsx,s1,s3,s4,hv.len',hv.addr',h4l,ha1,hdep,wa,hfit',tM,hx1,hx2,hst,sr];refine aL (c4) (by simp only [aA,aO, *]) ?_;simp only [↓pre,simprocAttr,aA,sx,eW,eK,bne,aC,aM,aI,bG,a8,Option.map_none,Option.map_some,aJ,aK,aF,aG,aW,Nat.one_ne_zero,Nat.zero_ne_one,n4,n5,n7,hso,hsx,s1,s3,s4,hv.len',hv.addr',h4l,ha1,hdep,wa,hfit',tM,hx1,hx2,hst,sr];(refine bM (c5) (by rfl) (by intro k;rfl) ?_);simp only [↓pre,simprocAttr,aA,sx,eW,eK,bne,aC,aM,aI,bG,a8,Option.map_none,Option.map_some,aJ,aK,aF,aG,aW,Nat.one_ne_zero,Nat.zero_ne_one,n4,n5,n7,hso,hsx,s1,s3,s4,hv.len',hv.addr',h4l,ha1,hdep,wa,hfit',tM,hx1,hx2,hst,sr];(refine bM (c6) (by rfl) (by intro k;simp only [sq,sr, *]) ?_);simp only [↓pre,simprocAttr,aA,sx,eW,eK,bne,aC,aM,aI,bG,a8,Option.map_none,Option.map_some,aJ,aK,aF,aG,aW,Nat.one_ne_zero,Nat.zero_ne_one,n4,n5,n7,hso,hsx,s1,s3,s4,hv.len',hv.addr',h4l,ha1,hdep,wa,hfit',tM,hx1,hx2,hst,sr]
     exact ⟨0,hz.out _⟩
     )
  ·rw [Bool.not_eq_true] at hck
   rw [hck,Bool.false_and] at hok
   rw [hck] at c5
   rw [hok,if_neg (by decide)] at hE
   have hz:=hfz 150 hE (by decide)
   rw [hE]
   replace hz:=aB.mk hz
   replace hok:=aB.mk hok
   replace hE:=aB.mk hE
   replace hfz:=aB.mk hfz
   replace hRV:=aB.mk hRV
   replace hck:=aB.mk hck
   replace hfit:=aB.mk hfit
   replace hpl:=aB.mk hpl
   replace hw:=aB.mk hw
   replace hbl:=aB.mk hbl
   replace hn2:=aB.mk hn2
   replace ha:=aB.mk ha
   replace hl:=aB.mk hl
   replace hneq:=aB.mk hneq
   rcases hTRf with hT | hT
   all_goals rw [hT] at c4 c5
   all_goals clear pt
   all_goals replace hT:=aB.mk hT
   all_goals (
    refine bJ follows Tryz.func117 (by unfold Tryz.f117;rfl) (by unfold Tryz.f117;simp) eK (by unfold Tryz.f117;simp) (by kernel_rfl) ?_;unfold Tryz.f117
    simp only [↓pre,simprocAttr,aA,sx,eW,eK,bne,aC,aM,aI,bG,a8,Option.map_none,Option.map_some,aJ,aK,aF,aG,aW,Nat.one_ne_zero,Nat.zero_ne_one,n4,n5,n7,hso,hsx,s1,s3,s4,hv.len',hv.addr',h4l,ha1,hdep,wa,sr]
    refine aL (h1) (by rfl) ?_;simp only [↓pre,simprocAttr,aA,sx,eW,eK,bne,aC,aM,aI,bG,a8,Option.map_none,Option.map_some,aJ,aK,aF,aG,aW,Nat.one_ne_zero,Nat.zero_ne_one,n4,n5,n7,hso,hsx,s1,s3,s4,hv.len',hv.addr',h4l,ha1,hdep,wa,sr];refine aL (h2) (by rfl) ?_;simp only [↓pre,simprocAttr,aA,sx,eW,eK,bne,aC,aM,aI,bG,a8,Option.map_none,Option.map_some,aJ,aK,aF,aG,aW,Nat.one_ne_zero,Nat.zero_ne_one,n4,n5,n7,hso,hsx,s1,s3,s4,hv.len',hv.addr',h4l,ha1,hdep,wa,sr];(refine bM (c1) (by simp only [aA,aO, *]) (by intro k;rfl) ?_);simp only [↓pre,simprocAttr,aA,sx,eW,eK,bne,aC,aM,aI,bG,a8,Option.map_none,Option.map_some,aJ,aK,aF,aG,aW,Nat.one_ne_zero,Nat.zero_ne_one,n4,n5,n7,hso,hsx,s1,s3,s4,hv.len',hv.addr',h4l,ha1,hdep,wa,sr]
    refine mG (by kernel_rfl) ?_
    simp only [↓pre,simprocAttr,aA,sx,eW,eK,bne,aC,aM,aI,bG,a8,Option.map_none,Option.map_some,aJ,aK,aF,aG,aW,Nat.one_ne_zero,Nat.zero_ne_one,n4,n5,n7,hso,hsx,s1,s3,s4,hv.len',hv.addr',h4l,ha1,hdep,wa,sr]
    refine cU (by kernel_rfl) ?_
    simp only [↓pre,simprocAttr,aA,sx,eW,eK,bne,aC,aM,aI,bG,a8,Option.map_none,Option.map_some,aJ,aK,aF,aG,aW,Nat.one_ne_zero,Nat.zero_ne_one,n4,n5,n7,hso,hsx,s1,s3,s4,hv.len',hv.addr',h4l,ha1,hdep,wa,sr]
    refine aL (c3) (by simp only [aA,aO, *]) ?_;simp only [↓pre,simprocAttr,aA,sx,eW,eK,bne,aC,aM,aI,bG,a8,Option.map_none,Option.map_some,aJ,aK,aF,aG,aW,Nat.one_ne_zero,Nat.zero_ne_one,n4,n5,n7,hso,hsx,s1,s3,s4,hv.len',hv.addr',h4l,ha1,hdep,wa,hfit',sr];refine aL (h3) (by rfl) ?_;simp only [↓pre,simprocAttr,aA,sx,eW,eK,bne,aC,aM,aI,bG,a8,Option.map_none,Option.map_some,aJ,aK,aF,aG,aW,Nat.one_ne_zero,Nat.zero_ne_one,n4,n5,n7,hso,hsx,s1,s3,s4,hv.len',hv.addr',h4l,ha1,hdep,wa,hfit',sr];refine aL (c4) (by simp only [aA,aO, *]) ?_;simp only [↓pre,simprocAttr,aA,sx,eW,eK,bne,aC,aM,aI,bG,a8,Option.map_none,Option.map_some,aJ,aK,aF,aG,aW,Nat.one_ne_zero,Nat.zero_ne_one,n4,n5,n7,hso,hsx,s1,s3,s4,hv.len',hv.addr',h4l,ha1,hdep,wa,hfit',sr];(refine bM (c5) (by rfl) (by intro k;rfl) ?_);simp only [↓pre,simprocAttr,aA,sx,eW,eK,bne,aC,aM,aI,bG,a8,Option.map_none,Option.map_some,aJ,aK,aF,aG,aW,Nat.one_ne_zero,Nat.zero_ne_one,n4,n5,n7,hso,hsx,s1,s3,s4,hv.len',hv.addr',h4l,ha1,hdep,wa,hfit',sr]
    exact ⟨0,hz.out _⟩
    )
 ·have hfit':dI k c < ((pN bs:Nat):Int):=by unfold dI;unfold wI at hl;omega
  have hok:pV k r c w bs=false:=by unfold pV;rw [decide_eq_false hfit];rfl
  rw [hok,if_neg (by decide)] at hE
  have hz:=hfz 150 hE (by decide)
  rw [hE]
  replace hz:=aB.mk hz
  replace hok:=aB.mk hok
  replace hE:=aB.mk hE
  replace hfz:=aB.mk hfz
  replace hfit:=aB.mk hfit
  replace hw:=aB.mk hw
  replace hbl:=aB.mk hbl
  replace hn2:=aB.mk hn2
  replace ha:=aB.mk ha
  replace hl:=aB.mk hl
  replace hneq:=aB.mk hneq
  refine bJ follows Tryz.func117 (by unfold Tryz.f117;rfl) (by unfold Tryz.f117;simp) eK (by unfold Tryz.f117;simp) (by kernel_rfl) ?_;unfold Tryz.f117
  simp only [↓pre,simprocAttr,aA,sx,eW,eK,bne,aC,aM,aI,bG,a8,Option.map_none,Option.map_some,aJ,aK,aF,aG,aW,Nat.one_ne_zero,Nat.zero_ne_one,n4,n5,n7,hso,hsx,s1,s3,s4,hv.len',hv.addr',h4l,ha1,hdep,wa,sr]
  refine aL (h1) (by rfl) ?_;simp only [↓pre,simprocAttr,aA,sx,eW,eK,bne,aC,aM,aI,bG,a8,Option.map_none,Option.map_some,aJ,aK,aF,aG,aW,Nat.one_ne_zero,Nat.zero_ne_one,n4,n5,n7,hso,hsx,s1,s3,s4,hv.len',hv.addr',h4l,ha1,hdep,wa,sr];refine aL (h2) (by rfl) ?_;simp only [↓pre,simprocAttr,aA,sx,eW,eK,bne,aC,aM,aI,bG,a8,Option.map_none,Option.map_some,aJ,aK,aF,aG,aW,Nat.one_ne_zero,Nat.zero_ne_one,n4,n5,n7,hso,hsx,s1,s3,s4,hv.len',hv.addr',h4l,ha1,hdep,wa,sr];(refine bM (c1) (by simp only [aA,aO, *]) (by intro k;rfl) ?_);simp only [↓pre,simprocAttr,aA,sx,eW,eK,bne,aC,aM,aI,bG,a8,Option.map_none,Option.map_some,aJ,aK,aF,aG,aW,Nat.one_ne_zero,Nat.zero_ne_one,n4,n5,n7,hso,hsx,s1,s3,s4,hv.len',hv.addr',h4l,ha1,hdep,wa,sr]
  refine mG (by kernel_rfl) ?_
  simp only [↓pre,simprocAttr,aA,sx,eW,eK,bne,aC,aM,aI,bG,a8,Option.map_none,Option.map_some,aJ,aK,aF,aG,aW,Nat.one_ne_zero,Nat.zero_ne_one,n4,n5,n7,hso,hsx,s1,s3,s4,hv.len',hv.addr',h4l,ha1,hdep,wa,sr]
  refine cU (by kernel_rfl) ?_
  simp only [↓pre,simprocAttr,aA,sx,eW,eK,bne,aC,aM,aI,bG,a8,Option.map_none,Option.map_some,aJ,aK,aF,aG,aW,Nat.one_ne_zero,Nat.zero_ne_one,n4,n5,n7,hso,hsx,s1,s3,s4,hv.len',hv.addr',h4l,ha1,hdep,wa,sr]
  refine aL (c3) (by simp only [aA,aO, *]) ?_;simp only [↓pre,simprocAttr,aA,sx,eW,eK,bne,aC,aM,aI,bG,a8,Option.map_none,Option.map_some,aJ,aK,aF,aG,aW,Nat.one_ne_zero,Nat.zero_ne_one,n4,n5,n7,hso,hsx,s1,s3,s4,hv.len',hv.addr',h4l,ha1,hdep,wa,hfit',sr];refine aL (h3) (by rfl) ?_;simp only [↓pre,simprocAttr,aA,sx,eW,eK,bne,aC,aM,aI,bG,a8,Option.map_none,Option.map_some,aJ,aK,aF,aG,aW,Nat.one_ne_zero,Nat.zero_ne_one,n4,n5,n7,hso,hsx,s1,s3,s4,hv.len',hv.addr',h4l,ha1,hdep,wa,hfit',sr]
  exact ⟨0,hz.out _⟩
theorem auj (k r c w:Int) (hm:bL k r c w=true) (v:AV) (bs:List UInt8) (x:List AV) (hv:bD v bs.length (aQ bs++x)) (hl:(bs.length:Int)=wI k c) (n:Int):aY Tryz.prog 189 [aA k r c w,v,aE n] ⟨aa1 k c w bs n,[]⟩:=by
 refine dY ?_
 have h1:=aaB k r c w
 have h2:=wQ k r c w hm
 have h3:=adG k r c w hm
 rw [hm] at h1
 rw [←hl] at h2
 have hw:=gU hm
 have hlb:=rF hw.1 hw.2
 have hp:=hv.plain
 unfold aa1 qO
 by_cases hn:n < 1∨lI k c < n
 ·rw [if_pos hn,if_neg (by decide)]
  have hf:=fun m=>gS (bU (.slice none 0 0)) (bU (.int .i64 20)) 1 m
  replace hf:=aB.mk hf
  replace hlb:=aB.mk hlb
  by_cases k1:n < 1
  ·refine bJ follows Tryz.func189 (by unfold Tryz.f189;rfl) (by unfold Tryz.f189;simp) aD (by unfold Tryz.f189;simp) (by kernel_rfl) ?_;unfold Tryz.f189
   simp only [↓pre,simprocAttr,aA,sx,iI,aD,aC,hv.len',sr]
   refine aL (h1) (by rfl) ?_;simp only [↓pre,simprocAttr,aA,sx,iI,aD,aC,hv.len',k1,sr];refine aL (h2) (by rfl) ?_;simp only [↓pre,simprocAttr,aA,sx,iI,aD,aC,hv.len',k1,sr]
   exact ⟨1,hf.out _⟩
  ·have k2:lI k c < n:=by omega
   refine bJ follows Tryz.func189 (by unfold Tryz.f189;rfl) (by unfold Tryz.f189;simp) aD (by unfold Tryz.f189;simp) (by kernel_rfl) ?_;unfold Tryz.f189
   simp only [↓pre,simprocAttr,aA,sx,iI,aD,aC,hv.len',sr]
   refine aL (h1) (by rfl) ?_;simp only [↓pre,simprocAttr,aA,sx,iI,aD,aC,hv.len',k1,k2,sr];refine aL (h2) (by rfl) ?_;simp only [↓pre,simprocAttr,aA,sx,iI,aD,aC,hv.len',k1,k2,sr];refine aL (h3) (by rfl) ?_;simp only [↓pre,simprocAttr,aA,sx,iI,aD,aC,hv.len',k1,k2,sr]
   exact ⟨1,hf.out _⟩
 ·rw [if_neg hn]
  have k1:¬ n < 1:=by omega
  have k2:¬ lI k c < n:=by omega
  obtain ⟨N,hN⟩:∃ N:Nat,n=(N:Int):=⟨n.toNat,by omega⟩
  subst hN
  rw [Int.toNat_natCast]
  have h6:6*N≤bs.length:=by unfold wI at hl;unfold lI at k2;omega
  have hbl:bs.length≤768:=by unfold wI at hl;omega
  have c4:=anr v bs x N hv h6 (by omega)
  have hpl:(dQ bs N).length=N:=aci _ _
  have hrd:=dH N (bW (dQ bs N))
  have hRV:qM (bE N (bW (dQ bs N))) (dQ bs N):=⟨[],by rw [List.append_nil,hpl];exact hrd⟩
  have c5:=anq k r c w _ _ hRV (by omega)
  have hll:(oQ k c (dQ bs N)).length=(wI k c).toNat:=by
   unfold oQ
   refine aef ?_
   rw [pP,hpl]
   omega
  have hLR:bD (.tree (wI k c).toNat (wI k c).toNat (aQ (oQ k c (dQ bs N))) true) (oQ k c (dQ bs N)).length (aQ (oQ k c (dQ bs N))++[]):=by rw [hll,List.append_nil];exact lF _ _ _
  have hfin:=fun m=>gS (kK hrd) (bU (.int .i64 0)) 1 m
  have hf:=fun m=>gS (bU (.slice none 0 0)) (bU (.int .i64 150)) 1 m
  have pt:=hrd.plain
  have st:=cK hrd
  have c6:=fun (hok:jQ w (dQ bs N)=true)=>ant _ _ hRV (by omega) (fun x hx=>by
   have:=aa2 (List.all_eq_true.1 hok x hx)
   have:=jE.1 hm
   omega)
  rw [hpl] at c6
  have hTr:=dH (N*6) (aQ (dN (dQ bs N)))
  have c7:=anu k r c w hm (bE (N*6) (aQ (dN (dQ bs N)))) (dN (dQ bs N)) [] (by rw [pP,hpl,List.append_nil];exact hTr) (by rw [pP,hpl];omega)
  rw [show pU (dN (dQ bs N)) (wI k c).toNat=oQ k c (dQ bs N) from rfl] at c7
  have pT:=hTr.plain
  have sT:=cK hTr
  have sL:=cK hLR
  generalize AV.tree (wI k c).toNat (wI k c).toNat (aQ (oQ k c (dQ bs N))) true=LV at *
  generalize bE (N*6) (aQ (dN (dQ bs N)))=TT at *
  generalize bE N (bW (dQ bs N))=TR at *
  generalize oQ k c (dQ bs N)=LB at *
  have hx1:=fun (d c:Bool) (m:aH)=>rI (d:=d) (c:=c) (m:=m) hLR
  have hx2:=fun (d c:Bool) (m:aH)=>rI (d:=d) (c:=c) (m:=m) hv
  replace hfin:=aB.mk hfin
  replace hf:=aB.mk hf
  replace hpl:=aB.mk hpl
  replace hrd:=aB.mk hrd
  replace hlb:=aB.mk hlb
  replace hRV:=aB.mk hRV
  replace hn:=aB.mk hn
  replace h6:=aB.mk h6
  replace hll:=aB.mk hll
  replace hLR:=aB.mk hLR
  replace hTr:=aB.mk hTr
  replace hw:=aB.mk hw
  replace hl:=aB.mk hl
  by_cases hok:jQ w (dQ bs N)=true
  ·have c6:=c6 hok
   rw [hok] at c5
   by_cases heq:LB=bs
   ·rw [show (if jQ w (dQ bs N)=true∧LB=bs then (0:Int) else 150)=0 from if_pos ⟨hok,heq⟩,if_pos rfl]
    have hst:∀ x y,dP Tryz.prog .neq 9 x y (kG LB) (kG bs)=some (.val (.bool false)):=fun x y=>by rw [acr,decide_eq_true heq];rfl
    replace hok:=aB.mk hok
    replace heq:=aB.mk heq
    refine bJ follows Tryz.func189 (by unfold Tryz.f189;rfl) (by unfold Tryz.f189;simp) aD (by unfold Tryz.f189;simp) (by kernel_rfl) ?_;unfold Tryz.f189
    simp only [↓pre,simprocAttr,aA,sx,iI,aD,aC,hv.len',sr]
    refine aL (h1) (by rfl) ?_;simp only [↓pre,simprocAttr,aA,sx,iI,aD,aC,hv.len',k1,k2,st,sT,sL,hx1,hx2,hst,sr];refine aL (h2) (by rfl) ?_;simp only [↓pre,simprocAttr,aA,sx,iI,aD,aC,hv.len',k1,k2,st,sT,sL,hx1,hx2,hst,sr];refine aL (h3) (by rfl) ?_;simp only [↓pre,simprocAttr,aA,sx,iI,aD,aC,hv.len',k1,k2,st,sT,sL,hx1,hx2,hst,sr];refine aL (c4) (by simp only [aA,aO, *]) ?_;simp only [↓pre,simprocAttr,aA,sx,iI,aD,aC,hv.len',k1,k2,st,sT,sL,hx1,hx2,hst,sr];(refine bM (c5) (by simp only [aA,aO, *]) (by intro k;rfl) ?_);simp only [↓pre,simprocAttr,aA,sx,iI,aD,aC,hv.len',k1,k2,st,sT,sL,hx1,hx2,hst,sr];(refine bM (c6) (by simp only [aA,aO, *]) (by intro k;simp only [sq,sr, *]) ?_);simp only [↓pre,simprocAttr,aA,sx,iI,aD,aC,hv.len',k1,k2,st,sT,sL,hx1,hx2,hst,sr];(refine bM (c7) (by simp only [aA,aO, *]) (by intro k;simp only [sq,sr, *]) ?_);simp only [↓pre,simprocAttr,aA,sx,iI,aD,aC,hv.len',k1,k2,st,sT,sL,hx1,hx2,hst,sr]
    exact ⟨1,hfin.out _⟩
   ·rw [show (if jQ w (dQ bs N)=true∧LB=bs then (0:Int) else 150)=150 from if_neg (fun h=>heq h.2),if_neg (by decide)]
    have hst:∀ x y,dP Tryz.prog .neq 9 x y (kG LB) (kG bs)=some (.val (.bool true)):=fun x y=>by rw [acr,decide_eq_false heq];rfl
    replace hok:=aB.mk hok
    replace heq:=aB.mk heq
    refine bJ follows Tryz.func189 (by unfold Tryz.f189;rfl) (by unfold Tryz.f189;simp) aD (by unfold Tryz.f189;simp) (by kernel_rfl) ?_;unfold Tryz.f189
    simp only [↓pre,simprocAttr,aA,sx,iI,aD,aC,hv.len',sr]
    refine aL (h1) (by rfl) ?_;simp only [↓pre,simprocAttr,aA,sx,iI,aD,aC,hv.len',k1,k2,st,sT,sL,hx1,hx2,hst,sr];refine aL (h2) (by rfl) ?_;simp only [↓pre,simprocAttr,aA,sx,iI,aD,aC,hv.len',k1,k2,st,sT,sL,hx1,hx2,hst,sr];refine aL (h3) (by rfl) ?_;simp only [↓pre,simprocAttr,aA,sx,iI,aD,aC,hv.len',k1,k2,st,sT,sL,hx1,hx2,hst,sr];refine aL (c4) (by simp only [aA,aO, *]) ?_;simp only [↓pre,simprocAttr,aA,sx,iI,aD,aC,hv.len',k1,k2,st,sT,sL,hx1,hx2,hst,sr];(refine bM (c5) (by simp only [aA,aO, *]) (by intro k;rfl) ?_);simp only [↓pre,simprocAttr,aA,sx,iI,aD,aC,hv.len',k1,k2,st,sT,sL,hx1,hx2,hst,sr];(refine bM (c6) (by simp only [aA,aO, *]) (by intro k;simp only [sq,sr, *]) ?_);simp only [↓pre,simprocAttr,aA,sx,iI,aD,aC,hv.len',k1,k2,st,sT,sL,hx1,hx2,hst,sr];(refine bM (c7) (by simp only [aA,aO, *]) (by intro k;simp only [sq,sr, *]) ?_);simp only [↓pre,simprocAttr,aA,sx,iI,aD,aC,hv.len',k1,k2,st,sT,sL,hx1,hx2,hst,sr]
    exact ⟨1,hf.out _⟩
  ·have hok2:=Bool.not_eq_true _ ▸ hok
   rw [show (if jQ w (dQ bs N)=true∧LB=bs then (0:Int) else 150)=150 from if_neg (fun h=>hok h.1),if_neg (by decide)]
   rw [hok2] at c5
   replace hok:=aB.mk hok
   replace hok2:=aB.mk hok2
   clear c6
   refine bJ follows Tryz.func189 (by unfold Tryz.f189;rfl) (by unfold Tryz.f189;simp) aD (by unfold Tryz.f189;simp) (by kernel_rfl) ?_;unfold Tryz.f189
   simp only [↓pre,simprocAttr,aA,sx,iI,aD,aC,hv.len',sr]
   refine aL (h1) (by rfl) ?_;simp only [↓pre,simprocAttr,aA,sx,iI,aD,aC,hv.len',k1,k2,st,sr];refine aL (h2) (by rfl) ?_;simp only [↓pre,simprocAttr,aA,sx,iI,aD,aC,hv.len',k1,k2,st,sr];refine aL (h3) (by rfl) ?_;simp only [↓pre,simprocAttr,aA,sx,iI,aD,aC,hv.len',k1,k2,st,sr];refine aL (c4) (by simp only [aA,aO, *]) ?_;simp only [↓pre,simprocAttr,aA,sx,iI,aD,aC,hv.len',k1,k2,st,sr];(refine bM (c5) (by simp only [aA,aO, *]) (by intro k;rfl) ?_);simp only [↓pre,simprocAttr,aA,sx,iI,aD,aC,hv.len',k1,k2,st,sr]
   exact ⟨1,hf.out _⟩
def jS:Nat→Bool:=fun d=>d != 4
theorem anw (k r c w:Int) (v:AV) (ps:List bN) (cells:List AV) (hv:fQ v ps cells):aY Tryz.prog 39 [aA k r c w,v] ⟨pW k r c w ps,[]⟩:=by
 refine dY ?_
 have h1:=aqG k r c w v ps cells hv
 have hvc:=tV hv.rd
 have hvo:=tW hv.rd
 have f1:=cA hv.rd
 have q1:=bP hv.rd
 have hp:=hv.rd.plain
 have hz:gK k r c w ps≠0→∀ m,fzT 0 m (.tup [.agg [.val (.int .i64 0),.val (.int .i64 0),.val (.slice none 0 0)],.val (.int .i64 0),.val (.int .i64 (gK k r c w ps))])=some (pW k r c w ps):=fun h m=>by
  unfold pW
  rw [if_neg h]
  exact y6 (fun x hx=>by
   simp only [List.mem_cons,List.not_mem_nil,or_false] at hx
   rcases hx with rfl | rfl | rfl
   ·exact sY fun c hc=>by
     simp only [List.mem_cons,List.not_mem_nil,or_false] at hc
     rcases hc with rfl | rfl | rfl <;> exact bU _
   ·exact bU _
   ·exact bU _) 0 m
 by_cases hc:eD k r c w ps=0
 ·obtain ⟨hm,hr⟩:=amG hc
  have hE:gK k r c w ps=if gA k r c w ps=0 then 5 else if iL k r c w ps 2 (gA k r c w ps) < k.toNat then 5 else nE k r c w (eH k r c w ps):=by unfold gK;rw [if_pos hc]
  have h0:=arB k r c w v ps cells hv hc
  rw [hc] at h1
  rw [show (jF k r c w ps).getD 0 0=gA k r c w ps from rfl,show (jF k r c w ps).getD 1 0=amF k r c w ps from rfl] at h0
  generalize amF k r c w ps=RU at *
  have hver:=amH hc
  have hrd:=agV k r c w 2 (gA k r c w ps) v ps cells hv hm hr
  have hcv:gK k r c w ps=0→pW k r c w ps = .tup [kL (b6 (eH k r c w ps)) (dK (eH k r c w ps)) (cE (eH k r c w ps)),aE (gA k r c w ps),aE 0]:=fun h=>by unfold pW;rw [if_pos h]
  have hdl:=amI (ps:=ps) hm
  have hcD:eH k r c w ps=lP k r c w ps 2 (gA k r c w ps) k.toNat:=rfl
  unfold pO at hrd
  rw [←hcD] at hrd
  clear hcD
  generalize gA k r c w ps=W at *
  generalize eH k r c w ps=D at *
  by_cases hW:W=0
  ·subst hW
   rw [if_pos rfl] at hE
   have hz:=hz (by rw [hE];decide)
   rw [hE] at hz
   replace hz:=aB.mk hz
   replace hE:=aB.mk hE
   clear hrd hver hcv
   refine bJ follows Tryz.func39 (by unfold Tryz.f39;rfl) (by unfold Tryz.f39;simp) jS (by unfold Tryz.f39;simp) (by kernel_rfl) ?_;unfold Tryz.f39
   simp only [↓pre,simprocAttr,aA,sx,l5,jS,bne,aC,bG,aJ,aK,aF,aG,aW,f1,q1,Nat.one_ne_zero,Nat.zero_ne_one,↓hvc,↓hvo,sr]
   refine aL (h1) (by simp only [aA,aO, *]) ?_;simp only [↓pre,simprocAttr,aA,sx,l5,jS,bne,aC,bG,aJ,aK,aF,aG,aW,f1,q1,Nat.one_ne_zero,Nat.zero_ne_one,↓hvc,↓hvo,sr];refine aL (h0) (by simp only [aA,aO, *]) ?_;simp only [↓pre,simprocAttr,aA,sx,l5,jS,bne,aC,bG,aJ,aK,aF,aG,aW,f1,q1,Nat.one_ne_zero,Nat.zero_ne_one,↓hvc,↓hvo,sr]
   exact ⟨0,hz.out _⟩
  ·rw [if_neg hW] at hE
   clear hver
   by_cases hlt:iL k r c w ps 2 W < k.toNat
   ·rw [if_pos hlt] at hE hrd
    have hz:=hz (by rw [hE];decide)
    rw [hE] at hz
    replace hz:=aB.mk hz
    replace hE:=aB.mk hE
    clear hcv
    simp only [aP] at hrd
    refine bJ follows Tryz.func39 (by unfold Tryz.f39;rfl) (by unfold Tryz.f39;simp) jS (by unfold Tryz.f39;simp) (by kernel_rfl) ?_;unfold Tryz.f39
    simp only [↓pre,simprocAttr,aA,sx,l5,jS,bne,aC,bG,aJ,aK,aF,aG,aW,f1,q1,Nat.one_ne_zero,Nat.zero_ne_one,↓hvc,↓hvo,sr]
    refine aL (h1) (by simp only [aA,aO, *]) ?_;simp only [↓pre,simprocAttr,aA,sx,l5,jS,bne,aC,bG,aJ,aK,aF,aG,aW,f1,q1,Nat.one_ne_zero,Nat.zero_ne_one,↓hvc,↓hvo,hW,sr];refine aL (h0) (by simp only [aA,aO, *]) ?_;simp only [↓pre,simprocAttr,aA,sx,l5,jS,bne,aC,bG,aJ,aK,aF,aG,aW,f1,q1,Nat.one_ne_zero,Nat.zero_ne_one,↓hvc,↓hvo,hW,sr];refine aL (hrd) (by simp only [aA,aO, *]) ?_;simp only [↓pre,simprocAttr,aA,sx,l5,jS,bne,aC,bG,aJ,aK,aF,aG,aW,f1,q1,Nat.one_ne_zero,Nat.zero_ne_one,↓hvc,↓hvo,hW,sr]
    exact ⟨0,hz.out _⟩
   ·rw [if_neg hlt] at hE hrd
    have hpa:=aui k r c w hm (bE (k.toNat*c.toNat) (aQ D)) D [] (agN D _ hdl) (by rw [hdl];unfold wI;have:=jE.1 hm;rw [Int.natCast_mul,Int.toNat_of_nonneg (by omega),Int.toNat_of_nonneg (by omega)])
    unfold rS at hpa
    have pt:=(dH (k.toNat*c.toNat) (aQ D)).plain
    rw [←hE] at hpa
    replace hlt:=aB.mk hlt
    by_cases he:gK k r c w ps=0
    ·rw [he,if_pos rfl] at hpa
     have hcv:=hcv he
     have hf:=fun m=>y6 (fun x (hx:x∈[kL (b6 D) (dK D) (cE D),aE W,aE 0])=>by
      simp only [List.mem_cons,List.not_mem_nil,or_false] at hx
      rcases hx with rfl | rfl | rfl
      ·exact aeh _ _ _
      ·exact bU _
      ·exact bU _) 0 m
     rw [←hcv] at hf
     unfold kL at hpa
     rw [hcv] at hf
     unfold kL at hf
     rw [hcv]
     unfold kL
     replace hcv:=aB.mk hcv
     replace hE:=aB.mk hE
     replace hz:=aB.mk hz
     generalize b6 D=pl at *
     generalize dK D=pd at *
     generalize cE D=pr at *
     have hTRf:bE pr.length (bW pr) = .val (.slice none 0 0)∨bE pr.length (bW pr) = .tree pr.length pr.length (bW pr) false:=by unfold bE;split;exact .inl rfl;exact .inr rfl
     rcases hTRf with hT | hT
     all_goals rw [hT] at hpa hf ⊢
     all_goals replace hT:=aB.mk hT
     all_goals replace hf:=aB.mk hf
     all_goals (
      refine bJ follows Tryz.func39 (by unfold Tryz.f39;rfl) (by unfold Tryz.f39;simp) jS (by unfold Tryz.f39;simp) (by kernel_rfl) ?_;unfold Tryz.f39
      simp only [↓pre,simprocAttr,aA,sx,l5,jS,bne,aC,bG,aJ,aK,aF,aG,aW,f1,q1,Nat.one_ne_zero,Nat.zero_ne_one,↓hvc,↓hvo,sr]
      refine aL (h1) (by simp only [aA,aO, *]) ?_;simp only [↓pre,simprocAttr,aA,sx,l5,jS,bne,aC,bG,aJ,aK,aF,aG,aW,f1,q1,Nat.one_ne_zero,Nat.zero_ne_one,↓hvc,↓hvo,hW,sr];refine aL (h0) (by simp only [aA,aO, *]) ?_;simp only [↓pre,simprocAttr,aA,sx,l5,jS,bne,aC,bG,aJ,aK,aF,aG,aW,f1,q1,Nat.one_ne_zero,Nat.zero_ne_one,↓hvc,↓hvo,hW,sr];refine aL (hrd) (by simp only [aA,aO, *]) ?_;simp only [↓pre,simprocAttr,aA,sx,l5,jS,bne,aC,bG,aJ,aK,aF,aG,aW,f1,q1,Nat.one_ne_zero,Nat.zero_ne_one,↓hvc,↓hvo,hW,sr];refine aL (hpa) (by simp only [aA,aO, *]) ?_;simp only [↓pre,simprocAttr,aA,sx,l5,jS,bne,aC,bG,aJ,aK,aF,aG,aW,f1,q1,Nat.one_ne_zero,Nat.zero_ne_one,↓hvc,↓hvo,hW,sr]
      exact ⟨0,hf.out _⟩
     )
    ·rw [if_neg he] at hpa
     have hz:=hz he
     replace hz:=aB.mk hz
     replace hE:=aB.mk hE
     replace hcv:=aB.mk hcv
     generalize gK k r c w ps=CE at *
     unfold nQ aP at hpa
     refine bJ follows Tryz.func39 (by unfold Tryz.f39;rfl) (by unfold Tryz.f39;simp) jS (by unfold Tryz.f39;simp) (by kernel_rfl) ?_;unfold Tryz.f39
     simp only [↓pre,simprocAttr,aA,sx,l5,jS,bne,aC,bG,aJ,aK,aF,aG,aW,f1,q1,Nat.one_ne_zero,Nat.zero_ne_one,↓hvc,↓hvo,sr]
     refine aL (h1) (by simp only [aA,aO, *]) ?_;simp only [↓pre,simprocAttr,aA,sx,l5,jS,bne,aC,bG,aJ,aK,aF,aG,aW,f1,q1,Nat.one_ne_zero,Nat.zero_ne_one,↓hvc,↓hvo,hW,he,sr];refine aL (h0) (by simp only [aA,aO, *]) ?_;simp only [↓pre,simprocAttr,aA,sx,l5,jS,bne,aC,bG,aJ,aK,aF,aG,aW,f1,q1,Nat.one_ne_zero,Nat.zero_ne_one,↓hvc,↓hvo,hW,he,sr];refine aL (hrd) (by simp only [aA,aO, *]) ?_;simp only [↓pre,simprocAttr,aA,sx,l5,jS,bne,aC,bG,aJ,aK,aF,aG,aW,f1,q1,Nat.one_ne_zero,Nat.zero_ne_one,↓hvc,↓hvo,hW,he,sr];refine aL (hpa) (by simp only [aA,aO, *]) ?_;simp only [↓pre,simprocAttr,aA,sx,l5,jS,bne,aC,bG,aJ,aK,aF,aG,aW,f1,q1,Nat.one_ne_zero,Nat.zero_ne_one,↓hvc,↓hvo,hW,he,sr]
     exact ⟨0,hz.out _⟩
 ·have hE:gK k r c w ps=eD k r c w ps:=by unfold gK;rw [if_neg hc]
  have hz:=hz (by rw [hE];exact hc)
  rw [hE] at hz
  replace hz:=aB.mk hz
  replace hE:=aB.mk hE
  refine bJ follows Tryz.func39 (by unfold Tryz.f39;rfl) (by unfold Tryz.f39;simp) jS (by unfold Tryz.f39;simp) (by kernel_rfl) ?_;unfold Tryz.f39
  simp only [↓pre,simprocAttr,aA,sx,l5,jS,bne,aC,bG,aJ,aK,aF,aG,aW,f1,q1,Nat.one_ne_zero,Nat.zero_ne_one,↓hvc,↓hvo,sr]
  refine aL (h1) (by simp only [aA,aO, *]) ?_;simp only [↓pre,simprocAttr,aA,sx,l5,jS,bne,aC,bG,aJ,aK,aF,aG,aW,f1,q1,Nat.one_ne_zero,Nat.zero_ne_one,↓hvc,↓hvo,hc,sr]
  exact ⟨0,hz.out _⟩
theorem auk (k r c w:Int) (v:AV) (L:List (List UInt8)) (cells:List AV) (hv:fT v L cells):aY Tryz.prog 122 [dD k r c w v] ⟨aE (iU k r c w L),[]⟩:=by
 have hp:=hv.rd.plain
 have hf:=cA hv.rd
 have ho:=bP hv.rd
 have hd:=aaB k r c w
 unfold iU dD
 cases hm:bL k r c w with
 | false =>
  rw [hm] at hd
  simp only [Bool.false_eq_true,if_false]
  refine bB follows Tryz.func122 (by unfold Tryz.f122;rfl) (by unfold Tryz.f122;simp) aD (by unfold Tryz.f122;simp) (by kernel_rfl) ?_;unfold Tryz.f122
  simp only [↓pre,simprocAttr,aA,sx,pC,aD,aC,hf,ho]
  refine aL (hd) (by rfl) ?_;simp only [↓pre,simprocAttr,aA,sx,pC,aD,aC,bC,dC,cS]
 | true =>
  rw [hm] at hd
  simp only [if_true]
  have hmn:=gF hm
  have hb:=agO hm
  have hn6:=tP k r c w hm
  have hs:=aaF k r c w hm
  have w1:IntKind.i64.wrap ((k+r)*w)=(k+r)*w:=dU (by omega) (by omega)
  have w2:IntKind.i64.wrap ((k+r)*w*2)=(k+r)*w*2:=dU (by omega) (by omega)
  by_cases hl:(L.length:Int)=(k+r)*w*2
  ·generalize hres:(if rT k r c w L=true then (0:Int) else 90)=E
   have hno:∀ b:List UInt8,b∈L→eO k r c b.length=false→E=90:=fun b hb h=>by
    rw [←hres,if_neg]
    intro h2
    unfold rT at h2
    rw [Bool.and_eq_true,List.all_eq_true] at h2
    rw [h2.2 b hb] at h
    cases h
   have hyes:(∀ b∈L,eO k r c b.length=true)→E=0:=fun h=>by
    rw [←hres,if_pos]
    unfold rT
    rw [decide_eq_true hl,Bool.true_and,List.all_eq_true]
    exact h
   have hln:∀ n:Nat,eO k r c n=(decide ((n:Int)=0) || decide ((n:Int)=dV k r c)):=fun _=>rfl
   obtain ⟨N,hN⟩:∃ N:Nat,L.length=N:=⟨_,rfl⟩
   have hN2:N≤8192:=by omega
   replace hmn:=aB.mk hmn
   replace hb:=aB.mk hb
   replace hres:=aB.mk hres
   replace hno:=aB.mk hno
   replace hyes:=aB.mk hyes
   replace hN:=aB.mk hN
   have hN':=hN.out
   refine bB follows Tryz.func122 (by unfold Tryz.f122;rfl) (by unfold Tryz.f122;simp) aD (by unfold Tryz.f122;simp) (by kernel_rfl) ?_;unfold Tryz.f122
   simp only [↓pre,simprocAttr,aA,sx,pC,aD,aC,aI,hf,ho,hv.rd.len',w1,w2,sr]
   refine aL (hd) (by rfl) ?_;simp only [↓pre,simprocAttr,aA,sx,pC,aD,aC,aI,hf,ho,hv.rd.len',w1,w2,hl,sr];(refine bM (hn6) (by rfl) (by intro k;rfl) ?_);simp only [↓pre,simprocAttr,aA,sx,pC,aD,aC,aI,hf,ho,hv.rd.len',w1,w2,hl,sr]
   rw [b7]
   refine b8 (fun q e m=>∃ i,q+i=N∧e 1 = .tptr 0 [aE k,aE r,aE c,aE w,v]∧e 3=aE (i:Nat)∧aB (∀ j b,j < i→L[j]? = some b→eO k r c b.length=true)) N ⟨0,by omega,rfl,rfl,⟨fun j b h=>by omega⟩⟩ ?_
   rintro q e m ⟨i,hq,e1,e3,hJ⟩
   replace hq:=aB.mk hq
   by_cases hlt:i < N
   ·have hlt':((i:Nat):Int) < (k+r)*w*2:=by omega
    have wi:=cF (n:=i) (by omega)
    obtain ⟨b,hbi⟩:∃ b,L[i]? = some b:=⟨_,List.getElem?_eq_getElem (by omega)⟩
    obtain ⟨a,x,ha,hra⟩:=hv.at_ i b hbi
    have hil:i < L.length:=by omega
    have fa:=cA hra
    have oa:=bP hra
    have step:eO k r c b.length=true→∀ j b',j < i+1→L[j]? = some b'→eO k r c b'.length=true:=fun h j b' hj hb'=>by
     by_cases hji:j=i
     ·subst hji
      rw [hbi] at hb'
      cases hb'
      exact h
     ·exact hJ.out j b' (by omega) hb'
    replace step:=aB.mk step
    by_cases h1:(b.length:Int)=0
    ·simp only [↓pre,simprocAttr,aA,sx,pC,aD,aC,aI,hf,ho,hv.rd.len',w1,w2,e1,e3,hl,hlt',hv.rd.addr',hil,ha,oa,hra.len',h1,wi,sr]
     exact ⟨q - 1,by have:=hq.out;omega,i+1,by have:=hq.out;omega,rfl,⟨step.out (by rw [hln,decide_eq_true h1];rfl)⟩⟩
    ·by_cases h2:(b.length:Int)=dV k r c
     ·have hz:¬ dV k r c=0:=fun h=>h1 (h2.trans h)
      simp only [↓pre,simprocAttr,aA,sx,pC,aD,aC,aI,hf,ho,hv.rd.len',w1,w2,e1,e3,hl,hlt',hv.rd.addr',hil,ha,oa,hra.len',h2,hz,sr]
      (refine bM (hs) (by rfl) (by intro k;rfl) ?_);simp only [↓pre,simprocAttr,aA,sx,pC,aD,aC,aI,hf,ho,hv.rd.len',w1,w2,e1,e3,wi,sr]
      exact ⟨q - 1,by have:=hq.out;omega,i+1,by have:=hq.out;omega,rfl,⟨step.out (by rw [hln,decide_eq_true h2,Bool.or_true])⟩⟩
     ·have hE:=hno.out b (List.mem_of_getElem? hbi) (by rw [hln,decide_eq_false h1,decide_eq_false h2];rfl)
      subst hE
      simp only [↓pre,simprocAttr,aA,sx,pC,aD,aC,aI,hf,ho,hv.rd.len',w1,w2,e1,e3,hl,hlt',hv.rd.addr',hil,ha,oa,hra.len',h1,h2,sr]
      (refine bM (hs) (by rfl) (by intro k;rfl) ?_);simp only [↓pre,simprocAttr,aA,sx,pC,aD,aC,aI,hf,ho,hv.rd.len',w1,w2,e1,e3,h2,sr]
   ·have hlt':¬ ((i:Nat):Int) < (k+r)*w*2:=by omega
    have hE:=hyes.out fun b hb=>by
     obtain ⟨j,hj⟩:=List.getElem?_of_mem hb
     have:=(List.getElem?_eq_some_iff.1 hj).1
     exact hJ.out j b (by omega) hj
    subst hE
    simp only [↓pre,simprocAttr,aA,sx,pC,aD,aC,aI,hf,ho,hv.rd.len',w1,w2,e1,e3,hl,hlt',sr]
  ·have hB:rT k r c w L=false:=by unfold rT;rw [decide_eq_false hl];rfl
   rw [hB,if_neg (by decide)]
   replace hmn:=aB.mk hmn
   replace hb:=aB.mk hb
   refine bB follows Tryz.func122 (by unfold Tryz.f122;rfl) (by unfold Tryz.f122;simp) aD (by unfold Tryz.f122;simp) (by kernel_rfl) ?_;unfold Tryz.f122
   simp only [↓pre,simprocAttr,aA,sx,pC,aD,aC,aI,hf,ho,hv.rd.len',w1,w2,sr]
   refine aL (hd) (by rfl) ?_;simp only [↓pre,simprocAttr,aA,sx,pC,aD,aC,aI,hf,ho,hv.rd.len',w1,w2,hl,sr];(refine bM (hn6) (by rfl) (by intro k;rfl) ?_);simp only [↓pre,simprocAttr,aA,sx,pC,aD,aC,aI,hf,ho,hv.rd.len',w1,w2,hl,sr]
theorem aul (k r c w:Int) (hm:bL k r c w=true) (d ro s W:Nat) (hW:w=(W:Int)) (hd:((d:Nat):Int) < k+r) (hro:ro < W) (hs:s≤1):aY Tryz.prog 181 [aA k r c w,aE (d:Nat),aE (ro:Nat),aE (s:Nat)] ⟨aE (((d*W+ro)*2+s:Nat):Int),[]⟩:=by
 have hn:=tP k r c w hm
 have hmn:=gF hm
 have hml:=jE.1 hm
 have hdW:d*W≤16*256:=Nat.mul_le_mul (by omega) (by omega)
 have k1:¬ ((d:Nat):Int) < 0:=by omega
 have k2:¬ k+r≤((d:Nat):Int):=by omega
 have k3:¬ ((ro:Nat):Int) < 0:=by omega
 have k4:¬ w≤((ro:Nat):Int):=by omega
 have k5:¬ ((s:Nat):Int) < 0:=by omega
 have k6:¬ (1:Int) < ((s:Nat):Int):=by omega
 have w1:IntKind.i64.wrap (((d:Nat):Int)*w)=((d*W:Nat):Int):=by rw [hW,show ((d:Nat):Int)*(W:Int)=((d*W:Nat):Int) by simp];exact dE (by omega)
 have w2:IntKind.i64.wrap (((d*W:Nat):Int)+((ro:Nat):Int))=((d*W+ro:Nat):Int):=by rw [show ((d*W:Nat):Int)+(ro:Int)=((d*W+ro:Nat):Int) by simp];exact dE (by omega)
 have w3:IntKind.i64.wrap (((d*W+ro:Nat):Int)*2)=(((d*W+ro)*2:Nat):Int):=by rw [show ((d*W+ro:Nat):Int)*2=(((d*W+ro)*2:Nat):Int) by simp];exact dE (by omega)
 have w4:IntKind.i64.wrap ((((d*W+ro)*2:Nat):Int)+((s:Nat):Int))=(((d*W+ro)*2+s:Nat):Int):=by rw [show ((((d*W+ro)*2:Nat):Int)+((s:Nat):Int))=(((d*W+ro)*2+s:Nat):Int) by simp];exact dE (by omega)
 replace hmn:=aB.mk hmn
 replace hml:=aB.mk hml
 replace hW:=aB.mk hW
 refine bB follows Tryz.func181 (by unfold Tryz.f181;rfl) (by unfold Tryz.f181;simp) aD (by unfold Tryz.f181;simp) (by kernel_rfl) ?_;unfold Tryz.f181
 simp only [↓pre,simprocAttr,aA,sx,akC,aD,aC,k1,k2,k3,k4,k5,k6,w1,w2,w3,w4,sr]
 refine aL (hn) (by rfl) ?_;simp only [↓pre,simprocAttr,aA,sx,akC,aD,aC,k1,k2,k3,k4,k5,k6,w1,w2,w3,w4,sr]
def p6 (cells:List AV) (W ro n:Nat):List AV:=(List.range n).flatMap fun i=>[cells.getD ((i*W+ro)*2) aP,cells.getD ((i*W+ro)*2+1) aP]
theorem agZ (cells:List AV) (W ro n:Nat):p6 cells W ro (n+1)=p6 cells W ro n++[cells.getD ((n*W+ro)*2) aP,cells.getD ((n*W+ro)*2+1) aP]:=by
 unfold p6
 rw [List.range_succ,List.flatMap_append]
 rfl
theorem ag0 (cells:List AV) (W ro:Nat):∀ n,(p6 cells W ro n).length=n*2
 | 0=>rfl
 | n+1=>by rw [agZ,List.length_append,ag0 cells W ro n];simp;omega
theorem anx (cells:List AV) (W ro:Nat):∀ (n i:Nat),i < n→(p6 cells W ro n)[i*2]? = some (cells.getD ((i*W+ro)*2) aP)∧(p6 cells W ro n)[i*2+1]? = some (cells.getD ((i*W+ro)*2+1) aP)
 | n+1,i,h=>by
  have hl:=ag0 cells W ro n
  rw [agZ]
  by_cases e:i < n
  ·obtain ⟨h1,h2⟩:=anx cells W ro n i e
   exact ⟨by rw [List.getElem?_append_left (by omega)];exact h1,by rw [List.getElem?_append_left (by omega)];exact h2⟩
  ·obtain rfl:i=n:=by omega
   exact ⟨by rw [List.getElem?_append_right (by omega),hl,Nat.sub_self];rfl,by rw [List.getElem?_append_right (by omega),hl,show i*2+1 - i*2=1 by omega];rfl⟩
theorem aum {k r c w row:Int} {L:List (List UInt8)} (hR:eY k r c w L row=0):bL k r c w=true∧(∃ W ro N:Nat,w=(W:Int)∧row=(ro:Int)∧k+r=(N:Int)∧ro < W∧dM k r w L row=rU L W ro N∧(k+r).toNat=N∧∀ i,i < N→(i*W+ro)*2+2≤L.length):=by
 have hI:iU k r c w L=0:=by
  unfold eY at hR
  split at hR
  ·assumption
  ·assumption
 obtain ⟨hm,hl,hlen⟩:=acm hI
 have hmn:=gF hm
 have hml:=jE.1 hm
 have hrow:0≤row∧row < w:=by
  unfold eY at hR
  rw [if_pos hI] at hR
  split at hR
  ·omega
  ·omega
 obtain ⟨N,hN⟩:∃ N:Nat,k+r=(N:Int):=⟨(k+r).toNat,by omega⟩
 obtain ⟨W,hW⟩:∃ W:Nat,w=(W:Int):=⟨w.toNat,by omega⟩
 obtain ⟨ro,hro⟩:∃ ro:Nat,row=(ro:Int):=⟨row.toNat,by omega⟩
 refine ⟨hm,W,ro,N,hW,hro,hN,by omega, ?_,by omega,fun i hi=>amN hW hN (row:=ro) (by omega) hi hl⟩
 unfold dM
 rw [show (k+r).toNat=N by omega,show w.toNat=W by omega,show row.toNat=ro by omega]
theorem aa3 {v:AV} {L:List (List UInt8)} {cells:List AV} (hv:fT v L cells) {j:Nat} (hj:j < L.length):∃ x,cells[j]? = some (cells.getD j aP)∧bD (cells.getD j aP) (L.getD j []).length (aQ (L.getD j [])++x):=by
 have hb:L[j]? = some (L.getD j []):=by rw [List.getD_eq_getElem?_getD,List.getElem?_eq_getElem hj];rfl
 obtain ⟨a,x,ha,hr⟩:=hv.at_ _ _ hb
 have:cells.getD j aP=a:=by rw [List.getD_eq_getElem?_getD,ha];rfl
 rw [this]
 exact ⟨x,ha,hr⟩
theorem aun {v:AV} {L:List (List UInt8)} {cells:List AV} (hv:fT v L cells) {W ro N:Nat} (hix:∀ i,i < N→(i*W+ro)*2+2≤L.length):fQ (bE N (p6 cells W ro N)) (rU L W ro N) (p6 cells W ro N):=⟨by rw [acl];exact dH _ _,fun i p hp=>by
 have hi:i < N:=by have:=(List.getElem?_eq_some_iff.1 hp).1;rw [acl] at this;exact this
 rw [atb hi] at hp
 cases hp
 obtain ⟨h1,h2⟩:=anx cells W ro N i hi
 have:=hix i hi
 obtain ⟨x,_,hx⟩:=aa3 hv (j:=(i*W+ro)*2) (by omega)
 obtain ⟨y,_,hy⟩:=aa3 hv (j:=(i*W+ro)*2+1) (by omega)
 exact ⟨_,_,x,y,h1,h2,hx,hy⟩⟩
theorem aeu (k r c w row:Int) (v:AV) (L:List (List UInt8)) (cells:List AV) (hv:fT v L cells) (hR:eY k r c w L row=0):∃ rv cs,aY Tryz.prog 102 [dD k r c w v,aE row] ⟨rv,[]⟩∧fQ rv (dM k r w L row) cs:=by
 obtain ⟨hm,W,ro,N,hW,hro,hN,hrW,hrl,_,hix⟩:=aum hR
 refine ⟨bE N (p6 cells W ro N),p6 cells W ro N, ?_,by rw [hrl];exact aun hv hix⟩
 refine dY ?_
 have hp:=hv.rd.plain
 have hf:=cA hv.rd
 have ho:=bP hv.rd
 have hn6:=tP k r c w hm
 have hmn:=gF hm
 have hth:=fun i (hi:i < N)=>aul k r c w hm i ro 0 W hW (by omega) hrW (by omega)
 have hps:=agZ cells W ro
 have hpl:=ag0 cells W ro
 have hid:∀ x∈p6 cells W ro N,eG x:=fun x hx=>by
  unfold p6 at hx
  obtain ⟨i,hi,hx⟩:=List.mem_flatMap.1 hx
  have:=hix i (List.mem_range.1 hi)
  obtain ⟨_,_,h1⟩:=aa3 hv (j:=(i*W+ro)*2) (by omega)
  obtain ⟨_,_,h2⟩:=aa3 hv (j:=(i*W+ro)*2+1) (by omega)
  simp only [List.mem_cons,List.not_mem_nil,or_false] at hx
  rcases hx with rfl | rfl
  ·exact kK h1
  ·exact kK h2
 have hp0:p6 cells W ro 0=[]:=rfl
 rw [hN] at hn6
 subst hro
 generalize hRP:p6 cells W ro=RP at *
 unfold dD
 replace hmn:=aB.mk hmn
 replace hix:=aB.mk hix
 replace hps:=aB.mk hps
 replace hpl:=aB.mk hpl
 replace hth:=aB.mk hth
 replace hN:=aB.mk hN
 replace hW:=aB.mk hW
 replace hrl:=aB.mk hrl
 replace hid:=aB.mk hid
 replace hRP:=aB.mk hRP
 refine bJ follows Tryz.func102 (by unfold Tryz.f102;rfl) (by unfold Tryz.f102;simp) aD (by unfold Tryz.f102;simp) (by kernel_rfl) ?_;unfold Tryz.f102
 simp only [↓pre,simprocAttr,aA,sx,x8,aD,aC,aI,aM,hf,ho,sr]
 rw [b7]
 refine b8 (fun q e m=>∃ i lv,q+i=N∧e 1=aE (ro:Nat)∧e 2 = .tptr 0 [aE k,aE r,aE c,aE w,v]∧e 5=lv∧e 6=aE (i:Nat)∧aB (cH .var m 131 2 lv i (RP i))) N ⟨0,aP,by omega,rfl,rfl,rfl,rfl,⟨by rw [hp0];exact gT⟩⟩ ?_
 rintro q e m ⟨i,lv,hq,e1,e2,e5,e6,hJ⟩
 replace hq:=aB.mk hq
 by_cases hlt:i < N
 ·have hlt':((i:Nat):Int) < ((N:Nat):Int):=by omega
  have wi:=cF (n:=i) (by have:=hmn.out;have:=hN.out;omega)
  have hx:=hix.out i hlt
  have hT:=hth.out i hlt
  have hN16:N≤16:=by have:=hmn.out;have:=hN.out;omega
  have hWl:W≤256:=by have:=jE.1 hm;have:=hW.out;omega
  have hiW:i*W≤16*256:=Nat.mul_le_mul (by omega) hWl
  rw [Nat.add_zero] at hT
  have hps:=hps.out i
  obtain ⟨x0,ha0,ra0⟩:=aa3 hv (j:=(i*W+ro)*2) (by omega)
  obtain ⟨x1,ha1,ra1⟩:=aa3 hv (j:=(i*W+ro)*2+1) (by omega)
  have wp:IntKind.i64.wrap ((((i*W+ro)*2:Nat):Int)+1)=(((i*W+ro)*2+1:Nat):Int):=cF (by omega)
  have l0:(i*W+ro)*2 < L.length:=by omega
  have l1:(i*W+ro)*2+1 < L.length:=by omega
  generalize hat:(i*W+ro)*2=at_ at *
  generalize cells.getD at_ aP=T0 at *
  generalize cells.getD (at_+1) aP=T1 at *
  have o0:=bP ra0
  have o1:=bP ra1
  have k0:=tW ra0
  have k1:=tW ra1
  have c0:=tV ra0
  have c1:=tV ra1
  have hbt:∀ m,fV Tryz.prog m 24 1 [(0,.agg [T0,T1])]=some ⟨.tree 1 1 [T0,T1] true,m,none⟩:=fun m=>xZ (el:=131) (sz:=2) (z:=[.val (.slice none 0 0),.val (.slice none 0 0)]) (by kernel_rfl) (by kernel_rfl) (by kernel_rfl) rfl (by simp [jH,ack ra0,ack ra1]) (by decide)
  simp only [aE] at hT
  replace hps:=aB.mk hps
  replace hat:=aB.mk hat
  replace hx:=aB.mk hx
  simp only [↓pre,simprocAttr,aA,sx,x8,aD,aC,aI,aM,hf,ho,e1,e2,e5,e6,hv.rd.addr',l0,l1,ha0,ha1,wp,o0,o1,↓k0,↓k1,↓c0,↓c1,hbt,Nat.zero_mul,Nat.one_mul,sr]
  refine aL (hn6) (by rfl) ?_;simp only [↓pre,simprocAttr,aA,sx,x8,aD,aC,aI,aM,hf,ho,e1,e2,e5,e6,hv.rd.addr',l0,l1,ha0,ha1,wp,o0,o1,↓k0,↓k1,↓c0,↓c1,hbt,Nat.zero_mul,Nat.one_mul,hlt',sr];refine aL (hT) (by rfl) ?_;simp only [↓pre,simprocAttr,aA,sx,x8,aD,aC,aI,aM,hf,ho,e1,e2,e5,e6,hv.rd.addr',l0,l1,ha0,ha1,wp,o0,o1,↓k0,↓k1,↓c0,↓c1,hbt,Nat.zero_mul,Nat.one_mul,hlt',sr]
  refine qE (sz:=2) (y:=48) (zl:=[.slice none 0 0,.slice none 0 0]) (by kernel_rfl) hJ.out (by kernel_rfl) (by kernel_rfl) (by kernel_rfl) rfl abz rfl (by omega) (by omega) ?_
  intro lv' m' ho' hn'
  refine cU (by kernel_rfl) ?_
  simp only [↓pre,simprocAttr,aA,sx,x8,aD,aC,aI,aM,hf,ho,e1,e2,e6,wi,sr]
  refine ⟨q - 1,by have:=hq.out;omega,i+1,lv',by have:=hq.out;omega,rfl,rfl,⟨?_⟩⟩
  rw [hps.out]
  exact ho'
 ·have hlt':¬ ((i:Nat):Int) < ((N:Nat):Int):=by omega
  have hi:i=N:=by have:=hq.out;omega
  subst hi
  have hfin:=fun k=>ad3 hJ.out hid.out k
  replace hfin:=aB.mk hfin
  simp only [↓pre,simprocAttr,aA,sx,x8,aD,aC,aI,aM,hf,ho,e1,e2,e5,e6,sr]
  refine aL (hn6) (by rfl) ?_;simp only [↓pre,simprocAttr,aA,sx,x8,aD,aC,aI,aM,hf,ho,e1,e2,e5,e6,hlt',sr]
  exact ⟨1,hfin.out _⟩
theorem ag1 (k r c w row:Int) (v:AV) (L:List (List UInt8)) (cells:List AV) (hv:fT v L cells):aY Tryz.prog 101 [dD k r c w v,aE row] ⟨aE (eY k r c w L row),[]⟩:=by
 have hp:=hv.rd.plain
 have hf:=cA hv.rd
 have ho:=bP hv.rd
 have hck:=auk k r c w v L cells hv
 unfold eY
 unfold dD at hck ⊢
 by_cases hE:iU k r c w L=0
 ·rw [hE] at hck ⊢
  rw [if_pos rfl]
  clear hE
  by_cases h1:row < 0
  ·rw [if_pos (Or.inl h1)]
   refine bB follows Tryz.func101 (by unfold Tryz.f101;rfl) (by unfold Tryz.f101;simp) aD (by unfold Tryz.f101;simp) (by kernel_rfl) ?_;unfold Tryz.f101
   simp only [↓pre,simprocAttr,aA,sx,wB,aD,aC,hf,ho,sr]
   refine aL (hck) (by simp only [aA,aO, *]) ?_;simp only [↓pre,simprocAttr,aA,sx,wB,aD,aC,hf,ho,h1,sr]
  ·by_cases h2:w≤row
   ·rw [if_pos (Or.inr h2)]
    refine bB follows Tryz.func101 (by unfold Tryz.f101;rfl) (by unfold Tryz.f101;simp) aD (by unfold Tryz.f101;simp) (by kernel_rfl) ?_;unfold Tryz.f101
    simp only [↓pre,simprocAttr,aA,sx,wB,aD,aC,hf,ho,sr]
    refine aL (hck) (by simp only [aA,aO, *]) ?_;simp only [↓pre,simprocAttr,aA,sx,wB,aD,aC,hf,ho,h1,h2,sr]
   ·rw [if_neg (by omega)]
    refine bB follows Tryz.func101 (by unfold Tryz.f101;rfl) (by unfold Tryz.f101;simp) aD (by unfold Tryz.f101;simp) (by kernel_rfl) ?_;unfold Tryz.f101
    simp only [↓pre,simprocAttr,aA,sx,wB,aD,aC,hf,ho,sr]
    refine aL (hck) (by simp only [aA,aO, *]) ?_;simp only [↓pre,simprocAttr,aA,sx,wB,aD,aC,hf,ho,h1,h2,sr]
 ·rw [if_neg hE]
  refine bB follows Tryz.func101 (by unfold Tryz.f101;rfl) (by unfold Tryz.f101;simp) aD (by unfold Tryz.f101;simp) (by kernel_rfl) ?_;unfold Tryz.f101
  simp only [↓pre,simprocAttr,aA,sx,wB,aD,aC,hf,ho,sr]
  refine aL (hck) (by simp only [aA,aO, *]) ?_;simp only [↓pre,simprocAttr,aA,sx,wB,aD,aC,hf,ho,hE,sr]
def s9 (d0 d1 d2 ve lv sv:AV):AV := .agg [d0,d1,d2,ve,lv,sv]
def acw:AV:=s9 (aE 0) (aE 0) aP (aE 0) aP aP
def aev (k r c w:Int) (L:List (List UInt8)) (row:Int):AV:=if iM k r c w L row=0 then .tup [s9 (aE (b6 (cB k r c w L row))) (aE (dK (cB k r c w L row))) (s6 (cE (cB k r c w L row))) (aE (gA k r c w (dM k r w L row))) (s6 (kM k r c w L row)) (s6 (dS k r c w L row)),aE 0] else .tup [acw,aE (iM k r c w L row)]
theorem ag2 {a b c d e f:AV} {n:Int} (ha:eG a) (hb:eG b) (hc:eG c) (hd:eG d) (he:eG e) (hf:eG f):eG (.tup [.agg [a,b,c,d,e,f],.val (.int .i64 n)]):=gS (sY fun x hx=>by
 simp only [List.mem_cons,List.not_mem_nil,or_false] at hx
 rcases hx with rfl | rfl | rfl | rfl | rfl | rfl <;> assumption) (bU _)
theorem auo {a b d lv c LT:AV} {w n:Int} {m:aH} (ha:eG a) (hb:eG b) (hc:eG c) (hl:fzT 1 m lv=some LT):fzT 1 m (.tup [.agg [a,b,c,.val (.int .i64 w),c,lv],.val (.int .i64 n)])=some (.tup [.agg [a,b,c,.val (.int .i64 w),c,LT],.val (.int .i64 n)]):=by
 rw [kC,dT,abB,dT,ha,Option.bind_some,dT,hb,Option.bind_some,dT,hc,Option.bind_some,dT,fP,Option.bind_some,dT,hc,Option.bind_some,dT,hl,jC]
 simp [dT,jC,fP]
def gM:Nat→Bool:=fun d=>d != 4 && d != 6 && d != 9 && d != 64 && d != 71
set_option maxHeartbeats 2000000 in
theorem anz (k r c w row:Int) (v:AV) (L:List (List UInt8)) (cells:List AV) (hv:fT v L cells) (hR:eY k r c w L row=0):aY Tryz.prog 107 [dD k r c w v,aE row] ⟨aev k r c w L row,[]⟩:=by
 refine dY ?_
 have hp:=hv.rd.plain
 have hf:=cA hv.rd
 have ho:=bP hv.rd
 obtain ⟨hrb,hm⟩:=sZ hR
 have hE:iU k r c w L=0:=by
  unfold eY at hR
  split at hR
  ·assumption
  ·assumption
 obtain ⟨RV,rcs,hrw,hrv⟩:=aeu k r c w row v L cells hv hR
 have hcr:=anw k r c w _ _ _ hrv
 have hpr:=hrv.rd.plain
 have hsr:=cK hrv.rd
 unfold aev iM
 rw [if_pos hR]
 unfold kM dS cB s6
 generalize dM k r w L row=ps at *
 unfold pW at hcr
 unfold dD at hrw ⊢
 by_cases hC:gK k r c w ps=0
 ·rw [if_pos hC] at hcr ⊢
  have hD:=aen hC
  obtain ⟨hl0,hl1,hdep,hll,hlr⟩:=y8 hD
  obtain ⟨hoE,hdF,hlc⟩:=amY hD
  have hRr:=dH (cE (eH k r c w ps)).length (bW (cE (eH k r c w ps)))
  have hw:=gU hm
  have hdb:=wP hw.1 hw.2
  have hob:=adH k r c w (b6 (eH k r c w ps)) hm hl0 (acv hoE).2.2
  have hsO:oS k r c w (b6 (eH k r c w ps))=sI k c (b6 (eH k r c w ps)):=by unfold oS;rw [if_pos hoE]
  have hl6:=adG k r c w hm
  unfold kL at hcr
  generalize gA k r c w ps=W at *
  generalize dK (eH k r c w ps)=PD at *
  generalize b6 (eH k r c w ps)=PL at *
  generalize cE (eH k r c w ps)=PR at *
  have hfR:=cA hRr
  have hoL:=bP hRr
  have hsL:=cK hRr
  have hcL:=tV hRr
  have hkL:=tW hRr
  by_cases hd0:PD=0
  ·rw [if_pos hd0,if_pos rfl,if_pos hd0,if_pos hd0]
   rw [hd0] at hcr ⊢
   replace hd0:=aB.mk hd0
   have hfin:=fun m=>ag2 (a:=aE PL) (b:=aE 0) (c:=bE PR.length (bW PR)) (d:=aE W) (e:=aP) (f:=bE PR.length (bW PR)) (n:=0) (bU _) (bU _) (kK hRr) (bU _) (bU _) (kK hRr) 1 m
   replace hfin:=aB.mk hfin
   generalize bE PR.length (bW PR)=RT at *
   simp only [aE] at hcr hrw
   replace hD:=aB.mk hD
   replace hlr:=aB.mk hlr
   replace hdF:=aB.mk hdF
   replace hlc:=aB.mk hlc
   replace hrv:=aB.mk hrv
   replace hw:=aB.mk hw
   replace hdb:=aB.mk hdb
   replace hR:=aB.mk hR
   replace hsO:=aB.mk hsO
   replace hC:=aB.mk hC
   refine bJ follows Tryz.func107 (by unfold Tryz.f107;rfl) (by unfold Tryz.f107;simp) gM (by unfold Tryz.f107;simp) (by kernel_rfl) ?_;unfold Tryz.f107
   simp only [↓pre,simprocAttr,aA,sx,gZ,c8,gM,bne,aC,aJ,aK,aF,aG,bX,bO,aW,Nat.one_ne_zero,Nat.zero_ne_one,Nat.reduceEqDiff,hf,ho,aP,sr]
   (refine bM (hrw) (by simp only [aA,aO, *]) (by intro k;simp only [sq,sr, *]) ?_);simp only [↓pre,simprocAttr,aA,sx,gZ,c8,gM,bne,aC,aJ,aK,aF,aG,bX,bO,aW,Nat.one_ne_zero,Nat.zero_ne_one,Nat.reduceEqDiff,hf,ho,aP,hsr,hsL,hoL,hfR,↓hcL,↓hkL,sr];(refine bM (hcr) (by simp only [aA,aO, *]) (by intro k;simp only [sq,sr, *]) ?_);simp only [↓pre,simprocAttr,aA,sx,gZ,c8,gM,bne,aC,aJ,aK,aF,aG,bX,bO,aW,Nat.one_ne_zero,Nat.zero_ne_one,Nat.reduceEqDiff,hf,ho,aP,hsr,hsL,hoL,hfR,↓hcL,↓hkL,sr]
   refine mG (by kernel_rfl) ?_
   simp only [↓pre,simprocAttr,aA,sx,gZ,c8,gM,bne,aC,aJ,aK,aF,aG,bX,bO,aW,Nat.one_ne_zero,Nat.zero_ne_one,Nat.reduceEqDiff,hf,ho,aP,hsr,hsL,hoL,hfR,↓hcL,↓hkL,sr]
   refine cU (by kernel_rfl) ?_
   simp only [↓pre,simprocAttr,aA,sx,gZ,c8,gM,bne,aC,aJ,aK,aF,aG,bX,bO,aW,Nat.one_ne_zero,Nat.zero_ne_one,Nat.reduceEqDiff,hf,ho,aP,hsr,hsL,hoL,hfR,↓hcL,↓hkL,sr]
   exact ⟨1,hfin.out _⟩
  ·rw [if_neg hd0,if_neg hd0,if_neg hd0]
   have hPD:PD=1:=by omega
   rw [if_neg hd0] at hlc
   have hos:0≤oS k r c w PL∧oS k r c w PL≤40000:=by
    have:=aaD (a:=PL) (b:=wI k c) hl0 hl1 (by unfold wI;omega) (by unfold wI;omega)
    rw [hsO]
    unfold sI
    omega
   have hlb:=rF hw.1 hw.2
   have hlfb:5≤lI k c∧lI k c≤128:=hlb
   have hPRl:PR.length≤126:=by unfold dI at hll;omega
   have hwc:((k.toNat*c.toNat:Nat):Int)=wI k c:=by unfold wI;have:=jE.1 hm;rw [Int.natCast_mul,Int.toNat_of_nonneg (by omega),Int.toNat_of_nonneg (by omega)]
   have hlea:∀ (i:Nat) (x:b9),PR[i]? = some x→∃ rv cs,aY Tryz.prog 102 [dD k r c w v,aE x.1] ⟨rv,[]⟩∧fQ rv (dM k r w L x.1) cs∧aY Tryz.prog 116 [aA k r c w,rv,.val (.int .u8 1),aE x.2] ⟨pO k r c w (dM k r w L x.1) 1 x.2,[]⟩:=fun i x hx=>by
    have h1:=hlr x (List.mem_of_getElem? hx)
    have hR0:=aco (k:=k) (r:=r) (c:=c) hE h1.1
    obtain ⟨rv,cs,g1,g2⟩:=aeu k r c w x.1 v L cells hv hR0
    exact ⟨rv,cs,g1,g2,agV k r c w 1 x.2 rv _ cs g2 hm (sZ hR0).1⟩
   have hrefs:=fun (x:b9) n=>auj k r c w hm (bE (k.toNat*c.toNat) (aQ (jA k r c w L x))) (jA k r c w L x) [] (agN _ _ (vA _ _ _ _ _ _ _ _)) (by unfold jA;rw [vA];exact hwc) n
   have hdr:=fun (x:b9)=>dH (k.toNat*c.toNat) (aQ (jA k r c w L x))
   unfold pO at hlea
   have hcells:=fun i x hi=>vB PR [] i x hi
   rw [List.append_nil] at hcells
   unfold dD at hlea
   have hlenRT:=fun t ht=>hRr.len' (P:=Tryz.prog) (t:=t) ht
   have haddRT:=fun t j ht=>hRr.addr' (P:=Tryz.prog) (t:=t) (k:=j) ht
   generalize hRT:bE PR.length (bW PR)=RT at *
   generalize hEE:pX k r c w L PR (oS k r c w PL)=EE at *
   generalize hRR:nF k r c w L PR (oS k r c w PL)=RR at *
   rw [←hsO] at hob
   generalize oS k r c w PL=OS at *
   generalize hLI:lI k c=LI at *
   simp only [aE] at hcr hrw
   have hid:=kK hRr
   generalize hRES:(if EE=0 then AV.tup [s9 (aE PL) (aE PD) RT (aE W) RT (bE RR.length (bW RR)),aE 0] else AV.tup [acw,aE EE])=RES
   replace hRES:=aB.mk hRES
   replace hPD:=aB.mk hPD
   replace hEE:=aB.mk hEE
   replace hRR:=aB.mk hRR
   replace hRT:=aB.mk hRT
   replace hLI:=aB.mk hLI
   replace hos:=aB.mk hos
   replace hlr:=aB.mk hlr
   replace hlea:=aB.mk hlea
   replace hrefs:=aB.mk hrefs
   replace hdr:=aB.mk hdr
   replace hcells:=aB.mk hcells
   replace hdF:=aB.mk hdF
   replace hlc:=aB.mk hlc
   replace hrv:=aB.mk hrv
   replace hlfb:=aB.mk hlfb
   replace hlb:=aB.mk hlb
   replace hw:=aB.mk hw
   replace hdb:=aB.mk hdb
   replace hD:=aB.mk hD
   replace hR:=aB.mk hR
   replace hC:=aB.mk hC
   replace hsO:=aB.mk hsO
   replace hwc:=aB.mk hwc
   replace hid:=aB.mk hid
   replace hl0:=aB.mk hl0
   replace hl1:=aB.mk hl1
   replace hPRl:=aB.mk hPRl
   refine bJ follows Tryz.func107 (by unfold Tryz.f107;rfl) (by unfold Tryz.f107;simp) gM (by unfold Tryz.f107;simp) (by kernel_rfl) ?_;unfold Tryz.f107
   simp only [↓pre,simprocAttr,aA,sx,gZ,c8,gM,bne,aC,aJ,aK,aF,aG,bX,bO,aW,Nat.one_ne_zero,Nat.zero_ne_one,Nat.reduceEqDiff,hf,ho,aP,sr]
   (refine bM (hrw) (by simp only [aA,aO, *]) (by intro k;simp only [sq,sr, *]) ?_);simp only [↓pre,simprocAttr,aA,sx,gZ,c8,gM,bne,aC,aJ,aK,aF,aG,bX,bO,aW,Nat.one_ne_zero,Nat.zero_ne_one,Nat.reduceEqDiff,hf,ho,aP,hsr,hsL,hoL,hfR,↓hcL,↓hkL,sr];(refine bM (hcr) (by simp only [aA,aO, *]) (by intro k;simp only [sq,sr, *]) ?_);simp only [↓pre,simprocAttr,aA,sx,gZ,c8,gM,bne,aC,aJ,aK,aF,aG,bX,bO,aW,Nat.one_ne_zero,Nat.zero_ne_one,Nat.reduceEqDiff,hf,ho,aP,hsr,hsL,hoL,hfR,↓hcL,↓hkL,sr]
   refine mG (by kernel_rfl) ?_
   simp only [↓pre,simprocAttr,aA,sx,gZ,c8,gM,bne,aC,aJ,aK,aF,aG,bX,bO,aW,Nat.one_ne_zero,Nat.zero_ne_one,Nat.reduceEqDiff,hf,ho,aP,hsr,hsL,hoL,hfR,↓hcL,↓hkL,sr]
   refine cU (by kernel_rfl) ?_
   simp only [↓pre,simprocAttr,aA,sx,gZ,c8,gM,bne,aC,aJ,aK,aF,aG,bX,bO,aW,Nat.one_ne_zero,Nat.zero_ne_one,Nat.reduceEqDiff,hf,ho,aP,hsr,hsL,hoL,hfR,↓hcL,↓hkL,hd0,sr]
   refine aL (hob) (by rfl) ?_;simp only [↓pre,simprocAttr,aA,sx,gZ,c8,gM,bne,aC,aJ,aK,aF,aG,bX,bO,aW,Nat.one_ne_zero,Nat.zero_ne_one,Nat.reduceEqDiff,hf,ho,aP,hsr,hsL,hoL,hfR,↓hcL,↓hkL,sr]
   rw [b7]
   refine b8 (fun q e m=>∃ i left acc lv,q+i=PR.length∧e 2 = .tptr 0 [aE k,aE r,aE c,aE w,v]∧e 4 = .ptr 0 0∧e 6 = .ptr 1 0∧e 9 = .ptr 2 0∧e 10=aE left∧e 12=aE (i:Nat)∧aB ((0≤left∧left≤40000)∧m.at_ 0=some ⟨[aE 0,aE 0,aP,aE 0,aP,aP],92,.var,true⟩∧m.at_ 1=some ⟨[aE PL,aE PD,RT],33,.var,true⟩∧m.at_ 2=some ⟨[aE PL,aE PD,RT,aE W,RT,lv],92,.var,true⟩∧2 < m.next∧eM m 67 2 lv acc.length (bW acc)∧(∀ j,cP lv=some j→2 < j)∧pX k r c w L (PR.drop i) left=EE∧acc++nF k r c w L (PR.drop i) left=RR∧acc.length≤i*128)) PR.length ⟨0,OS,[],aP,by omega,rfl,rfl,rfl,rfl,rfl,rfl,⟨hos.out,rfl,rfl,rfl,by simp [bX,bO,aW],gT,fun j h=>by simp [cP,aP] at h,hEE.out,hRR.out,by simp⟩⟩ ?_
   rintro q e m ⟨i,left,acc,lv,hq,e2,e4,e6,e9,e10,e12,hJ⟩
   replace hq:=aB.mk hq
   obtain ⟨hleft,b0,b1,b2,hnx,hown,hblk,hLE,hLR,hacc⟩:=hJ.out
   clear hJ
   have g0:¬ (0=m.next):=by omega
   have g1:¬ (1=m.next):=by omega
   have g2:¬ (2=m.next):=by omega
   have hok0:=hown.ok
   have hon0:=hown.one
   have hce0:=hown.cells
   by_cases hlt:i < PR.length
   ·have hlt':((i:Nat):Int) < ((PR.length:Nat):Int):=by omega
    have wi:=cF (n:=i) (by have:=hPRl.out;omega)
    obtain ⟨x,hx⟩:∃ x,PR[i]? = some x:=⟨_,List.getElem?_eq_getElem hlt⟩
    obtain ⟨ha,hb⟩:=hcells.out i x hx
    have hdrop:PR.drop i=x::PR.drop (i+1):=by
     rw [List.drop_eq_getElem_cons hlt]
     congr 1
     rw [List.getElem?_eq_getElem hlt] at hx
     exact Option.some.inj hx
    obtain ⟨rv,rcs2,hrow2,hrv2,hdat⟩:=hlea.out i x hx
    have pr2:=hrv2.rd.plain
    have sr2:=cK hrv2.rd
    have hdrx:=hdr.out x
    have hrf:=hrefs.out x (min left LI)
    rw [hdrop] at hLE hLR
    simp only [pX,nF,hLI.out] at hLE hLR
    have hlL:=aek k r c w L x (min left LI)
    have hok:=ael (k:=k) (r:=r) (c:=c) (w:=w) (L:=L) (x:=x) (n:=min left LI)
    have hlE:rV k r c w L x (min left LI)=if iL k r c w (dM k r w L x.1) 1 x.2 < k.toNat then 5 else qO k c w (jA k r c w L x) (min left LI):=rfl
    have hLD:lP k r c w (dM k r w L x.1) 1 x.2 k.toNat=jA k r c w L x:=rfl
    rw [hLD] at hdat
    have hbad:∀ E,rV k r c w L x (min left LI)=E→E≠0→RES = .tup [acw,aE E]:=fun E h0 h1=>by
     rw [←hRES.out,←hLE,h0,if_neg h1,if_neg h1]
    have hf0:=fun (n:Int) m=>ag2 (a:=aE 0) (b:=aE 0) (c:=aP) (d:=aE 0) (e:=aP) (f:=aP) (n:=n) (bU _) (bU _) (bU _) (bU _) (bU _) (bU _) 1 m
    have w2x:x.2=x.2:=rfl
    simp only [aE] at hrow2 hdat ha hb
    replace hdrop:=aB.mk hdrop
    replace hx:=aB.mk hx
    replace hbad:=aB.mk hbad
    replace hf0:=aB.mk hf0
    replace hrv2:=aB.mk hrv2
    replace hok:=aB.mk hok
    clear w2x hLD
    by_cases hmn:iL k r c w (dM k r w L x.1) 1 x.2 < k.toNat
    ·rw [if_pos hmn] at hdat hlE
     have hres:=hbad.out 5 hlE (by decide)
     replace hmn:=aB.mk hmn
     replace hlE:=aB.mk hlE
     replace hLE:=aB.mk hLE
     replace hLR:=aB.mk hLR
     replace hown:=aB.mk hown
     replace hlL:=aB.mk hlL
     subst hres
     unfold aP at hdat
     simp only [↓pre,simprocAttr,aA,sx,gZ,c8,gM,bne,aC,aJ,aK,aF,aG,bX,bO,aW,Nat.one_ne_zero,Nat.zero_ne_one,Nat.reduceEqDiff,hf,ho,aP,e2,e4,e6,e9,e10,e12,b0,b1,b2,g0,g1,g2,hoL,↓hcL,↓hkL,hok0,hon0,hce0,hlenRT,hlt',hlt,haddRT,ha,hb,sr]
     (refine bM (hrow2) (by simp only [aA,aO, *]) (by intro k;simp only [sq,sr, *]) ?_);simp only [↓pre,simprocAttr,aA,sx,gZ,c8,gM,bne,aC,aJ,aK,aF,aG,bX,bO,aW,Nat.one_ne_zero,Nat.zero_ne_one,Nat.reduceEqDiff,hf,ho,aP,e2,e4,e6,e9,e10,e12,b0,b1,b2,g0,g1,g2,hoL,↓hcL,↓hkL,hok0,hon0,hce0,sr2,hlenRT,hlt,haddRT,ha,hb,sr];(refine bM (hdat) (by simp only [aA,aO, *]) (by intro k;rfl) ?_);simp only [↓pre,simprocAttr,aA,sx,gZ,c8,gM,bne,aC,aJ,aK,aF,aG,bX,bO,aW,Nat.one_ne_zero,Nat.zero_ne_one,Nat.reduceEqDiff,hf,ho,aP,e2,e4,e6,e9,e10,e12,b0,b1,b2,g0,g1,g2,hoL,↓hcL,↓hkL,hok0,hon0,hce0,sr2,hlenRT,hlt,haddRT,ha,hb,sr]
     exact ⟨1,hf0.out _ _⟩
    ·rw [if_neg hmn] at hdat hlE
     generalize hLDg:jA k r c w L x=LD at *
     have pd:=hdrx.plain
     have sd:=cK hdrx
     generalize bE (k.toNat*c.toNat) (aQ LD)=DT at *
     unfold aa1 at hrf
     by_cases hE0:qO k c w LD (min left LI)=0
     ·rw [if_pos hE0] at hrf
      rw [hE0] at hlE
      obtain ⟨hn1,hn2⟩:=hok.out hlE
      have hLR2:dQ LD (min left LI).toNat=xE k r c w L x (min left LI):=by unfold xE;rw [hLDg]
      rw [if_pos hlE] at hLE
      obtain ⟨N,hN⟩:∃ N:Nat,min left LI=(N:Int):=⟨(min left LI).toNat,by omega⟩
      rw [hLR2] at hrf
      rw [hN] at hLE hrf hLR hlL hn1 hn2
      rw [Int.toNat_natCast] at hrf hlL
      generalize xE k r c w L x ↑N=LR at *
      have hTr:=dH N (bW LR)
      have sT:=cK hTr
      have hsrc:=fun m=>hTr.src (P:=Tryz.prog) (m:=m) (el:=67) (sz:=2) (by rw [xC];omega)
      rw [show (bW LR).take (N*2)=bW LR from List.take_of_length_le (by rw [xC];omega)] at hsrc
      generalize bE N (bW LR)=TR at *
      have hNl:N≤128:=by have:=hlfb.out;have:=hLI.out;omega
      have wl:IntKind.i64.wrap (left - (N:Int))=left - (N:Int):=dU (by omega) (by omega)
      have hPR2:=hPRl.out
      simp only [aE] at hrf
      replace hlL:=aB.mk hlL
      replace hLE:=aB.mk hLE
      replace hLR:=aB.mk hLR
      replace hLR2:=aB.mk hLR2
      replace hacc:=aB.mk hacc
      replace hTr:=aB.mk hTr
      replace hsrc:=aB.mk hsrc
      replace hE0:=aB.mk hE0
      replace hlE:=aB.mk hlE
      replace hown:=aB.mk hown
      replace hblk:=aB.mk hblk
      replace hmn:=aB.mk hmn
      replace hLDg:=aB.mk hLDg
      simp only [↓pre,simprocAttr,aA,sx,gZ,c8,gM,bne,aC,aJ,aK,aF,aG,bX,bO,aW,Nat.one_ne_zero,Nat.zero_ne_one,Nat.reduceEqDiff,hf,ho,aP,e2,e4,e6,e9,e10,e12,b0,b1,b2,g0,g1,g2,hoL,↓hcL,↓hkL,hok0,hon0,hce0,hlenRT,hlt',hlt,haddRT,ha,hb,sr]
      (refine bM (hrow2) (by simp only [aA,aO, *]) (by intro k;simp only [sq,sr, *]) ?_);simp only [↓pre,simprocAttr,aA,sx,gZ,c8,gM,bne,aC,aJ,aK,aF,aG,bX,bO,aW,Nat.one_ne_zero,Nat.zero_ne_one,Nat.reduceEqDiff,hf,ho,aP,e2,e4,e6,e9,e10,e12,b0,b1,b2,g0,g1,g2,hoL,↓hcL,↓hkL,hok0,hon0,hce0,sr2,sd,sT,aM,hN,hlenRT,hlt,haddRT,ha,hb,sr];(refine bM (hdat) (by simp only [aA,aO, *]) (by intro k;simp only [sq,sr, *]) ?_);simp only [↓pre,simprocAttr,aA,sx,gZ,c8,gM,bne,aC,aJ,aK,aF,aG,bX,bO,aW,Nat.one_ne_zero,Nat.zero_ne_one,Nat.reduceEqDiff,hf,ho,aP,e2,e4,e6,e9,e10,e12,b0,b1,b2,g0,g1,g2,hoL,↓hcL,↓hkL,hok0,hon0,hce0,sr2,sd,sT,aM,hN,hlenRT,hlt,haddRT,ha,hb,sr];refine aL (hl6) (by rfl) ?_;simp only [↓pre,simprocAttr,aA,sx,gZ,c8,gM,bne,aC,aJ,aK,aF,aG,bX,bO,aW,Nat.one_ne_zero,Nat.zero_ne_one,Nat.reduceEqDiff,hf,ho,aP,e2,e4,e6,e9,e10,e12,b0,b1,b2,g0,g1,g2,hoL,↓hcL,↓hkL,hok0,hon0,hce0,sr2,sd,sT,aM,hN,hlenRT,hlt,haddRT,ha,hb,sr];refine aL (hrf) (by simp only [aA,aO, *]) ?_;simp only [↓pre,simprocAttr,aA,sx,gZ,c8,gM,bne,aC,aJ,aK,aF,aG,bX,bO,aW,Nat.one_ne_zero,Nat.zero_ne_one,Nat.reduceEqDiff,hf,ho,aP,e2,e4,e6,e9,e10,e12,b0,b1,b2,g0,g1,g2,hoL,↓hcL,↓hkL,hok0,hon0,hce0,sr2,sd,sT,aM,hN,hlenRT,hlt,haddRT,ha,hb,sr]
      have hacc2:=hacc.out
      refine tE (kd := .flat) (sz:=2) (y:=16) (zl:=[.int .i64 0,.int .i64 0]) (by kernel_rfl) hown.out (by kernel_rfl) (by kernel_rfl) (by kernel_rfl) rfl (hsrc.out m) (by rw [xC];have:=hlL.out;omega) (by omega) (by omega) fun lv' m4 ho' hn' hkp hbk _ => ?_
      have hnb:∀ j,j≤2→cP lv≠some j:=fun j h1 h2=>by have:=hblk.out j h2;omega
      have d0:=hkp 0 _ b0 (by omega) (hnb 0 (by omega))
      have d1:=hkp 1 _ b1 (by omega) (hnb 1 (by omega))
      have d2:=hkp 2 _ b2 (by omega) (hnb 2 (by omega))
      have hbk':∀ j,cP lv'=some j→2 < j:=fun j hj=>by
       rcases hbk j hj with h | h
       ·omega
       ·exact hblk.out j h
      have ok1:=ho'.ok
      have ok2:=ho'.one
      have ok3:=ho'.cells
      replace hkp:=aB.mk hkp
      replace hbk:=aB.mk hbk
      replace hbk':=aB.mk hbk'
      replace hnb:=aB.mk hnb
      replace ho':=aB.mk ho'
      replace hacc2:=aB.mk hacc2
      simp only [↓pre,simprocAttr,aA,sx,gZ,c8,gM,bne,aC,aJ,aK,aF,aG,bX,bO,aW,Nat.one_ne_zero,Nat.zero_ne_one,Nat.reduceEqDiff,hf,ho,aP,e2,e4,e6,e9,e10,e12,d2,ok1,ok2,ok3,wl,wi,sr]
      refine ⟨q - 1,by have:=hq.out;omega,i+1,left - N,acc++LR,lv',by have:=hq.out;omega,rfl,rfl,⟨⟨by omega,by omega⟩, ?_, ?_, ?_,by omega, ?_,hbk'.out,hLE.out,by rw [List.append_assoc];exact hLR.out,by rw [List.length_append];have:=hlL.out;have:=hacc2.out;omega⟩⟩
      ·exact d0
      ·exact d1
      ·rfl
      ·rw [aee,List.length_append,hlL.out]
       exact ho'.out.keep (by rw [bX];exact Nat.le_refl _) fun j kk hj hk=>by
        have:=hbk'.out j hj
        rw [aF,if_neg (by omega)]
        exact hk
     ·rw [if_neg hE0] at hrf
      have hres:=hbad.out _ hlE hE0
      generalize qO k c w LD (min left LI)=E at *
      replace hmn:=aB.mk hmn
      replace hlE:=aB.mk hlE
      replace hLE:=aB.mk hLE
      replace hLR:=aB.mk hLR
      replace hown:=aB.mk hown
      replace hlL:=aB.mk hlL
      replace hLDg:=aB.mk hLDg
      subst hres
      unfold aP at hrf
      simp only [aE] at hrf
      simp only [↓pre,simprocAttr,aA,sx,gZ,c8,gM,bne,aC,aJ,aK,aF,aG,bX,bO,aW,Nat.one_ne_zero,Nat.zero_ne_one,Nat.reduceEqDiff,hf,ho,aP,e2,e4,e6,e9,e10,e12,b0,b1,b2,g0,g1,g2,hoL,↓hcL,↓hkL,hok0,hon0,hce0,hlenRT,hlt',hlt,haddRT,ha,hb,sr]
      (refine bM (hrow2) (by simp only [aA,aO, *]) (by intro k;simp only [sq,sr, *]) ?_);simp only [↓pre,simprocAttr,aA,sx,gZ,c8,gM,bne,aC,aJ,aK,aF,aG,bX,bO,aW,Nat.one_ne_zero,Nat.zero_ne_one,Nat.reduceEqDiff,hf,ho,aP,e2,e4,e6,e9,e10,e12,b0,b1,b2,g0,g1,g2,hoL,↓hcL,↓hkL,hok0,hon0,hce0,sr2,sd,aM,hE0,hlenRT,hlt,haddRT,ha,hb,sr];(refine bM (hdat) (by simp only [aA,aO, *]) (by intro k;simp only [sq,sr, *]) ?_);simp only [↓pre,simprocAttr,aA,sx,gZ,c8,gM,bne,aC,aJ,aK,aF,aG,bX,bO,aW,Nat.one_ne_zero,Nat.zero_ne_one,Nat.reduceEqDiff,hf,ho,aP,e2,e4,e6,e9,e10,e12,b0,b1,b2,g0,g1,g2,hoL,↓hcL,↓hkL,hok0,hon0,hce0,sr2,sd,aM,hE0,hlenRT,hlt,haddRT,ha,hb,sr];refine aL (hl6) (by rfl) ?_;simp only [↓pre,simprocAttr,aA,sx,gZ,c8,gM,bne,aC,aJ,aK,aF,aG,bX,bO,aW,Nat.one_ne_zero,Nat.zero_ne_one,Nat.reduceEqDiff,hf,ho,aP,e2,e4,e6,e9,e10,e12,b0,b1,b2,g0,g1,g2,hoL,↓hcL,↓hkL,hok0,hon0,hce0,sr2,sd,aM,hE0,hlenRT,hlt,haddRT,ha,hb,sr];refine aL (hrf) (by simp only [aA,aO, *]) ?_;simp only [↓pre,simprocAttr,aA,sx,gZ,c8,gM,bne,aC,aJ,aK,aF,aG,bX,bO,aW,Nat.one_ne_zero,Nat.zero_ne_one,Nat.reduceEqDiff,hf,ho,aP,e2,e4,e6,e9,e10,e12,b0,b1,b2,g0,g1,g2,hoL,↓hcL,↓hkL,hok0,hon0,hce0,sr2,sd,aM,hE0,hlenRT,hlt,haddRT,ha,hb,sr]
      exact ⟨1,hf0.out _ _⟩
   ·have hlt':¬ ((i:Nat):Int) < ((PR.length:Nat):Int):=by omega
    rw [List.drop_of_length_le (by omega)] at hLE hLR
    simp only [pX,nF,List.append_nil] at hLE hLR
    have hres:=hRES.out
    rw [←hLE,if_pos rfl,←hLR] at hres
    have hne0:cP lv≠some 0:=fun h=>by have:=hblk 0 h;omega
    have hfin:=fun x=>auo (a:=aE PL) (b:=aE PD) (c:=RT) (d:=aP) (w:=W) (n:=0) (bU _) (bU _) hid.out (yY (hown.put_ne (x:=x) hne0) 1)
    replace hne0:=aB.mk hne0
    replace hres:=aB.mk hres
    replace hLE:=aB.mk hLE
    replace hLR:=aB.mk hLR
    replace hown:=aB.mk hown
    replace hfin:=aB.mk hfin
    simp only [↓pre,simprocAttr,aA,sx,gZ,c8,gM,bne,aC,aJ,aK,aF,aG,bX,bO,aW,Nat.one_ne_zero,Nat.zero_ne_one,Nat.reduceEqDiff,hf,ho,aP,e2,e4,e6,e9,e10,e12,b0,b1,b2,g0,g1,g2,hoL,↓hcL,↓hkL,hok0,hon0,hce0,hlenRT,hlt',sr]
    rw [←hres.out]
    exact ⟨1,hfin.out _⟩
 ·rw [if_neg hC] at hcr
  rw [if_neg hC]
  have hf0:=fun m=>ag2 (a:=aE 0) (b:=aE 0) (c:=aP) (d:=aE 0) (e:=aP) (f:=aP) (n:=gK k r c w ps) (bU _) (bU _) (bU _) (bU _) (bU _) (bU _) 1 m
  rw [if_neg hC]
  unfold nQ aP at hcr
  simp only [aE] at hcr hrw
  replace hrv:=aB.mk hrv
  replace hR:=aB.mk hR
  replace hf0:=aB.mk hf0
  generalize gK k r c w ps=E at *
  refine bJ follows Tryz.func107 (by unfold Tryz.f107;rfl) (by unfold Tryz.f107;simp) gM (by unfold Tryz.f107;simp) (by kernel_rfl) ?_;unfold Tryz.f107
  simp only [↓pre,simprocAttr,aA,sx,gZ,c8,gM,bne,aC,aJ,aK,aF,aG,bX,bO,aW,Nat.one_ne_zero,Nat.zero_ne_one,Nat.reduceEqDiff,hf,ho,aP,sr]
  (refine bM (hrw) (by simp only [aA,aO, *]) (by intro k;simp only [sq,sr, *]) ?_);simp only [↓pre,simprocAttr,aA,sx,gZ,c8,gM,bne,aC,aJ,aK,aF,aG,bX,bO,aW,Nat.one_ne_zero,Nat.zero_ne_one,Nat.reduceEqDiff,hf,ho,aP,hsr,sr];(refine bM (hcr) (by simp only [aA,aO, *]) (by intro k;rfl) ?_);simp only [↓pre,simprocAttr,aA,sx,gZ,c8,gM,bne,aC,aJ,aK,aF,aG,bX,bO,aW,Nat.one_ne_zero,Nat.zero_ne_one,Nat.reduceEqDiff,hf,ho,aP,hsr,sr]
  refine mG (by kernel_rfl) ?_
  simp only [↓pre,simprocAttr,aA,sx,gZ,c8,gM,bne,aC,aJ,aK,aF,aG,bX,bO,aW,Nat.one_ne_zero,Nat.zero_ne_one,Nat.reduceEqDiff,hf,ho,aP,sr]
  refine cU (by kernel_rfl) ?_
  simp only [↓pre,simprocAttr,aA,sx,gZ,c8,gM,bne,aC,aJ,aK,aF,aG,bX,bO,aW,Nat.one_ne_zero,Nat.zero_ne_one,Nat.reduceEqDiff,hf,ho,aP,hC,sr]
  exact ⟨1,hf0.out _⟩
theorem aup (k r c w:Int) (ps:List bN) (kd ver:Int):∃ a e,pO k r c w ps kd ver = .tup [a,aE e]∧(∀ j,shift j a=a)∧eG a:=by
 unfold pO
 split
 ·exact ⟨_,_,rfl,fun n=>rfl,bU _⟩
 ·exact ⟨_,_,rfl,fun n=>abA,kK (dH _ _)⟩
theorem auq (k r c w:Int) (v:AV) (L:List (List UInt8)) (cells:List AV) (hv:fT v L cells) (hE:iU k r c w L=0) (x:b9) (hx:i9 w x=true):aY Tryz.prog 190 [dD k r c w v,.agg [aE x.1,aE x.2]] ⟨pO k r c w (dM k r w L x.1) 1 x.2,[]⟩:=by
 refine dY ?_
 have hp:=hv.rd.plain
 have hf:=cA hv.rd
 have ho:=bP hv.rd
 have hR0:=aco (k:=k) (r:=r) (c:=c) hE (aa2 hx).1
 obtain ⟨hrb,hm⟩:=sZ hR0
 obtain ⟨rv,cs,hrw,hrv⟩:=aeu k r c w x.1 v L cells hv hR0
 have hda:=agV k r c w 1 x.2 rv _ cs hrv hm hrb
 obtain ⟨a,e,he,hsh,hid⟩:=aup k r c w (dM k r w L x.1) 1 x.2
 rw [he] at hda ⊢
 have hpr:=hrv.rd.plain
 have hsr:=cK hrv.rd
 have hz:=fun m=>gS hid (bU (.int .i64 e)) 1 m
 replace hz:=aB.mk hz
 replace he:=aB.mk he
 replace hR0:=aB.mk hR0
 replace hrv:=aB.mk hrv
 unfold dD at hrw ⊢
 simp only [aE] at hrw hda
 refine bJ follows Tryz.func190 (by unfold Tryz.f190;rfl) (by unfold Tryz.f190;simp) aD (by unfold Tryz.f190;simp) (by kernel_rfl) ?_;unfold Tryz.f190
 simp only [↓pre,simprocAttr,aA,sx,afJ,aD,aC,hf,ho,hsr,hsh,sr]
 (refine bM (hrw) (by simp only [aA,aO, *]) (by intro k;simp only [sq,sr, *]) ?_);simp only [↓pre,simprocAttr,aA,sx,afJ,aD,aC,hf,ho,hsr,hsh,sr];(refine bM (hda) (by simp only [aA,aO, *]) (by intro k;simp only [sq,sr, *]) ?_);simp only [↓pre,simprocAttr,aA,sx,afJ,aD,aC,hf,ho,hsr,hsh,sr]
 exact ⟨1,hz.out _⟩
def xJ (k r c w:Int) (L:List (List UInt8)) (l:List b9) (fr to:Nat):AV:=if iG k r c w L l fr to=0 then .tup [bE (to - fr) (aQ (kN k r c w L l fr to)),aE 0] else .tup [aP,aE (iG k r c w L l fr to)]
theorem aur {k r c w:Int} {L:List (List UInt8)} {l:List b9} {i p W:Nat} {x:b9} (hW:(wI k c).toNat=W) (hx:l[i]? = some x) (h1:i*W≤p) (h2:p < i*W+W):acq k r c w L l p=(jA k r c w L x).getD (p - i*W) 0:=by
 unfold acq
 rw [hW]
 have hi:=(List.getElem?_eq_some_iff.1 hx).1
 have h3:(i+1)*W≤l.length*W:=Nat.mul_le_mul_right _ hi
 rw [Nat.add_mul,Nat.one_mul] at h3
 have hdv:p / W=i:=by
  refine Nat.div_eq_of_lt_le h1 ?_
  rw [Nat.add_mul,Nat.one_mul];exact h2
 have hmd:p % W=p - i*W:=by
  have:=Nat.div_add_mod p W
  rw [hdv,Nat.mul_comm] at this
  omega
 simp only [hdv,hmd]
 rw [if_pos (by omega),List.getD_eq_getElem?_getD (l:=l),hx]
 rfl
theorem aus {k r c w:Int} {L:List (List UInt8)} {l:List b9} {fr to i W:Nat} (hW:0 < W) (h:¬ max fr (i*W) < min to ((i+1)*W)):kN k r c w L l fr (min to ((i+1)*W))=kN k r c w L l fr (min to (i*W)):=by
 have hs:(i+1)*W=i*W+W:=by rw [Nat.add_mul,Nat.one_mul]
 by_cases h1:to≤i*W
 ·rw [show min to ((i+1)*W)=min to (i*W) by omega]
 ·rw [acs (by omega),acs (by omega)]
theorem aut {k r c w:Int} {L:List (List UInt8)} {l:List b9} {fr to i W:Nat} {x:b9} (hW:(wI k c).toNat=W) (hx:l[i]? = some x) (hl:(jA k r c w L x).length=W) (h:max fr (i*W) < min to ((i+1)*W)):kN k r c w L l fr (min to ((i+1)*W))=kN k r c w L l fr (min to (i*W))++((jA k r c w L x).drop (max fr (i*W) - i*W)).take (min to ((i+1)*W) - max fr (i*W)):=by
 have hs:(i+1)*W=i*W+W:=by rw [Nat.add_mul,Nat.one_mul]
 have h1:kN k r c w L l fr (min to (i*W))=kN k r c w L l fr (max fr (i*W)):=by
  by_cases h2:i*W≤fr
  ·rw [acs (by omega),acs (by omega)]
  ·rw [show min to (i*W)=max fr (i*W) by omega]
 rw [h1,←atz (mi:=max fr (i*W)) (by omega) (Nat.le_of_lt h)]
 congr 1
 unfold kN
 refine List.ext_getElem? fun j => ?_
 rw [List.getElem?_take,List.getElem?_drop]
 by_cases h3:j < min to ((i+1)*W) - max fr (i*W)
 ·rw [if_pos h3,aaR _ h3,aur hW hx (by omega) (by omega),show max fr (i*W)+j - i*W=max fr (i*W) - i*W+j by omega,List.getD_eq_getElem?_getD,List.getElem?_eq_getElem (by omega)]
  rfl
 ·rw [if_neg h3,List.getElem?_eq_none (by rw [pL];omega)]
set_option maxHeartbeats 2000000 in
theorem anA (k r c w a1 a2 a3:Int) (v:AV) (L:List (List UInt8)) (cells:List AV) (hv:fT v L cells) (hE:iU k r c w L=0) (dv lv sv:AV) (nd nl:Nat) (cd cl:List AV) (hdv:bD dv nd cd) (hlv:bD lv nl cl) (l:List b9) (hs:qM sv l) (hlr:∀ x∈l,i9 w x=true) (hl:l.length≤20000) (fr to:Nat) (hto:to≤40000) (hto2:to≤l.length*(wI k c).toNat):aY Tryz.prog 108 [dD k r c w v,s9 (aE a1) (aE a2) dv (aE a3) lv sv,aE (fr:Nat),aE (to:Nat)] ⟨xJ k r c w L l fr to,[]⟩:=by
 refine dY ?_
 have hp:=hv.rd.plain
 have hf:=cA hv.rd
 have ho:=bP hv.rd
 obtain ⟨hm,_,_⟩:=acm hE
 obtain ⟨x0,hsr⟩:=hs
 have hWd:=wQ k r c w hm
 have hw:=gU hm
 have hml:=jE.1 hm
 have hmn:=gF hm
 obtain ⟨W,hW⟩:∃ W:Nat,wI k c=(W:Int):=⟨(wI k c).toNat,by unfold wI;omega⟩
 have hWn:(wI k c).toNat=W:=by omega
 have hW8:32≤W∧W≤768:=by unfold wI at hW;omega
 have hKC:k.toNat*c.toNat=W:=by
  have:((k.toNat*c.toNat:Nat):Int)=wI k c:=by unfold wI;rw [Int.natCast_mul,Int.toNat_of_nonneg (by omega),Int.toNat_of_nonneg (by omega)]
  omega
 have hst:=fun (x:b9) (hx:x∈l)=>auq k r c w v L cells hv hE x (hlr x hx)
 have hdl:=fun (x:b9)=>vA k r c w (dM k r w L x.1) 1 x.2 k.toNat
 unfold dD at hst ⊢
 unfold s9
 rw [hW] at hWd
 rw [hWn] at hto2
 unfold pO at hst
 rw [hKC] at hst hdl
 have hlB:∀ x,oR k r c w L x=decide (iL k r c w (dM k r w L x.1) 1 x.2 < k.toNat):=fun _=>rfl
 have hlD:∀ x,jA k r c w L x=lP k r c w (dM k r w L x.1) 1 x.2 k.toNat:=fun _=>rfl
 have hskip:=fun i h=>aus (k:=k) (r:=r) (c:=c) (w:=w) (L:=L) (l:=l) (fr:=fr) (to:=to) (i:=i) (W:=W) (by omega) h
 have hstep:=fun i x hx hll h=>aut (k:=k) (r:=r) (c:=c) (w:=w) (L:=L) (l:=l) (fr:=fr) (to:=to) (i:=i) (W:=W) (x:=x) hWn hx hll h
 have hBl:∀ z,(kN k r c w L l fr z).length=z - fr:=fun z=>by unfold kN;rw [pL]
 have hcE:iG k r c w L l fr to=if (List.range l.length).any (fun i=>mO W fr to i && oR k r c w L (l.getD i (0,0)))=true then 5 else 0:=by unfold iG;rw [hWn]
 unfold xJ
 generalize hEE:iG k r c w L l fr to=EE at *
 have hbad:∀ (i:Nat) (x:b9),l[i]? = some x→mO W fr to i=true→oR k r c w L x=true→EE=5:=fun i x hx h1 h2=>by
  rw [hcE,if_pos]
  refine List.any_eq_true.2 ⟨i,List.mem_range.2 (List.getElem?_eq_some_iff.1 hx).1, ?_⟩
  rw [h1,List.getD_eq_getElem?_getD,hx]
  exact h2
 have hgood:(∀ (i:Nat) (x:b9),l[i]? = some x→mO W fr to i=true→oR k r c w L x=false)→EE=0:=fun h=>by
  rw [hcE,if_neg]
  intro h2
  obtain ⟨i,hi,h3⟩:=List.any_eq_true.1 h2
  have hi':=List.mem_range.1 hi
  rw [Bool.and_eq_true,List.getD_eq_getElem?_getD,List.getElem?_eq_getElem hi'] at h3
  have:=h i _ (List.getElem?_eq_getElem hi') h3.1
  rw [show (some l[i]).getD (0,0)=l[i] from rfl,this] at h3
  exact absurd h3.2 (by decide)
 clear hcE
 generalize hcB:kN k r c w L l fr=CB at *
 have hB0:CB (min to (0*W))=[]:=List.eq_nil_of_length_eq_zero (by rw [hBl];omega)
 have hend:min to (l.length*W)=to:=by omega
 generalize hRES:(if EE=0 then AV.tup [bE (to - fr) (aQ (CB to)),aE 0] else AV.tup [aP,aE EE])=RES
 have fD:=cA hdv
 have oD:=bP hdv
 have fL:=cA hlv
 have oL:=bP hlv
 have fS:=cA hsr
 have oS':=bP hsr
 have hsa:=fun (i:Nat) (x:b9) (hi:l[i]? = some x)=>vB l x0 i x hi
 replace hRES:=aB.mk hRES
 replace hbad:=aB.mk hbad
 replace hgood:=aB.mk hgood
 replace hskip:=aB.mk hskip
 replace hstep:=aB.mk hstep
 replace hml:=aB.mk hml
 replace hmn:=aB.mk hmn
 replace hw:=aB.mk hw
 replace hW8:=aB.mk hW8
 replace hst:=aB.mk hst
 replace hdl:=aB.mk hdl
 replace hKC:=aB.mk hKC
 replace hlr:=aB.mk hlr
 replace hlB:=aB.mk hlB
 replace hlD:=aB.mk hlD
 replace hW:=aB.mk hW
 replace hWn:=aB.mk hWn
 replace hsa:=aB.mk hsa
 replace hBl:=aB.mk hBl
 replace hend:=aB.mk hend
 replace hEE:=aB.mk hEE
 replace hcB:=aB.mk hcB
 replace hto2:=aB.mk hto2
 refine bJ follows Tryz.func108 (by unfold Tryz.f108;rfl) (by unfold Tryz.f108;simp) aD (by unfold Tryz.f108;simp) (by kernel_rfl) ?_;unfold Tryz.f108
 simp only [↓pre,simprocAttr,aA,sx,uO,aD,aC,aI,aM,hf,ho,fD,oD,fL,oL,fS,oS',a8,Option.map_none,Option.map_some,sr]
 refine aL (hWd) (by rfl) ?_;simp only [↓pre,simprocAttr,aA,sx,uO,aD,aC,aI,aM,hf,ho,fD,oD,fL,oL,fS,oS',a8,Option.map_none,Option.map_some,sr]
 rw [b7]
 refine b8 (fun q e m=>∃ i u,q+i=l.length∧e 2=aE (fr:Nat)∧e 3=aE (to:Nat)∧e 4 = .tptr 0 [aE k,aE r,aE c,aE w,v]∧e 5 = .tptr 0 [aE a1,aE a2,dv,aE a3,lv,sv]∧e 10=aE (W:Nat)∧e 11=u∧e 12=aE (i:Nat)∧aB (eM m 5 1 u (CB (min to (i*W))).length (aQ (CB (min to (i*W))))∧∀ (j:Nat) (x:b9),j < i→l[j]? = some x→mO W fr to j=true→oR k r c w L x=false)) l.length ⟨0,aP,by omega,rfl,rfl,rfl,rfl,rfl,rfl,rfl,⟨by rw [hB0];exact gT,fun j x h=>by omega⟩⟩ ?_
 rintro q e m ⟨i,u,hq,e2,e3,e4,e5,e10,e11,e12,hJ⟩
 replace hq:=aB.mk hq
 obtain ⟨hown,hno⟩:=hJ.out
 clear hJ
 by_cases hlt:i < l.length
 ·have hlt':((i:Nat):Int) < ((l.length:Nat):Int):=by omega
  have wi:=cF (n:=i) (by omega)
  obtain ⟨x,hx⟩:∃ x,l[i]? = some x:=⟨_,List.getElem?_eq_getElem hlt⟩
  have hiW:(i+1)*W≤20000*768:=Nat.mul_le_mul (by omega) hW8.out.2
  have hsuc:(i+1)*W=i*W+W:=by rw [Nat.add_mul,Nat.one_mul]
  have w1:IntKind.i64.wrap (((i:Nat):Int)*((W:Nat):Int))=((i*W:Nat):Int):=by rw [show ((i:Nat):Int)*((W:Nat):Int)=((i*W:Nat):Int) by simp];exact dE (by omega)
  have w2:IntKind.i64.wrap (((i+1:Nat):Int)*((W:Nat):Int))=(((i+1)*W:Nat):Int):=by rw [show ((i+1:Nat):Int)*((W:Nat):Int)=(((i+1)*W:Nat):Int) by simp];exact dE (by omega)
  obtain ⟨A,hA,hA2⟩:∃ A:Nat,max ((fr:Nat):Int) ((i*W:Nat):Int)=(A:Int)∧A=max fr (i*W):=⟨max fr (i*W),by omega,rfl⟩
  obtain ⟨Z,hZ,hZ2⟩:∃ Z:Nat,min ((to:Nat):Int) (((i+1)*W:Nat):Int)=(Z:Int)∧Z=min to ((i+1)*W):=⟨min to ((i+1)*W),by omega,rfl⟩
  have hmeet:mO W fr to i=decide (A < Z):=by unfold mO;rw [hA2,hZ2]
  have hnx:(mO W fr to i=true→oR k r c w L x=false)→∀ (j:Nat) (y:b9),j < i+1→l[j]? = some y→mO W fr to j=true→oR k r c w L y=false:=fun h j y hj hy hmj=>by
   by_cases e:j=i
   ·subst e
    rw [hx] at hy
    cases hy
    exact h hmj
   ·exact hno j y (by omega) hy hmj
  replace hnx:=aB.mk hnx
  by_cases hAZ:A < Z
  ·rw [decide_eq_true hAZ] at hmeet
   have hAZ':¬ ((Z:Nat):Int)≤((A:Nat):Int):=by omega
   obtain ⟨ha,hb2⟩:=hsa.out i x hx
   obtain ⟨ht,htl⟩:=qI ha hb2
   have hxm:=List.mem_of_getElem? hx
   have hr:=hst.out x hxm
   have hlBx:=hlB.out x
   have hDx:=hdl.out x
   rw [←hlD.out x] at hr hDx
   by_cases hlo:iL k r c w (dM k r w L x.1) 1 x.2 < k.toNat
   ·rw [if_pos hlo] at hr
    rw [decide_eq_true hlo] at hlBx
    have h5:=hbad.out i x hx hmeet hlBx
    have hres:=hRES.out
    rw [h5,if_neg (by decide)] at hres
    have hz:=fun m=>gS (bU (.slice none 0 0)) (bU (.int .i64 5)) 1 m
    simp only [aE,aP] at hr ht
    replace hz:=aB.mk hz
    replace hres:=aB.mk hres
    replace hlo:=aB.mk hlo
    replace hlBx:=aB.mk hlBx
    replace hmeet:=aB.mk hmeet
    replace hown:=aB.mk hown
    replace hDx:=aB.mk hDx
    replace h5:=aB.mk h5
    replace hx:=aB.mk hx
    simp only [↓pre,simprocAttr,aA,sx,uO,aD,aC,aI,aM,hf,ho,fD,oD,fL,oL,fS,oS',a8,Option.map_none,Option.map_some,e2,e3,e4,e5,e10,e11,e12,hlt',hsr.len',wi,w1,w2,hA,hZ,hAZ',hsr.addr',hlt,ht,htl,sr]
    (refine bM (hr) (by simp only [aA,aO, *]) (by intro k;rfl) ?_);simp only [↓pre,simprocAttr,aA,sx,uO,aD,aC,aI,aM,hf,ho,fD,oD,fL,oL,fS,oS',a8,Option.map_none,Option.map_some,sr]
    rw [←hres.out]
    exact ⟨1,hz.out _⟩
   ·rw [if_neg hlo] at hr
    rw [decide_eq_false hlo] at hlBx
    have hDr:=dH W (aQ (jA k r c w L x))
    have hnxt:=hnx.out fun _=>hlBx
    have hstp:=hstep.out i x hx hDx (by rw [←hA2,←hZ2];exact hAZ)
    rw [←hA2,←hZ2] at hstp
    have hiA:i*W≤A:=by omega
    have hZi:Z≤i*W+W:=by omega
    have wA:IntKind.i64.wrap (((A:Nat):Int) - ((i*W:Nat):Int))=((A - i*W:Nat):Int):=by rw [show ((A:Nat):Int) - ((i*W:Nat):Int)=((A - i*W:Nat):Int) by omega];exact dE (by omega)
    have wZ:IntKind.i64.wrap (((Z:Nat):Int) - ((i*W:Nat):Int))=((Z - i*W:Nat):Int):=by rw [show ((Z:Nat):Int) - ((i*W:Nat):Int)=((Z - i*W:Nat):Int) by omega];exact dE (by omega)
    obtain ⟨v1,s1,r1⟩:=hDr.slice (P:=Tryz.prog) (t:=52) (sz:=1) (lo:=some (A - i*W)) (hi:=some (Z - i*W)) (by kernel_rfl) (by simp only [Option.getD_some];omega) (by simp only [Option.getD_some];omega)
    simp only [Option.getD_some,Nat.mul_one] at r1
    rw [show Z - i*W - (A - i*W)=Z - A by omega] at r1
    have hsrc:=fun m=>r1.src (P:=Tryz.prog) (m:=m) (el:=5) (sz:=1) (by rw [List.length_drop,gH,hDx];omega)
    rw [Nat.mul_one,show ((aQ (jA k r c w L x)).drop (A - i*W)).take (Z - A)=aQ (((jA k r c w L x).drop (A - i*W)).take (Z - A)) by unfold aQ;rw [←List.map_drop,←List.map_take]] at hsrc
    have hpl:((jA k r c w L x).drop (A - i*W)).take (Z - A)=((jA k r c w L x).drop (A - i*W)).take (Z - A):=rfl
    have hPL:(((jA k r c w L x).drop (A - i*W)).take (Z - A)).length=Z - A:=by rw [List.length_take,List.length_drop,hDx];omega
    clear hpl
    generalize hPT:((jA k r c w L x).drop (A - i*W)).take (Z - A)=PT at *
    have sD:=cK hDr
    have hso:=fun m=>hDr.slOk (P:=Tryz.prog) (m:=m) (t:=52)
    have hsx:=fun d c m lo hi mx=>hDr.sliceX (P:=Tryz.prog) (m:=m) (t:=52) (d:=d) (c:=c) (lo:=lo) (hi:=hi) (mx:=mx)
    generalize bE W (aQ (jA k r c w L x))=DT at *
    have hcl:=hBl.out (min to (i*W))
    simp only [aE] at hr ht
    replace hlo:=aB.mk hlo
    replace hlBx:=aB.mk hlBx
    replace hmeet:=aB.mk hmeet
    replace hown:=aB.mk hown
    replace hDx:=aB.mk hDx
    replace hx:=aB.mk hx
    replace hDr:=aB.mk hDr
    replace r1:=aB.mk r1
    replace hstp:=aB.mk hstp
    replace hnxt:=aB.mk hnxt
    replace hPT:=aB.mk hPT
    replace hPL:=aB.mk hPL
    replace hcl:=aB.mk hcl
    replace hsrc:=aB.mk hsrc
    simp only [↓pre,simprocAttr,aA,sx,uO,aD,aC,aI,aM,hf,ho,fD,oD,fL,oL,fS,oS',a8,Option.map_none,Option.map_some,e2,e3,e4,e5,e10,e11,e12,hlt',hsr.len',wi,w1,w2,hA,hZ,hAZ',hsr.addr',hlt,ht,htl,sr]
    (refine bM (hr) (by simp only [aA,aO, *]) (by intro k;simp only [sq,sr, *]) ?_);simp only [↓pre,simprocAttr,aA,sx,uO,aD,aC,aI,aM,hf,ho,fD,oD,fL,oL,fS,oS',a8,Option.map_none,Option.map_some,e2,e3,e4,e5,e10,e11,e12,wi,w1,sD,hso,hsx,wA,wZ,s1,sr]
    refine qE (kd := .flat) (sz:=1) (y:=1) (zl:=[.int .u8 0]) (by kernel_rfl) hown.out (by kernel_rfl) (by kernel_rfl) (by kernel_rfl) rfl (hsrc.out m) (by rw [gH,hPL.out,Nat.mul_one]) (by have:=hcl.out;omega) (by have:=hcl.out;omega) ?_
    intro u' m' ho' hn'
    have ho2:eM m' 5 1 u' (CB (min to ((i+1)*W))).length (aQ (CB (min to ((i+1)*W)))):=by
     rw [←hZ2,hstp.out,pQ,List.length_append,hPL.out]
     exact ho'
    replace ho2:=aB.mk ho2
    clear ho'
    simp only [↓pre,simprocAttr,aA,sx,uO,aD,aC,aI,aM,hf,ho,fD,oD,fL,oL,fS,oS',a8,Option.map_none,Option.map_some,e2,e3,e4,e5,e10,e11,e12,wi,sr]
    exact ⟨q - 1,by have:=hq.out;omega,i+1,u',by have:=hq.out;omega,rfl,rfl,⟨ho2.out,hnxt.out⟩⟩
  ·rw [decide_eq_false hAZ] at hmeet
   have hAZ':((Z:Nat):Int)≤((A:Nat):Int):=by omega
   have hnxt:=hnx.out fun h=>by rw [hmeet] at h;cases h
   have hsk:=hskip.out i (by rw [←hA2,←hZ2];exact hAZ)
   replace hmeet:=aB.mk hmeet
   replace hown:=aB.mk hown
   replace hx:=aB.mk hx
   replace hsk:=aB.mk hsk
   replace hnxt:=aB.mk hnxt
   simp only [↓pre,simprocAttr,aA,sx,uO,aD,aC,aI,aM,hf,ho,fD,oD,fL,oL,fS,oS',a8,Option.map_none,Option.map_some,e2,e3,e4,e5,e10,e11,e12,hlt',hsr.len',wi,w1,w2,hA,hZ,hAZ',sr]
   exact ⟨q - 1,by have:=hq.out;omega,i+1,u,by have:=hq.out;omega,rfl,rfl,⟨by rw [hsk.out];exact hown.out,hnxt.out⟩⟩
 ·have hlt':¬ ((i:Nat):Int) < ((l.length:Nat):Int):=by omega
  have hi:i=l.length:=by have:=hq.out;omega
  have h0:=hgood.out fun j x hx hmj=>hno j x (by have:=(List.getElem?_eq_some_iff.1 hx).1;omega) hx hmj
  have hres:=hRES.out
  rw [h0,if_pos rfl] at hres
  rw [hi,hend.out,hBl.out] at hown
  replace hres:=aB.mk hres
  replace hown:=aB.mk hown
  replace h0:=aB.mk h0
  simp only [↓pre,simprocAttr,aA,sx,uO,aD,aC,aI,aM,hf,ho,fD,oD,fL,oL,fS,oS',a8,Option.map_none,Option.map_some,e2,e3,e4,e5,e10,e11,e12,hlt',hsr.len',sr]
  rw [←hres.out]
  exact ⟨1,by rw [kC,dT,yY hown.out,Option.bind_some,dT,fP,jC];rfl⟩
def nH:Nat→Bool:=fun d=>d != 7
theorem auu (k r c w row:Int) (v:AV) (L:List (List UInt8)) (cells:List AV) (hv:fT v L cells):aY Tryz.prog 28 [dD k r c w v,aE row] ⟨.tup [aE (if vC k r c w L row=0 then b6 (cB k r c w L row) else 0),aE (vC k r c w L row)],[]⟩:=by
 have hp:=hv.rd.plain
 have hf:=cA hv.rd
 have ho:=bP hv.rd
 have hck:=ag1 k r c w row v L cells hv
 unfold vC cB
 unfold dD at hck ⊢
 by_cases hR:eY k r c w L row=0
 ·rw [hR] at hck
  obtain ⟨RV,rcs,hrw,hrv⟩:=aeu k r c w row v L cells hv hR
  unfold dD at hrw
  simp only [if_pos hR]
  obtain ⟨hrb,hm⟩:=sZ hR
  have hmn:=gF hm
  have hcr:=anw k r c w _ _ _ hrv
  have hpr:=hrv.rd.plain
  have hsr:=cK hrv.rd
  have hRr:=dH (cE (eH k r c w (dM k r w L row))).length (bW (cE (eH k r c w (dM k r w L row))))
  generalize dM k r w L row=ps at *
  unfold pW kL nQ at hcr
  have f2:=cA hRr
  have o2:=bP hRr
  have s2:=cK hRr
  generalize bE (cE (eH k r c w ps)).length (bW (cE (eH k r c w ps)))=DV at *
  replace hR:=aB.mk hR
  replace hmn:=aB.mk hmn
  replace hrv:=aB.mk hrv
  replace hRr:=aB.mk hRr
  by_cases hC:gK k r c w ps=0
  ·rw [if_pos hC] at hcr
   rw [if_pos hC,hC]
   simp only [aE] at hcr hrw
   refine bB follows Tryz.func28 (by unfold Tryz.f28;rfl) (by unfold Tryz.f28;simp) nH (by unfold Tryz.f28;simp) (by kernel_rfl) ?_;unfold Tryz.f28
   simp only [↓pre,simprocAttr,aA,sx,pB,nH,bne,aC,hf,ho,aJ,aK,aF,aG,sr]
   refine aL (hck) (by simp only [aA,aO, *]) ?_;simp only [↓pre,simprocAttr,aA,sx,pB,nH,bne,aC,hf,ho,aJ,aK,aF,aG,hsr,f2,o2,s2,sr];(refine bM (hrw) (by simp only [aA,aO, *]) (by intro k;simp only [sq,sr, *]) ?_);simp only [↓pre,simprocAttr,aA,sx,pB,nH,bne,aC,hf,ho,aJ,aK,aF,aG,hsr,f2,o2,s2,sr];(refine bM (hcr) (by simp only [aA,aO, *]) (by intro k;simp only [sq,sr, *]) ?_);simp only [↓pre,simprocAttr,aA,sx,pB,nH,bne,aC,hf,ho,aJ,aK,aF,aG,hsr,f2,o2,s2,sr]
   refine mG (by kernel_rfl) ?_
   simp only [↓pre,simprocAttr,aA,sx,pB,nH,bne,aC,hf,ho,aJ,aK,aF,aG,f2,o2,s2,sr]
   refine cU (by kernel_rfl) ?_
   simp only [↓pre,simprocAttr,aA,sx,pB,nH,bne,aC,hf,ho,aJ,aK,aF,aG,f2,o2,s2,hC,sr]
  ·rw [if_neg hC] at hcr
   rw [if_neg hC]
   simp only [aE,aP] at hcr hrw
   refine bB follows Tryz.func28 (by unfold Tryz.f28;rfl) (by unfold Tryz.f28;simp) nH (by unfold Tryz.f28;simp) (by kernel_rfl) ?_;unfold Tryz.f28
   simp only [↓pre,simprocAttr,aA,sx,pB,nH,bne,aC,hf,ho,aJ,aK,aF,aG,sr]
   refine aL (hck) (by simp only [aA,aO, *]) ?_;simp only [↓pre,simprocAttr,aA,sx,pB,nH,bne,aC,hf,ho,aJ,aK,aF,aG,hsr,f2,o2,s2,hC,sr];(refine bM (hrw) (by simp only [aA,aO, *]) (by intro k;simp only [sq,sr, *]) ?_);simp only [↓pre,simprocAttr,aA,sx,pB,nH,bne,aC,hf,ho,aJ,aK,aF,aG,hsr,f2,o2,s2,hC,sr];(refine bM (hcr) (by simp only [aA,aO, *]) (by intro k;rfl) ?_);simp only [↓pre,simprocAttr,aA,sx,pB,nH,bne,aC,hf,ho,aJ,aK,aF,aG,hsr,f2,o2,s2,hC,sr]
   refine mG (by kernel_rfl) ?_
   simp only [↓pre,simprocAttr,aA,sx,pB,nH,bne,aC,hf,ho,aJ,aK,aF,aG,f2,o2,s2,sr]
   refine cU (by kernel_rfl) ?_
   simp only [↓pre,simprocAttr,aA,sx,pB,nH,bne,aC,hf,ho,aJ,aK,aF,aG,f2,o2,s2,hC,sr]
 ·simp only [if_neg hR]
  refine bB follows Tryz.func28 (by unfold Tryz.f28;rfl) (by unfold Tryz.f28;simp) nH (by unfold Tryz.f28;simp) (by kernel_rfl) ?_;unfold Tryz.f28
  simp only [↓pre,simprocAttr,aA,sx,pB,nH,bne,aC,hf,ho,aJ,aK,aF,aG,sr]
  refine aL (hck) (by simp only [aA,aO, *]) ?_;simp only [↓pre,simprocAttr,aA,sx,pB,nH,bne,aC,hf,ho,aJ,aK,aF,aG,hR,sr]
theorem auv {k r c w:Int} (hm:bL k r c w=true):((wI k c).toNat:Int)=wI k c∧1≤wI k c:=by
 have:=gU hm
 unfold wI
 omega
theorem anB {k r c w:Int} {L:List (List UInt8)} {row:Int} (h:iM k r c w L row=0) {N:Nat} (hN:b6 (cB k r c w L row)=(N:Int)):N≤(dS k r c w L row).length*(wI k c).toNat:=by
 obtain ⟨h1,_,h2⟩:=atu h
 obtain ⟨hm,hl,_⟩:=acv h1
 obtain ⟨hw,hw1⟩:=auv hm
 unfold oS at h2
 rw [if_pos h1] at h2
 unfold sI at h2
 have:=am5 (a:=b6 (cB k r c w L row)) (b:=wI k c) hl hw1
 rw [←h2,hN,←hw,←Int.natCast_mul] at this
 omega
theorem ag3 (k r c w:Int) (L:List (List UInt8)) (l:List b9) (fr to:Nat):∃ a e,xJ k r c w L l fr to = .tup [a,aE e]∧(∀ j,shift j a=a)∧eG a:=by
 unfold xJ
 split
 ·exact ⟨_,_,rfl,fun j=>abA,kK (dH _ _)⟩
 ·exact ⟨_,_,rfl,fun j=>rfl,bU _⟩
def xK (k r c w:Int) (L:List (List UInt8)) (row:Int):AV:=if iM k r c w L row=0 then xJ k r c w L (dS k r c w L row) 0 (b6 (cB k r c w L row)).toNat else .tup [aP,aE (iM k r c w L row)]
theorem auw (k r c w:Int) (L:List (List UInt8)) (row:Int):∃ a e,xK k r c w L row = .tup [a,aE e]∧(∀ j,shift j a=a)∧eG a:=by
 unfold xK
 split
 ·exact ag3 _ _ _ _ _ _ _ _
 ·exact ⟨_,_,rfl,fun j=>rfl,bU _⟩
theorem aux (k r c w row:Int) (v:AV) (L:List (List UInt8)) (cells:List AV) (hv:fT v L cells) (hR:eY k r c w L row=0):aY Tryz.prog 104 [dD k r c w v,aE row] ⟨xK k r c w L row,[]⟩:=by
 refine dY ?_
 have hp:=hv.rd.plain
 have hf:=cA hv.rd
 have ho:=bP hv.rd
 have hob:=anz k r c w row v L cells hv hR
 unfold xK
 unfold aev at hob
 unfold dD at hob ⊢
 by_cases hE:iM k r c w L row=0
 ·rw [if_pos hE] at hob ⊢
  obtain ⟨hI,_,_,hre,hlen,hl0,hl1⟩:=xF hE
  obtain ⟨N,hN⟩:∃ N:Nat,b6 (cB k r c w L row)=(N:Int):=⟨(b6 (cB k r c w L row)).toNat,by omega⟩
  have hRr:=dH (cE (cB k r c w L row)).length (bW (cE (cB k r c w L row)))
  have hLr:=dH (kM k r c w L row).length (bW (kM k r c w L row))
  have hSr:=dH (dS k r c w L row).length (bW (dS k r c w L row))
  have hcu:=anA k r c w (b6 (cB k r c w L row)) (dK (cB k r c w L row)) (gA k r c w (dM k r w L row)) v L cells hv hI _ _ (bE (dS k r c w L row).length (bW (dS k r c w L row))) _ _ _ _ hRr hLr (dS k r c w L row) ⟨[],by rw [List.append_nil];exact hSr⟩ hre hlen 0 N (by omega) (anB hE hN)
  obtain ⟨a,e,he,hsh,hid⟩:=ag3 k r c w L (dS k r c w L row) 0 N
  have hz:=fun m=>gS hid (bU (.int .i64 e)) 1 m
  replace hz:=aB.mk hz
  rw [hN,Int.toNat_natCast,he]
  rw [he] at hcu
  unfold s9 s6 at hob
  unfold dD s9 at hcu
  rw [hN] at hob hcu
  generalize bE (cE (cB k r c w L row)).length (bW (cE (cB k r c w L row)))=DV at *
  generalize bE (kM k r c w L row).length (bW (kM k r c w L row))=LV at *
  generalize bE (dS k r c w L row).length (bW (dS k r c w L row))=SV at *
  have f2:=cA hRr
  have o2:=bP hRr
  have s2:=cK hRr
  have p2:=hRr.plain
  have f3:=cA hLr
  have o3:=bP hLr
  have s3:=cK hLr
  have p3:=hLr.plain
  have f4:=cA hSr
  have o4:=bP hSr
  have s4:=cK hSr
  have p4:=hSr.plain
  generalize dK (cB k r c w L row)=PD at *
  generalize gA k r c w (dM k r w L row)=W at *
  simp only [aE,Int.natCast_zero,Int.cast_ofNat_Int] at hob hcu
  replace hE:=aB.mk hE
  replace hN:=aB.mk hN
  replace hre:=aB.mk hre
  replace hlen:=aB.mk hlen
  replace hl0:=aB.mk hl0
  replace hl1:=aB.mk hl1
  replace he:=aB.mk he
  replace hRr:=aB.mk hRr
  replace hLr:=aB.mk hLr
  replace hSr:=aB.mk hSr
  refine bJ follows Tryz.func104 (by unfold Tryz.f104;rfl) (by unfold Tryz.f104;simp) aD (by unfold Tryz.f104;simp) (by kernel_rfl) ?_;unfold Tryz.f104
  simp only [↓pre,simprocAttr,aA,sx,abG,aD,aC,hf,ho,aJ,aK,aF,aG,sr]
  refine aL (hob) (by simp only [aA,aO, *]) ?_;simp only [↓pre,simprocAttr,aA,sx,abG,aD,aC,hf,ho,aJ,aK,aF,aG,f2,o2,s2,f3,o3,s3,f4,o4,s4,hsh,sr];refine aL (hcu) (by simp only [aA,aO, *]) ?_;simp only [↓pre,simprocAttr,aA,sx,abG,aD,aC,hf,ho,aJ,aK,aF,aG,f2,o2,s2,f3,o3,s3,f4,o4,s4,hsh,sr]
  exact ⟨1,hz.out _⟩
 ·rw [if_neg hE] at hob ⊢
  unfold acw s9 aP at hob
  simp only [aE] at hob
  refine bJ follows Tryz.func104 (by unfold Tryz.f104;rfl) (by unfold Tryz.f104;simp) aD (by unfold Tryz.f104;simp) (by kernel_rfl) ?_;unfold Tryz.f104
  simp only [↓pre,simprocAttr,aA,sx,abG,aD,aC,hf,ho,aJ,aK,aF,aG,sr]
  refine aL (hob) (by simp only [aA,aO, *]) ?_;simp only [↓pre,simprocAttr,aA,sx,abG,aD,aC,hf,ho,aJ,aK,aF,aG,hE,sr]
  exact ⟨1,gS (bU (.slice none 0 0)) (bU (.int .i64 (iM k r c w L row))) 1 _⟩
theorem auy (k r c w row:Int) (v:AV) (L:List (List UInt8)) (cells:List AV) (hv:fT v L cells):aY Tryz.prog 30 [dD k r c w v,aE row] ⟨xK k r c w L row,[]⟩:=by
 refine dY ?_
 have hp:=hv.rd.plain
 have hf:=cA hv.rd
 have ho:=bP hv.rd
 have hck:=ag1 k r c w row v L cells hv
 have hal:=aux k r c w row v L cells hv
 unfold dD at hck hal ⊢
 by_cases hR:eY k r c w L row=0
 ·rw [hR] at hck
  have hal:=hal hR
  obtain ⟨a,e,he,hsh,hid⟩:=auw k r c w L row
  rw [he] at hal ⊢
  have hz:=fun m=>gS hid (bU (.int .i64 e)) 1 m
  replace hz:=aB.mk hz
  replace hR:=aB.mk hR
  simp only [aE] at hal
  refine bJ follows Tryz.func30 (by unfold Tryz.f30;rfl) (by unfold Tryz.f30;simp) aD (by unfold Tryz.f30;simp) (by kernel_rfl) ?_;unfold Tryz.f30
  simp only [↓pre,simprocAttr,aA,sx,abF,aD,aC,hf,ho,sr]
  refine aL (hck) (by simp only [aA,aO, *]) ?_;simp only [↓pre,simprocAttr,aA,sx,abF,aD,aC,hf,ho,hsh,sr];refine aL (hal) (by simp only [aA,aO, *]) ?_;simp only [↓pre,simprocAttr,aA,sx,abF,aD,aC,hf,ho,hsh,sr]
  exact ⟨1,hz.out _⟩
 ·clear hal
  have hO:iM k r c w L row=eY k r c w L row:=by unfold iM;rw [if_neg hR]
  unfold xK
  rw [hO,if_neg hR]
  refine bJ follows Tryz.func30 (by unfold Tryz.f30;rfl) (by unfold Tryz.f30;simp) aD (by unfold Tryz.f30;simp) (by kernel_rfl) ?_;unfold Tryz.f30
  simp only [↓pre,simprocAttr,aA,sx,abF,aD,aC,hf,ho,sr]
  refine aL (hck) (by simp only [aA,aO, *]) ?_;simp only [↓pre,simprocAttr,aA,sx,abF,aD,aC,hf,ho,hR,sr]
  exact ⟨1,gS (bU (.slice none 0 0)) (bU (.int .i64 (eY k r c w L row))) 1 _⟩
def aew (k r c w:Int) (L:List (List UInt8)) (row off n:Int):AV:=if s7 k r c w L row off n=0 then xJ k r c w L (dS k r c w L row) (min off (b6 (cB k r c w L row))).toNat (min (off+n) (b6 (cB k r c w L row))).toNat else .tup [aP,aE (s7 k r c w L row off n)]
theorem auz (k r c w row off n:Int) (v:AV) (L:List (List UInt8)) (cells:List AV) (hv:fT v L cells):aY Tryz.prog 32 [dD k r c w v,aE row,aE off,aE n] ⟨aew k r c w L row off n,[]⟩:=by
 refine dY ?_
 have hp:=hv.rd.plain
 have hf:=cA hv.rd
 have ho:=bP hv.rd
 have hck:=ag1 k r c w row v L cells hv
 have hnil:=fun (e:Int) m=>gS (bU (.slice none 0 0)) (bU (.int .i64 e)) 1 m
 replace hnil:=aB.mk hnil
 unfold aew s7
 unfold dD at hck ⊢
 by_cases hR:eY k r c w L row=0
 ·have hck2:=hck
  rw [hR] at hck
  rw [if_pos hR]
  clear hck2
  obtain ⟨_,hm⟩:=sZ hR
  have hmo:=afU k r c w hm
  have hml:=aaE k c
  have hob:=anz k r c w row v L cells hv hR
  unfold aev at hob
  unfold dD at hob
  by_cases h1:off < 0
  ·rw [if_pos (Or.inl h1),if_neg (by decide)]
   refine bJ follows Tryz.func32 (by unfold Tryz.f32;rfl) (by unfold Tryz.f32;simp) aD (by unfold Tryz.f32;simp) (by kernel_rfl) ?_;unfold Tryz.f32
   simp only [↓pre,simprocAttr,aA,sx,jI,aD,aC,hf,ho,aJ,aK,aF,aG,sr]
   refine aL (hck) (by simp only [aA,aO, *]) ?_;simp only [↓pre,simprocAttr,aA,sx,jI,aD,aC,hf,ho,aJ,aK,aF,aG,h1,sr]
   exact ⟨1,hnil.out _ _⟩
  ·by_cases h2:n < 0
   ·rw [if_pos (Or.inr h2),if_neg (by decide)]
    refine bJ follows Tryz.func32 (by unfold Tryz.f32;rfl) (by unfold Tryz.f32;simp) aD (by unfold Tryz.f32;simp) (by kernel_rfl) ?_;unfold Tryz.f32
    simp only [↓pre,simprocAttr,aA,sx,jI,aD,aC,hf,ho,aJ,aK,aF,aG,sr]
    refine aL (hck) (by simp only [aA,aO, *]) ?_;simp only [↓pre,simprocAttr,aA,sx,jI,aD,aC,hf,ho,aJ,aK,aF,aG,h1,h2,sr]
    exact ⟨1,hnil.out _ _⟩
   ·rw [if_neg (show ¬ (off < 0∨n < 0) by omega)]
    by_cases h3:mI k c < off
    ·rw [if_pos (Or.inl h3),if_neg (by decide)]
     refine bJ follows Tryz.func32 (by unfold Tryz.f32;rfl) (by unfold Tryz.f32;simp) aD (by unfold Tryz.f32;simp) (by kernel_rfl) ?_;unfold Tryz.f32
     simp only [↓pre,simprocAttr,aA,sx,jI,aD,aC,hf,ho,aJ,aK,aF,aG,sr]
     refine aL (hck) (by simp only [aA,aO, *]) ?_;simp only [↓pre,simprocAttr,aA,sx,jI,aD,aC,hf,ho,aJ,aK,aF,aG,h1,h2,h3,sr];refine aL (hmo) (by rfl) ?_;simp only [↓pre,simprocAttr,aA,sx,jI,aD,aC,hf,ho,aJ,aK,aF,aG,h1,h2,h3,sr]
     exact ⟨1,hnil.out _ _⟩
    ·by_cases h4:mI k c < n
     ·rw [if_pos (Or.inr (show mI k c - off < n by omega)),if_neg (by decide)]
      replace hml:=aB.mk hml
      refine bJ follows Tryz.func32 (by unfold Tryz.f32;rfl) (by unfold Tryz.f32;simp) aD (by unfold Tryz.f32;simp) (by kernel_rfl) ?_;unfold Tryz.f32
      simp only [↓pre,simprocAttr,aA,sx,jI,aD,aC,hf,ho,aJ,aK,aF,aG,sr]
      refine aL (hck) (by simp only [aA,aO, *]) ?_;simp only [↓pre,simprocAttr,aA,sx,jI,aD,aC,hf,ho,aJ,aK,aF,aG,h1,h2,h3,h4,sr];refine aL (hmo) (by rfl) ?_;simp only [↓pre,simprocAttr,aA,sx,jI,aD,aC,hf,ho,aJ,aK,aF,aG,h1,h2,h3,h4,sr]
      exact ⟨1,hnil.out _ _⟩
     ·have wo:IntKind.i64.wrap (off+n)=off+n:=dU (by omega) (by omega)
      by_cases h5:mI k c < off+n
      ·rw [if_pos (Or.inr (show mI k c - off < n by omega)),if_neg (by decide)]
       replace hml:=aB.mk hml
       refine bJ follows Tryz.func32 (by unfold Tryz.f32;rfl) (by unfold Tryz.f32;simp) aD (by unfold Tryz.f32;simp) (by kernel_rfl) ?_;unfold Tryz.f32
       simp only [↓pre,simprocAttr,aA,sx,jI,aD,aC,hf,ho,aJ,aK,aF,aG,sr]
       refine aL (hck) (by simp only [aA,aO, *]) ?_;simp only [↓pre,simprocAttr,aA,sx,jI,aD,aC,hf,ho,aJ,aK,aF,aG,h1,h2,h3,h4,wo,h5,sr];refine aL (hmo) (by rfl) ?_;simp only [↓pre,simprocAttr,aA,sx,jI,aD,aC,hf,ho,aJ,aK,aF,aG,h1,h2,h3,h4,wo,h5,sr]
       exact ⟨1,hnil.out _ _⟩
      ·rw [if_neg (show ¬ (mI k c < off∨mI k c - off < n) by omega)]
       by_cases hE:iM k r c w L row=0
       ·rw [if_pos hE] at hob ⊢
        obtain ⟨hI,_,_,hre,hlen,hl0,hl1⟩:=xF hE
        obtain ⟨PL,hPL⟩:∃ PL:Nat,b6 (cB k r c w L row)=(PL:Int):=⟨(b6 (cB k r c w L row)).toNat,by omega⟩
        obtain ⟨A,hA⟩:∃ A:Nat,min off (b6 (cB k r c w L row))=(A:Int):=⟨(min off (b6 (cB k r c w L row))).toNat,by omega⟩
        obtain ⟨Z,hZ⟩:∃ Z:Nat,min (off+n) (b6 (cB k r c w L row))=(Z:Int):=⟨(min (off+n) (b6 (cB k r c w L row))).toNat,by omega⟩
        have hwd:=anB hE hPL
        have hRr:=dH (cE (cB k r c w L row)).length (bW (cE (cB k r c w L row)))
        have hLr:=dH (kM k r c w L row).length (bW (kM k r c w L row))
        have hSr:=dH (dS k r c w L row).length (bW (dS k r c w L row))
        have hcu:=anA k r c w (b6 (cB k r c w L row)) (dK (cB k r c w L row)) (gA k r c w (dM k r w L row)) v L cells hv hI _ _ (bE (dS k r c w L row).length (bW (dS k r c w L row))) _ _ _ _ hRr hLr (dS k r c w L row) ⟨[],by rw [List.append_nil];exact hSr⟩ hre hlen A Z (by omega) (by omega)
        obtain ⟨a,e,he,hsh,hid⟩:=ag3 k r c w L (dS k r c w L row) A Z
        have hz:=fun m=>gS hid (bU (.int .i64 e)) 1 m
        replace hz:=aB.mk hz
        rw [hA,hZ,Int.toNat_natCast,Int.toNat_natCast,he]
        rw [he] at hcu
        unfold s9 s6 at hob
        unfold dD s9 at hcu
        generalize bE (cE (cB k r c w L row)).length (bW (cE (cB k r c w L row)))=DV at *
        generalize bE (kM k r c w L row).length (bW (kM k r c w L row))=LV at *
        generalize bE (dS k r c w L row).length (bW (dS k r c w L row))=SV at *
        have f2:=cA hRr
        have o2:=bP hRr
        have s2:=cK hRr
        have p2:=hRr.plain
        have f3:=cA hLr
        have o3:=bP hLr
        have s3:=cK hLr
        have p3:=hLr.plain
        have f4:=cA hSr
        have o4:=bP hSr
        have s4:=cK hSr
        have p4:=hSr.plain
        generalize b6 (cB k r c w L row)=PP at *
        generalize dK (cB k r c w L row)=PD at *
        generalize gA k r c w (dM k r w L row)=W at *
        simp only [aE] at hob hcu
        replace hE:=aB.mk hE
        replace hre:=aB.mk hre
        replace hlen:=aB.mk hlen
        replace hl0:=aB.mk hl0
        replace hl1:=aB.mk hl1
        replace he:=aB.mk he
        replace hRr:=aB.mk hRr
        replace hLr:=aB.mk hLr
        replace hSr:=aB.mk hSr
        replace hPL:=aB.mk hPL
        replace hml:=aB.mk hml
        replace hwd:=aB.mk hwd
        replace hR:=aB.mk hR
        refine bJ follows Tryz.func32 (by unfold Tryz.f32;rfl) (by unfold Tryz.f32;simp) aD (by unfold Tryz.f32;simp) (by kernel_rfl) ?_;unfold Tryz.f32
        simp only [↓pre,simprocAttr,aA,sx,jI,aD,aC,hf,ho,aJ,aK,aF,aG,sr]
        refine aL (hck) (by simp only [aA,aO, *]) ?_;simp only [↓pre,simprocAttr,aA,sx,jI,aD,aC,hf,ho,aJ,aK,aF,aG,h1,h2,h3,h4,wo,h5,hA,hZ,f2,o2,s2,f3,o3,s3,f4,o4,s4,hsh,sr];refine aL (hmo) (by rfl) ?_;simp only [↓pre,simprocAttr,aA,sx,jI,aD,aC,hf,ho,aJ,aK,aF,aG,h1,h2,h3,h4,wo,h5,hA,hZ,f2,o2,s2,f3,o3,s3,f4,o4,s4,hsh,sr];refine aL (hob) (by simp only [aA,aO, *]) ?_;simp only [↓pre,simprocAttr,aA,sx,jI,aD,aC,hf,ho,aJ,aK,aF,aG,h1,h2,h3,h4,wo,h5,hA,hZ,f2,o2,s2,f3,o3,s3,f4,o4,s4,hsh,sr];refine aL (hcu) (by simp only [aA,aO, *]) ?_;simp only [↓pre,simprocAttr,aA,sx,jI,aD,aC,hf,ho,aJ,aK,aF,aG,h1,h2,h3,h4,wo,h5,hA,hZ,f2,o2,s2,f3,o3,s3,f4,o4,s4,hsh,sr]
        exact ⟨1,hz.out _⟩
       ·rw [if_neg hE] at hob ⊢
        unfold acw s9 aP at hob
        simp only [aE] at hob
        replace hml:=aB.mk hml
        refine bJ follows Tryz.func32 (by unfold Tryz.f32;rfl) (by unfold Tryz.f32;simp) aD (by unfold Tryz.f32;simp) (by kernel_rfl) ?_;unfold Tryz.f32
        simp only [↓pre,simprocAttr,aA,sx,jI,aD,aC,hf,ho,aJ,aK,aF,aG,sr]
        refine aL (hck) (by simp only [aA,aO, *]) ?_;simp only [↓pre,simprocAttr,aA,sx,jI,aD,aC,hf,ho,aJ,aK,aF,aG,h1,h2,h3,h4,wo,h5,hE,sr];refine aL (hmo) (by rfl) ?_;simp only [↓pre,simprocAttr,aA,sx,jI,aD,aC,hf,ho,aJ,aK,aF,aG,h1,h2,h3,h4,wo,h5,hE,sr];refine aL (hob) (by simp only [aA,aO, *]) ?_;simp only [↓pre,simprocAttr,aA,sx,jI,aD,aC,hf,ho,aJ,aK,aF,aG,h1,h2,h3,h4,wo,h5,hE,sr]
        exact ⟨1,hnil.out _ _⟩
 ·rw [if_neg hR,if_neg hR]
  refine bJ follows Tryz.func32 (by unfold Tryz.f32;rfl) (by unfold Tryz.f32;simp) aD (by unfold Tryz.f32;simp) (by kernel_rfl) ?_;unfold Tryz.f32
  simp only [↓pre,simprocAttr,aA,sx,jI,aD,aC,hf,ho,aJ,aK,aF,aG,sr]
  refine aL (hck) (by simp only [aA,aO, *]) ?_;simp only [↓pre,simprocAttr,aA,sx,jI,aD,aC,hf,ho,aJ,aK,aF,aG,hR,sr]
  exact ⟨1,hnil.out _ _⟩
theorem auA (v:AV) (bs:List UInt8) (x:List AV) (hv:bD v bs.length (aQ bs++x)):aY Tryz.prog 99 [v] ⟨fE bs,[]⟩:=by
 refine dY ?_
 have hp:=hv.plain
 have hx:=fun (d c:Bool) (m:aH)=>rI (d:=d) (c:=c) (m:=m) hv
 unfold fE
 by_cases h:bs.length=0
 ·rw [if_pos h]
  have h':((bs.length:Nat):Int)=0:=by omega
  refine bJ follows Tryz.func99 (by unfold Tryz.f99;rfl) (by unfold Tryz.f99;simp) aD (by unfold Tryz.f99;simp) (by kernel_rfl) ?_;unfold Tryz.f99
  simp only [↓pre,simprocAttr,aA,sx,akt,aD,aC,dC,cS,eq_self,hv.len',h']
  exact ⟨0,fP⟩
 ·rw [if_neg h]
  have h':¬ ((bs.length:Nat):Int)=0:=by omega
  refine bJ follows Tryz.func99 (by unfold Tryz.f99;rfl) (by unfold Tryz.f99;simp) aD (by unfold Tryz.f99;simp) (by kernel_rfl) ?_;unfold Tryz.f99
  simp only [↓pre,simprocAttr,aA,sx,akt,aD,aC,dC,cS,eq_self,hv.len',h',hx,arD]
  exact ⟨0,x4⟩
theorem auB (L:List (List UInt8)):fT (bE L.length (L.map fE)) L (L.map fE):=⟨dH _ _,fun i b hb=>⟨_,[],by rw [List.getElem?_map,hb];rfl,aaW b⟩⟩
def zC:Nat→Bool:=fun d=>d != 2 && d != 3 && d != 16
theorem auC (k r c w:Int) (v:AV) (L:List (List UInt8)) (cells:List AV) (hv:fT v L cells) (hn:L.length*24≤140737488355328):aY Tryz.prog 26 [dD k r c w v] ⟨dD k r c w (bE L.length (L.map fE)),[]⟩:=by
 refine dY ?_
 have hp:=hv.rd.plain
 have hf:=cA hv.rd
 have ho:=bP hv.rd
 have hby:=fun (i:Nat) (b:List UInt8) (hb:L[i]? = some b)=>hv.at_ i b hb
 have hid:∀ x∈L.map fE,eG x:=fun x hx=>by
  obtain ⟨b,_,rfl⟩:=List.mem_map.1 hx
  exact kK (aaW b)
 unfold dD
 replace hby:=aB.mk hby
 replace hid:=aB.mk hid
 replace hn:=aB.mk hn
 refine bJ follows Tryz.func26 (by unfold Tryz.f26;rfl) (by unfold Tryz.f26;simp) zC (by unfold Tryz.f26;simp) (by kernel_rfl) ?_;unfold Tryz.f26
 simp only [↓pre,simprocAttr,aA,sx,aao,c8,zC,bne,aC,aI,aM,aJ,aK,aF,aG,bX,bO,aW,Nat.one_ne_zero,Nat.zero_ne_one,Nat.reduceEqDiff,hf,ho,hv.rd.len',sr]
 rw [b7]
 refine b8 (fun q e m=>∃ i lv,q+i=L.length∧e 1 = .tptr 0 [aE k,aE r,aE c,aE w,v]∧e 2 = .ptr 0 0∧e 3 = .ptr 1 0∧e 4=aE (i:Nat)∧aB (m.at_ 0=some ⟨[aE 0,aE 0,aE 0,aE 0,aP],47,.var,true⟩∧m.at_ 1=some ⟨[aE k,aE r,aE c,aE w,lv],47,.var,true⟩∧1 < m.next∧cH .var m 52 1 lv i ((L.take i).map fE)∧(∀ j,cP lv=some j→1 < j))) L.length ⟨0,aP,by omega,rfl,rfl,rfl,rfl,⟨rfl,rfl,by simp [bX,bO,aW],gT,fun j h=>by simp [cP,aP] at h⟩⟩ ?_
 rintro q e m ⟨i,lv,hq,e1,e2,e3,e4,hJ⟩
 replace hq:=aB.mk hq
 obtain ⟨b0,b1,hnx,hown,hblk⟩:=hJ.out
 clear hJ
 have hok0:=hown.ok
 have hon0:=hown.one
 have hce0:=hown.cells
 by_cases hlt:i < L.length
 ·have hlt':((i:Nat):Int) < ((L.length:Nat):Int):=by omega
  have wi:=cF (n:=i) (by have:=hn.out;omega)
  obtain ⟨b,hb⟩:∃ b,L[i]? = some b:=⟨_,List.getElem?_eq_getElem hlt⟩
  obtain ⟨a,x,hca,hra⟩:=hby.out i b hb
  have h1:=auA a b x hra
  have htk:L.take (i+1)=L.take i++[b]:=by rw [List.take_add_one,hb];rfl
  have hbr:=aaW b
  have ob:=bP hbr
  have sb':=cK hbr
  have kb:=tW hbr
  have cb:=tV hbr
  have pa:=hra.plain
  have hbt:∀ m,fV Tryz.prog m 45 1 [(0,fE b)]=some ⟨.tree 1 1 [fE b] true,m,none⟩:=fun m=>xZ (el:=52) (sz:=1) (z:=[.val (.slice none 0 0)]) (by kernel_rfl) (by kernel_rfl) (by kernel_rfl) (by simp [fU,cI,cb,kb,ob]) (by simp [jH,ack hbr]) (by decide)
  have hm2:(L.take (i+1)).map fE=(L.take i).map fE++[fE b]:=by rw [htk,List.map_append];rfl
  generalize fE b=BV at *
  replace htk:=aB.mk htk
  replace hb:=aB.mk hb
  replace hown:=aB.mk hown
  replace hblk:=aB.mk hblk
  replace hbr:=aB.mk hbr
  replace hm2:=aB.mk hm2
  simp only [↓pre,simprocAttr,aA,sx,aao,c8,zC,bne,aC,aI,aM,aJ,aK,aF,aG,bX,bO,aW,Nat.one_ne_zero,Nat.zero_ne_one,Nat.reduceEqDiff,hf,ho,hv.rd.len',e1,e2,e3,e4,b0,b1,hok0,hon0,hce0,hlt',hv.rd.addr',hlt,hca,ob,↓kb,↓cb,hbt,sr]
  (refine bM (h1) (by simp only [aA,aO, *]) (by intro k;simp only [sq,sr, *]) ?_);simp only [↓pre,simprocAttr,aA,sx,aao,c8,zC,bne,aC,aI,aM,aJ,aK,aF,aG,bX,bO,aW,Nat.one_ne_zero,Nat.zero_ne_one,Nat.reduceEqDiff,hf,ho,hv.rd.len',e1,e2,e3,e4,b0,b1,hok0,hon0,hce0,sb',ob,↓kb,↓cb,hbt,sr]
  refine tE (kd := .var) (sz:=1) (y:=24) (zl:=[.slice none 0 0]) (by kernel_rfl) hown.out (by kernel_rfl) (by kernel_rfl) (by kernel_rfl) rfl mH rfl (by have:=hn.out;omega) (by have:=hn.out;omega) fun lv' m4 ho' hn' hkp hbk _ => ?_
  have hnb:∀ j,j≤1→cP lv≠some j:=fun j h1 h2=>by have:=hblk.out j h2;omega
  have d0:=hkp 0 _ b0 (by omega) (hnb 0 (by omega))
  have d1:=hkp 1 _ b1 (by omega) (hnb 1 (by omega))
  have hbk':∀ j,cP lv'=some j→1 < j:=fun j hj=>by
   rcases hbk j hj with h | h
   ·omega
   ·exact hblk.out j h
  have ok1:=ho'.ok
  have ok2:=ho'.one
  have ok3:=ho'.cells
  replace hkp:=aB.mk hkp
  replace hbk:=aB.mk hbk
  replace hbk':=aB.mk hbk'
  replace hnb:=aB.mk hnb
  replace ho':=aB.mk ho'
  refine cU (by kernel_rfl) ?_
  simp only [↓pre,simprocAttr,aA,sx,aao,c8,zC,bne,aC,aI,aM,aJ,aK,aF,aG,bX,bO,aW,Nat.one_ne_zero,Nat.zero_ne_one,Nat.reduceEqDiff,hf,ho,hv.rd.len',e1,e2,e3,e4,d1,ok1,ok2,ok3,sr]
  refine cU (by kernel_rfl) ?_
  simp only [↓pre,simprocAttr,aA,sx,aao,c8,zC,bne,aC,aI,aM,aJ,aK,aF,aG,bX,bO,aW,Nat.one_ne_zero,Nat.zero_ne_one,Nat.reduceEqDiff,hf,ho,hv.rd.len',e1,e2,e3,e4,wi,sr]
  refine ⟨q - 1,by have:=hq.out;omega,i+1,lv',by have:=hq.out;omega,rfl,⟨d0,rfl,by omega, ?_,hbk'.out⟩⟩
  rw [hm2.out]
  exact ho'.out.put_ne (fun h=>by have:=hbk'.out 1 h;omega)
 ·have hlt':¬ ((i:Nat):Int) < ((L.length:Nat):Int):=by omega
  have hi:i=L.length:=by have:=hq.out;omega
  rw [hi,List.take_length] at hown
  have hne0:cP lv≠some 0:=fun h=>by have:=hblk 0 h;omega
  have hfin:=fun x=>ad3 (hown.put_ne (x:=x) hne0) hid.out 1
  replace hfin:=aB.mk hfin
  replace hne0:=aB.mk hne0
  replace hown:=aB.mk hown
  simp only [↓pre,simprocAttr,aA,sx,aao,c8,zC,bne,aC,aI,aM,aJ,aK,aF,aG,bX,bO,aW,Nat.one_ne_zero,Nat.zero_ne_one,Nat.reduceEqDiff,hf,ho,hv.rd.len',e1,e2,e3,e4,b0,b1,hok0,hon0,hce0,hlt',sr]
  exact ⟨2,by rw [abB,dT,fP,Option.bind_some,dT,fP,Option.bind_some,dT,fP,Option.bind_some,dT,fP,Option.bind_some,dT,hfin.out,Option.bind_some,jC];rfl⟩
theorem auD (k r c w:Int) (x y:Operand):dP Tryz.prog .neq 23 x y (.agg [.val (.int .i64 k),.val (.int .i64 r),.val (.int .i64 c),.val (.int .i64 w)]) (.agg [.val (.int .i64 k),.val (.int .i64 r),.val (.int .i64 c),.val (.int .i64 w)])=some (.val (.bool false)):=by
 have h:uL Tryz.prog #[.int .i64 k,.int .i64 r,.int .i64 c,.int .i64 w] #[.int .i64 k,.int .i64 r,.int .i64 c,.int .i64 w] (aad Tryz.prog 23)=if k=k then (if r=r then (if c=c then (if w=w then some true else some false) else some false) else some false) else some false:=by kernel_rfl
 rw [if_pos rfl,if_pos rfl,if_pos rfl,if_pos rfl] at h
 exact (apL (a:=[.val (.int .i64 k),.val (.int .i64 r),.val (.int .i64 c),.val (.int .i64 w)]) (b:=[.val (.int .i64 k),.val (.int .i64 r),.val (.int .i64 c),.val (.int .i64 w)]) (u:=[.int .i64 k,.int .i64 r,.int .i64 c,.int .i64 w]) (v:=[.int .i64 k,.int .i64 r,.int .i64 c,.int .i64 w]) rfl rfl (by kernel_rfl) (by kernel_rfl) (by kernel_rfl) h).2
theorem auE (k r c w:Int) (v v':AV) (L:List (List UInt8)) (cells cells':List AV) (hv:fT v L cells) (hv':fT v' L cells') (hn:L.length*24≤140737488355328):aY Tryz.prog 33 [dD k r c w v,dD k r c w v'] ⟨bC true,[]⟩:=by
 have hp:=hv.rd.plain
 have hf:=cA hv.rd
 have ho:=bP hv.rd
 have hp':=hv'.rd.plain
 have hf':=cA hv'.rd
 have ho':=bP hv'.rd
 have hpn:=auD k r c w
 have hat:=fun (i:Nat) (b:List UInt8) (hb:L[i]? = some b)=>hv.at_ i b hb
 have hat':=fun (i:Nat) (b:List UInt8) (hb:L[i]? = some b)=>hv'.at_ i b hb
 unfold dD
 replace hat:=aB.mk hat
 replace hat':=aB.mk hat'
 replace hn:=aB.mk hn
 refine bB follows Tryz.func33 (by unfold Tryz.f33;rfl) (by unfold Tryz.f33;simp) aD (by unfold Tryz.f33;simp) (by kernel_rfl) ?_;unfold Tryz.f33
 simp only [↓pre,simprocAttr,aA,sx,afF,aD,aC,aI,aM,hf,ho,hf',ho',hv.rd.len',hv'.rd.len',hpn,sr]
 rw [b7]
 refine b8 (fun q e m=>∃ i,q+i=L.length∧e 2 = .tptr 0 [aE k,aE r,aE c,aE w,v]∧e 3 = .tptr 0 [aE k,aE r,aE c,aE w,v']∧e 5=aE (i:Nat)) L.length ⟨0,by omega,rfl,rfl,rfl⟩ ?_
 rintro q e m ⟨i,hq,e2,e3,e5⟩
 replace hq:=aB.mk hq
 by_cases hlt:i < L.length
 ·have hlt':((i:Nat):Int) < ((L.length:Nat):Int):=by omega
  have wi:=cF (n:=i) (by have:=hn.out;omega)
  obtain ⟨b,hb⟩:∃ b,L[i]? = some b:=⟨_,List.getElem?_eq_getElem hlt⟩
  obtain ⟨a,x,hca,hra⟩:=hat.out i b hb
  obtain ⟨a',x',hca',hra'⟩:=hat'.out i b hb
  have hx1:=fun (d c:Bool) (m:aH)=>rI (d:=d) (c:=c) (m:=m) (x:=x) hra
  have hx2:=fun (d c:Bool) (m:aH)=>rI (d:=d) (c:=c) (m:=m) (x:=x') hra'
  have hne:∀ x y,dP Tryz.prog .neq 9 x y (kG b) (kG b)=some (.val (.bool false)):=fun x y=>by rw [acr,decide_eq_true rfl];rfl
  replace hb:=aB.mk hb
  simp only [↓pre,simprocAttr,aA,sx,afF,aD,aC,aI,aM,hf,ho,hf',ho',hv.rd.len',hv'.rd.len',hpn,e2,e3,e5,hlt',hv.rd.addr',hv'.rd.addr',hlt,hca,hca',hx1,hx2,hne,wi,sr]
  exact ⟨q - 1,by have:=hq.out;omega,i+1,by have:=hq.out;omega,rfl⟩
 ·have hlt':¬ ((i:Nat):Int) < ((L.length:Nat):Int):=by omega
  simp only [↓pre,simprocAttr,aA,sx,afF,aD,aC,aI,aM,hf,ho,hf',ho',hv.rd.len',hv'.rd.len',hpn,e2,e3,e5,hlt',sr]
def aa4 (m:aH) (v:AV) (r:iO):Prop:=mE Tryz.prog m v=some r
theorem ag4 {f:FuncId} {args:List AV} {r:iO} (h:gO Tryz.prog f args aH.empty fun v m=>aa4 m v r):aY Tryz.prog f args r:=aj7 h
def tA (bs:List UInt8) (e:Int):iO:=if bs.length=0 then ⟨.tup [.val (.slice none 0 0),.val (.int .i64 e)],[]⟩ else ⟨.tup [.sl 0 0 bs.length bs.length true,.val (.int .i64 e)],[(5,aQ bs)]⟩
theorem t6 (m:aH) (e:Int):aa4 m (.tup [.val (.slice none 0 0),.val (.int .i64 e)]) (tA [] e):=by
 simp [aa4,mE,canon,iH,tA]
theorem anC {m:aH} {bs:List UInt8} {b n:Nat} {e:Int} (hn:bs.length=n) (h0:n≠0) (hb:m.at_ b=some ⟨aQ bs,5,.flat,true⟩):aa4 m (.tup [.sl b 0 n n true,.val (.int .i64 e)]) (tA bs e):=by
 have h4:bR Tryz.prog 5 = .flat:=by kernel_rfl
 subst hn
 unfold tA
 rw [if_neg h0]
 simp [aa4,mE,canon,iH,hb,h4]
structure zD (m m1:aH) (a:AV) (bs:List UInt8):Prop where
 form:(a = .val (.slice none 0 0)∧bs=[]∧m1=m)∨(a = .sl m.next 0 bs.length bs.length true∧bs.length≠0∧m1=m.push ⟨aQ bs,5,.flat,true⟩)
theorem zD.canon {m m1:aH} {a:AV} {bs:List UInt8} (h:zD m m1 a bs) (e:Int):aa4 m1 (.tup [a,.val (.int .i64 e)]) (tA bs e):=by
 rcases h.form with ⟨rfl,rfl,rfl⟩ | ⟨rfl,h0,rfl⟩
 ·exact t6 _ _
 ·exact anC rfl h0 (by rw [aG,if_pos rfl])
theorem acx {d:Bool} {f:FuncId} {args:List AV} {m:aH} {K:bS→Prop} {bs:List UInt8} {e:Int} (h:aY Tryz.prog f args (tA bs e)) (hp:dX args=true) (hk:∀ a m1,zD m m1 a bs→K ⟨.tup [a,.val (.int .i64 e)],m1,none⟩):nY Tryz.prog d f args m K:=by
 refine aL h hp ?_
 have h4:bR Tryz.prog 5 = .flat:=by kernel_rfl
 unfold tA
 by_cases h0:bs.length=0
 ·rw [if_pos h0]
  have:=List.eq_nil_of_length_eq_zero h0
  subst this
  exact hk _ _ ⟨.inl ⟨rfl,rfl,rfl⟩⟩
 ·rw [if_neg h0]
  have:=hk _ _ ⟨.inr ⟨rfl,h0,rfl⟩⟩
  simpa [shift,gX,eB,g7,h4] using this
section
variable {k r c w:Int} {L:List (List UInt8)} {l:List b9} {fr to:Nat}
def qP (k r c w:Int) (L:List (List UInt8)) (l:List b9) (fr to:Nat):List UInt8:=if iG k r c w L l fr to=0 then kN k r c w L l fr to else []
theorem aex (h:to≤fr):iG k r c w L l fr to=0:=by
 unfold iG
 rw [if_neg]
 intro h2
 obtain ⟨i,_,h3⟩:=List.any_eq_true.1 h2
 rw [Bool.and_eq_true] at h3
 have:=h3.1
 unfold mO at this
 rw [decide_eq_true_eq] at this
 omega
theorem ag5 (h:to≤fr):qP k r c w L l fr to=[]:=by
 unfold qP
 rw [aex h,if_pos rfl,acs h]
end
set_option maxHeartbeats 2000000 in
theorem anD (k r c w:Int) (v:AV) (L:List (List UInt8)) (cells:List AV) (hv:fT v L cells) (hE:iU k r c w L=0) (sv:AV) (l:List b9) (hs:qM sv l) (hlr:∀ x∈l,i9 w x=true) (hl:l.length≤20000) (fr to:Nat) (hto:to≤40000):aY Tryz.prog 103 [dD k r c w v,sv,aE (fr:Nat),aE (to:Nat)] (tA (qP k r c w L l fr to) (iG k r c w L l fr to)):=by
 refine ag4 ?_
 have hp:=hv.rd.plain
 have hf:=cA hv.rd
 have ho:=bP hv.rd
 obtain ⟨hm,_,_⟩:=acm hE
 obtain ⟨x0,hsr⟩:=hs
 have hWd:=afW k r c w
 simp only [hm,if_true] at hWd
 have hw:=gU hm
 have hml:=jE.1 hm
 have hmn:=gF hm
 unfold dD
 by_cases hlt0:to≤fr
 ·rw [ag5 hlt0,aex hlt0]
  have h1:((to:Nat):Int)≤((fr:Nat):Int):=by omega
  refine bJ follows Tryz.func103 (by unfold Tryz.f103;rfl) (by unfold Tryz.f103;simp) pY (by unfold Tryz.f103;simp) (by kernel_rfl) ?_;unfold Tryz.f103
  simp only [↓pre,simprocAttr,aA,sx,rC,pY,bne,aC,aM,hf,ho,h1,sr]
  exact t6 _ _
 ·have h1:¬ ((to:Nat):Int)≤((fr:Nat):Int):=by omega
  obtain ⟨W,hW⟩:∃ W:Nat,wI k c=(W:Int):=⟨(wI k c).toNat,by unfold wI;omega⟩
  have hWn:(wI k c).toNat=W:=by omega
  have hW8:32≤W∧W≤768:=by unfold wI at hW;omega
  have hKC:k.toNat*c.toNat=W:=by
   have:((k.toNat*c.toNat:Nat):Int)=wI k c:=by unfold wI;rw [Int.natCast_mul,Int.toNat_of_nonneg (by omega),Int.toNat_of_nonneg (by omega)]
   omega
  obtain ⟨n,hn⟩:∃ n,to - fr=n:=⟨_,rfl⟩
  have wn:IntKind.i64.wrap (((to:Nat):Int) - ((fr:Nat):Int))=((n:Nat):Int):=by rw [show ((to:Nat):Int) - ((fr:Nat):Int)=((n:Nat):Int) by omega];exact dE (by omega)
  have hmk:=fun m=>qK m (n:=n) (by omega)
  have hrow:=fun (x:b9) (hx:x∈l)=>by
   have hR0:=aco hE (aa2 (hlr x hx)).1
   have h:=aej k r c w x.1 v L cells hv
   unfold aaZ at h
   rw [if_pos hR0] at h
   exact h
  have hread:=fun (x:b9) (hx:x∈l)=>agI k r c w 1 x.2 _ _ _ (acn k r c w L x.1 (by omega)) hm (sZ (aco hE (aa2 (hlr x hx)).1)).1 (.inl rfl) (by unfold gV;exact decide_eq_true (aa2 (hlr x hx)).2)
  have hrdR:=fun (x:b9)=>(acn k r c w L x.1 (by omega)).rd
  have hdl:=fun (x:b9)=>vA k r c w (dM k r w L x.1) 1 x.2 k.toNat
  unfold dD at hrow
  unfold qP kN acq iG
  rw [hW] at hWd
  rw [hWn,hn]
  unfold pO at hread
  rw [hKC] at hread hdl
  have hlB:∀ x,oR k r c w L x=decide (iL k r c w (dM k r w L x.1) 1 x.2 < k.toNat):=fun _=>rfl
  have hlD:∀ x,jA k r c w L x=lP k r c w (dM k r w L x.1) 1 x.2 k.toNat:=fun _=>rfl
  generalize hEE:(if (List.range l.length).any (fun i=>mO W fr to i && oR k r c w L (l.getD i (0,0)))=true then (5:Int) else 0)=EE
  have hbad:∀ (i:Nat) (x:b9),l[i]? = some x→mO W fr to i=true→oR k r c w L x=true→EE=5:=fun i x hx h1 h2=>by
   rw [←hEE,if_pos]
   refine List.any_eq_true.2 ⟨i,List.mem_range.2 (List.getElem?_eq_some_iff.1 hx).1, ?_⟩
   rw [h1,List.getD_eq_getElem?_getD,hx]
   exact h2
  have hgood:(∀ (i:Nat) (x:b9),l[i]? = some x→mO W fr to i=true→oR k r c w L x=false)→EE=0:=fun h=>by
   rw [←hEE,if_neg]
   intro h2
   obtain ⟨i,hi,h3⟩:=List.any_eq_true.1 h2
   have hi':=List.mem_range.1 hi
   rw [Bool.and_eq_true,List.getD_eq_getElem?_getD,List.getElem?_eq_getElem hi'] at h3
   have:=h i _ (List.getElem?_eq_getElem hi') h3.1
   rw [show (some l[i]).getD (0,0)=l[i] from rfl,this] at h3
   exact absurd h3.2 (by decide)
  generalize hFF:(fun j=>if fr+j < l.length*W then (jA k r c w L (l.getD ((fr+j) / W) (0,0))).getD ((fr+j) % W) 0 else (0:UInt8))=FF
  have hFb:∀ (i:Nat) (x:b9) (j:Nat),l[i]? = some x→i*W≤fr+j→fr+j < i*W+W→FF j=(jA k r c w L x).getD (fr+j - i*W) 0:=fun i x j hx h1 h2=>by
   rw [←hFF]
   have hi:=(List.getElem?_eq_some_iff.1 hx).1
   have h3:(i+1)*W≤l.length*W:=Nat.mul_le_mul_right _ hi
   rw [Nat.add_mul,Nat.one_mul] at h3
   have hdv:(fr+j) / W=i:=by
    refine Nat.div_eq_of_lt_le h1 ?_
    rw [Nat.add_mul,Nat.one_mul];exact h2
   have hmd:(fr+j) % W=fr+j - i*W:=by
    have:=Nat.div_add_mod (fr+j) W
    rw [hdv,Nat.mul_comm] at this
    omega
   simp only [hdv,hmd]
   rw [if_pos (by omega),List.getD_eq_getElem?_getD (l:=l),hx]
   rfl
  have hF0:∀ j,¬ fr+j < l.length*W→FF j=0:=fun j h=>by rw [←hFF];simp only;rw [if_neg h]
  clear hFF hEE hWn
  generalize hRES:tA (if EE=0 then tab n FF else []) EE=RES
  replace hRES:=aB.mk hRES
  replace hbad:=aB.mk hbad
  replace hgood:=aB.mk hgood
  replace hFb:=aB.mk hFb
  replace hF0:=aB.mk hF0
  replace hml:=aB.mk hml
  replace hmn:=aB.mk hmn
  replace hw:=aB.mk hw
  replace hW8:=aB.mk hW8
  replace hrow:=aB.mk hrow
  replace hread:=aB.mk hread
  replace hrdR:=aB.mk hrdR
  replace hdl:=aB.mk hdl
  replace hKC:=aB.mk hKC
  replace hn:=aB.mk hn
  replace hlr:=aB.mk hlr
  replace hlB:=aB.mk hlB
  replace hlD:=aB.mk hlD
  replace hW:=aB.mk hW
  have hsa:=fun (i:Nat) (x:b9) (hi:l[i]? = some x)=>vB l x0 i x hi
  replace hsa:=aB.mk hsa
  have hps:=hsr.plain
  refine bJ follows Tryz.func103 (by unfold Tryz.f103;rfl) (by unfold Tryz.f103;simp) pY (by unfold Tryz.f103;simp) (by kernel_rfl) ?_;unfold Tryz.f103
  simp only [↓pre,simprocAttr,aA,sx,rC,pY,bne,aC,aM,hf,ho,h1,sr]
  refine aL (hWd) (by rfl) ?_;simp only [↓pre,simprocAttr,aA,sx,rC,pY,bne,aC,aM,hf,ho,h1,wn,hmk,hsr.len',sr]
  rw [b7]
  refine b8 (fun q e m=>∃ i,q+i=l.length∧e 1=sv∧e 2=aE (fr:Nat)∧e 3=aE (to:Nat)∧e 4 = .tptr 0 [aE k,aE r,aE c,aE w,v]∧e 10=aE (W:Nat)∧e 12 = .sl 0 0 n n true∧e 36=aE (l.length:Nat)∧e 37=aE (i:Nat)∧aB (m.at_ 0=some ⟨aZ n fun j=>if fr+j < i*W then FF j else 0,5,.flat,true⟩∧∀ (j:Nat) (x:b9),j < i→l[j]? = some x→mO W fr to j=true→oR k r c w L x=false)) l.length ⟨0,by omega,rfl,rfl,rfl,rfl,rfl,rfl,rfl,rfl,⟨by rw [aG,if_pos (by decide)];congr 3;funext j;rw [Nat.zero_mul,if_neg (by omega)],fun j x h=>by omega⟩⟩ ?_
  rintro q e m ⟨i,hq,e1,e2,e3,e4,e10,e12,e36,e37,hJ⟩
  replace hq:=aB.mk hq
  obtain ⟨hb,hno⟩:=hJ.out
  clear hJ
  by_cases hlt:i < l.length
  ·have hlt':((i:Nat):Int) < ((l.length:Nat):Int):=by omega
   have wi:=cF (n:=i) (by omega)
   obtain ⟨x,hx⟩:∃ x,l[i]? = some x:=⟨_,List.getElem?_eq_getElem hlt⟩
   have hiW:(i+1)*W≤20000*768:=Nat.mul_le_mul (by omega) hW8.out.2
   have hsuc:(i+1)*W=i*W+W:=by rw [Nat.add_mul,Nat.one_mul]
   have w1:IntKind.i64.wrap (((i:Nat):Int)*((W:Nat):Int))=((i*W:Nat):Int):=by rw [show ((i:Nat):Int)*((W:Nat):Int)=((i*W:Nat):Int) by simp];exact dE (by omega)
   have w2:IntKind.i64.wrap (((i+1:Nat):Int)*((W:Nat):Int))=(((i+1)*W:Nat):Int):=by rw [show ((i+1:Nat):Int)*((W:Nat):Int)=(((i+1)*W:Nat):Int) by simp];exact dE (by omega)
   obtain ⟨A,hA,hA2⟩:∃ A:Nat,max ((fr:Nat):Int) ((i*W:Nat):Int)=(A:Int)∧A=max fr (i*W):=⟨max fr (i*W),by omega,rfl⟩
   obtain ⟨Z,hZ,hZ2⟩:∃ Z:Nat,min ((to:Nat):Int) (((i+1)*W:Nat):Int)=(Z:Int)∧Z=min to ((i+1)*W):=⟨min to ((i+1)*W),by omega,rfl⟩
   have hmeet:mO W fr to i=decide (A < Z):=by unfold mO;rw [hA2,hZ2]
   by_cases hAZ:A < Z
   ·rw [decide_eq_true hAZ] at hmeet
    have hAZ':¬ ((Z:Nat):Int)≤((A:Nat):Int):=by omega
    obtain ⟨ha,hb2⟩:=hsa.out i x hx
    have hxm:=List.mem_of_getElem? hx
    have hr:=hrow.out x hxm
    have hrd:=hread.out x hxm
    have hRr:=hrdR.out x
    have pR:=hRr.plain
    have sR:=cK hRr
    have hlBx:=hlB.out x
    generalize bE (k+r).toNat (lS (dM k r w L x.1))=RV at *
    by_cases hlo:iL k r c w (dM k r w L x.1) 1 x.2 < k.toNat
    ·rw [if_pos hlo] at hrd
     rw [decide_eq_true hlo] at hlBx
     have h5:=hbad.out i x hx hmeet hlBx
     have hres:=hRES.out
     rw [h5,if_neg (by decide)] at hres
     replace hres:=aB.mk hres
     replace hno:=aB.mk hno
     replace hb:=aB.mk hb
     replace hRr:=aB.mk hRr
     simp only [aP] at hrd
     simp only [↓pre,simprocAttr,aA,sx,rC,pY,bne,aC,aM,hf,ho,e1,e2,e3,e4,e10,e12,e36,e37,hlt',hlt,w1,wi,w2,hA,hZ,hAZ',hsr.addr',ha,hb2,sr]
     (refine bM (hr) (by simp only [aA,aO, *]) (by intro k;simp only [sq,sr, *]) ?_);simp only [↓pre,simprocAttr,aA,sx,rC,pY,bne,aC,aM,hf,ho,e1,e2,e3,e4,e10,e12,e36,e37,hlt',hlt,hsr.addr',ha,hb2,sR,sr];(refine bM (hrd) (by simp only [aA,aO, *]) (by intro k;rfl) ?_);simp only [↓pre,simprocAttr,aA,sx,rC,pY,bne,aC,aM,hf,ho,e1,e2,e3,e4,e10,e12,e36,e37,hlt',hlt,hsr.addr',ha,hb2,sR,sr]
     rw [←hres.out]
     exact t6 _ _
    ·rw [if_neg hlo] at hrd
     rw [decide_eq_false hlo] at hlBx
     have hDl:=hdl.out x
     have hFx:=hFb.out i x
     rw [hlD.out x] at hFx
     generalize lP k r c w (dM k r w L x.1) 1 x.2 k.toNat=D at *
     have hDr:=dH W (aQ D)
     have pD:=hDr.plain
     have sD:=cK hDr
     obtain ⟨dv,s2,r2⟩:=hDr.slice (P:=Tryz.prog) (t:=52) (sz:=1) (lo:=some (A - i*W)) (hi:=none) (by kernel_rfl) (by simp only [Option.getD_some,Option.getD_none];omega) (by simp)
     simp only [Option.getD_some,Option.getD_none,Nat.mul_one] at r2
     have hsrc:=fun m=>r2.src (P:=Tryz.prog) (m:=m) (el:=5) (sz:=1) (by rw [List.length_drop,gH];omega)
     have hsx:=fun d c m lo hi mx=>hDr.sliceX (P:=Tryz.prog) (m:=m) (t:=52) (d:=d) (c:=c) (lo:=lo) (hi:=hi) (mx:=mx)
     generalize bE W (aQ D)=DV at *
     have wA:IntKind.i64.wrap (((A:Nat):Int) - ((fr:Nat):Int))=((A - fr:Nat):Int):=by rw [show ((A:Nat):Int) - ((fr:Nat):Int)=((A - fr:Nat):Int) by omega];exact dE (by omega)
     have wZ:IntKind.i64.wrap (((Z:Nat):Int) - ((fr:Nat):Int))=((Z - fr:Nat):Int):=by rw [show ((Z:Nat):Int) - ((fr:Nat):Int)=((Z - fr:Nat):Int) by omega];exact dE (by omega)
     have wD:IntKind.i64.wrap (((A:Nat):Int) - ((i*W:Nat):Int))=((A - i*W:Nat):Int):=by rw [show ((A:Nat):Int) - ((i*W:Nat):Int)=((A - i*W:Nat):Int) by omega];exact dE (by omega)
     have hn':=hn.out
     have hso:slOk Tryz.prog m 52 (.sl 0 0 n n true)=true:=by
      have:bZ Tryz.prog 52=some 5:=by kernel_rfl
      simp [slOk,hb,this]
     have hsl:lU Tryz.prog 52 (some (A - fr)) (some (Z - fr)) none (.sl 0 0 n n true)=some (.sl 0 (A - fr) (Z - A) (n - (A - fr)) true):=by
      have h3:bZ Tryz.prog 52=some 5:=by kernel_rfl
      have h4:cG Tryz.prog 5=some 1:=by kernel_rfl
      simp only [lU,h3,h4,Option.isSome_none,Bool.false_and,Bool.false_eq_true,if_false,Option.bind_some,Option.getD_some,Option.getD_none,Go.Tw.iG]
      rw [if_pos (by omega),if_neg (by omega)]
      simp
      omega
     have hcp:o5 Tryz.prog 5 m (.sl 0 (A - fr) (Z - A) (n - (A - fr)) true) dv=some ⟨aE (min (W - (A - i*W)) (Z - A):Nat),m.put 0 (some ⟨aZ n fun j=>if fr+j < (i+1)*W then FF j else 0,5,.flat,true⟩),none⟩:=ats hb (hsrc m) hDl (fun j=>hFx j hx) hA2 hZ2 hsuc hn' hAZ
     have hstep:∀ (j:Nat) (y:b9),j < i+1→l[j]? = some y→mO W fr to j=true→oR k r c w L y=false:=fun j y hj hy hmt=>by
      by_cases hji:j=i
      ·subst hji
       rw [hx] at hy
       cases hy
       exact hlBx
      ·exact hno j y (by omega) hy hmt
     replace hno:=aB.mk hno
     replace hstep:=aB.mk hstep
     replace hb:=aB.mk hb
     replace hRr:=aB.mk hRr
     replace hDr:=aB.mk hDr
     replace r2:=aB.mk r2
     replace hsrc:=aB.mk hsrc
     replace hFx:=aB.mk hFx
     simp only [↓pre,simprocAttr,aA,sx,rC,pY,bne,aC,aM,hf,ho,e1,e2,e3,e4,e10,e12,e36,e37,hlt',hlt,w1,wi,w2,hA,hZ,hAZ',hsr.addr',ha,hb2,sR,sD,wA,wZ,wD,hso,hsl,hsx,s2,hcp,jR,a8,Option.map_some,Option.map_none,sr]
     (refine bM (hr) (by simp only [aA,aO, *]) (by intro k;simp only [sq,sr, *]) ?_);simp only [↓pre,simprocAttr,aA,sx,rC,pY,bne,aC,aM,hf,ho,e1,e2,e3,e4,e10,e12,e36,e37,hlt',hlt,w1,wi,w2,hA,hZ,hAZ',hsr.addr',ha,hb2,sR,sD,wA,wZ,wD,hso,hsl,hsx,s2,hcp,jR,a8,Option.map_some,Option.map_none,sr];(refine bM (hrd) (by simp only [aA,aO, *]) (by intro k;simp only [sq,sr, *]) ?_);simp only [↓pre,simprocAttr,aA,sx,rC,pY,bne,aC,aM,hf,ho,e1,e2,e3,e4,e10,e12,e36,e37,hlt',hlt,w1,wi,w2,hA,hZ,hAZ',hsr.addr',ha,hb2,sR,sD,wA,wZ,wD,hso,hsl,hsx,s2,hcp,jR,a8,Option.map_some,Option.map_none,sr]
     refine cU (by kernel_rfl) ?_
     simp only [↓pre,simprocAttr,aA,sx,rC,pY,bne,aC,aM,hf,ho,e1,e2,e3,e4,e10,e12,e36,e37,hlt',hlt,w1,wi,w2,hA,hZ,hAZ',hsr.addr',ha,hb2,sR,sD,wA,wZ,wD,hso,hsl,hsx,s2,hcp,jR,a8,Option.map_some,Option.map_none,sr]
     exact ⟨q - 1,by have:=hq.out;omega,i+1,by have:=hq.out;omega,rfl,⟨rfl,hstep.out⟩⟩
   ·rw [decide_eq_false hAZ] at hmeet
    have hAZ':((Z:Nat):Int)≤((A:Nat):Int):=by omega
    have hstep:∀ (j:Nat) (y:b9),j < i+1→l[j]? = some y→mO W fr to j=true→oR k r c w L y=false:=fun j y hj hy hmt=>by
     by_cases hji:j=i
     ·subst hji
      rw [hmeet] at hmt
      cases hmt
     ·exact hno j y (by omega) hy hmt
    have hn':=hn.out
    have heq:(aZ n fun j=>if fr+j < i*W then FF j else 0)=aZ n fun j=>if fr+j < (i+1)*W then FF j else 0:=pM fun j hj=>by
     by_cases h5:fr+j < i*W
     ·rw [if_pos h5,if_pos (by omega)]
     ·rw [if_neg h5,if_neg (by omega)]
    rw [heq] at hb
    replace hno:=aB.mk hno
    replace hstep:=aB.mk hstep
    replace hb:=aB.mk hb
    replace heq:=aB.mk heq
    simp only [↓pre,simprocAttr,aA,sx,rC,pY,bne,aC,aM,hf,ho,e1,e2,e3,e4,e10,e12,e36,e37,hlt',hlt,w1,wi,w2,hA,hZ,hAZ',sr]
    exact ⟨q - 1,by have:=hq.out;omega,i+1,by have:=hq.out;omega,rfl,⟨hb.out,hstep.out⟩⟩
  ·have hlt':¬ ((i:Nat):Int) < ((l.length:Nat):Int):=by omega
   have hi:i=l.length:=by have:=hq.out;omega
   have h0:=hgood.out fun j x hx hmt=>hno j x (by have:=(List.getElem?_eq_some_iff.1 hx).1;omega) hx hmt
   have hres:=hRES.out
   rw [h0,if_pos rfl] at hres
   have heq:(aZ n fun j=>if fr+j < i*W then FF j else 0)=aQ (tab n FF):=by
    rw [show aQ (tab n FF)=aZ n FF from rfl]
    refine pM fun j hj => ?_
    rw [hi]
    by_cases h5:fr+j < l.length*W
    ·rw [if_pos h5]
    ·rw [if_neg h5,hF0.out j h5]
   rw [heq] at hb
   replace hno:=aB.mk hno
   replace hb:=aB.mk hb
   replace heq:=aB.mk heq
   replace hres:=aB.mk hres
   simp only [↓pre,simprocAttr,aA,sx,rC,pY,bne,aC,aM,hf,ho,e1,e2,e3,e4,e10,e12,e36,e37,hlt',sr]
   rw [←hres.out]
   exact anC (pL _ _) (by have:=hn.out;omega) hb.out
def xL (k r c w:Int) (L:List (List UInt8)) (row:Int):List UInt8:=if iM k r c w L row=0 then qP k r c w L (dS k r c w L row) 0 (b6 (cB k r c w L row)).toNat else []
def acy (k r c w:Int) (L:List (List UInt8)) (row:Int):Int:=if iM k r c w L row=0 then iG k r c w L (dS k r c w L row) 0 (b6 (cB k r c w L row)).toNat else iM k r c w L row
def xM (k r c w:Int) (L:List (List UInt8)) (row off n:Int):List UInt8:=if s7 k r c w L row off n=0 then qP k r c w L (dS k r c w L row) off.toNat (min (off+n) (b6 (cB k r c w L row))).toNat else []
def acz (k r c w:Int) (L:List (List UInt8)) (row off n:Int):Int:=if s7 k r c w L row off n=0 then iG k r c w L (dS k r c w L row) off.toNat (min (off+n) (b6 (cB k r c w L row))).toNat else s7 k r c w L row off n
theorem auF (k r c w row:Int) (v:AV) (L:List (List UInt8)) (cells:List AV) (hv:fT v L cells):aY Tryz.prog 29 [dD k r c w v,aE row] (tA (xL k r c w L row) (acy k r c w L row)):=by
 refine ag4 ?_
 have hp:=hv.rd.plain
 have hf:=cA hv.rd
 have ho:=bP hv.rd
 have hob:=am1 k r c w row v L cells hv
 unfold xL acy
 unfold aem at hob
 unfold dD at hob ⊢
 by_cases hE:iM k r c w L row=0
 ·rw [if_pos hE] at hob ⊢
  rw [if_pos hE]
  obtain ⟨hI,_,_,hre,hlen,hl0,hl1⟩:=xF hE
  obtain ⟨N,hN⟩:∃ N:Nat,b6 (cB k r c w L row)=(N:Int):=⟨(b6 (cB k r c w L row)).toNat,by omega⟩
  have hRr:=dH (cE (cB k r c w L row)).length (bW (cE (cB k r c w L row)))
  have hLr:=dH (kM k r c w L row).length (bW (kM k r c w L row))
  have hSr:=dH (dS k r c w L row).length (bW (dS k r c w L row))
  have hcu:=anD k r c w v L cells hv hI (bE (dS k r c w L row).length (bW (dS k r c w L row))) (dS k r c w L row) ⟨[],by rw [List.append_nil];exact hSr⟩ hre hlen 0 N (by omega)
  rw [hN,Int.toNat_natCast]
  generalize qP k r c w L (dS k r c w L row) 0 N=CC at *
  generalize iG k r c w L (dS k r c w L row) 0 N=CE at *
  unfold kL s6 at hob
  unfold dD at hcu
  rw [hN] at hob
  generalize bE (cE (cB k r c w L row)).length (bW (cE (cB k r c w L row)))=DV at *
  generalize bE (kM k r c w L row).length (bW (kM k r c w L row))=LV at *
  generalize bE (dS k r c w L row).length (bW (dS k r c w L row))=SV at *
  have f2:=cA hRr
  have o2:=bP hRr
  have s2:=cK hRr
  have s3:=cK hLr
  have s4:=cK hSr
  have p4:=hSr.plain
  generalize dK (cB k r c w L row)=PD at *
  generalize gA k r c w (dM k r w L row)=W at *
  simp only [aE,Int.natCast_zero,Int.cast_ofNat_Int] at hob hcu
  replace hE:=aB.mk hE
  replace hN:=aB.mk hN
  replace hre:=aB.mk hre
  replace hlen:=aB.mk hlen
  replace hl0:=aB.mk hl0
  replace hl1:=aB.mk hl1
  replace hRr:=aB.mk hRr
  replace hLr:=aB.mk hLr
  replace hSr:=aB.mk hSr
  refine bJ follows Tryz.func29 (by unfold Tryz.f29;rfl) (by unfold Tryz.f29;simp) aD (by unfold Tryz.f29;simp) (by kernel_rfl) ?_;unfold Tryz.f29
  simp only [↓pre,simprocAttr,aA,sx,abE,aD,aC,hf,ho,aJ,aK,aF,aG,sr]
  refine aL (hob) (by simp only [aA,aO, *]) ?_;simp only [↓pre,simprocAttr,aA,sx,abE,aD,aC,hf,ho,aJ,aK,aF,aG,f2,o2,s2,s3,s4,sr]
  refine acx hcu (by simp [dX,plain,hp,p4]) fun a m1 hN1 => ?_
  replace hN1:=aB.mk hN1
  simp only [↓pre,simprocAttr,aA,sx,abE,aD,aC,hf,ho,aJ,aK,aF,aG,sr]
  exact hN1.out.canon _
 ·rw [if_neg hE] at hob ⊢
  unfold nQ aP at hob
  simp only [aE] at hob
  refine bJ follows Tryz.func29 (by unfold Tryz.f29;rfl) (by unfold Tryz.f29;simp) aD (by unfold Tryz.f29;simp) (by kernel_rfl) ?_;unfold Tryz.f29
  simp only [↓pre,simprocAttr,aA,sx,abE,aD,aC,hf,ho,aJ,aK,aF,aG,sr]
  refine aL (hob) (by simp only [aA,aO, *]) ?_;simp only [↓pre,simprocAttr,aA,sx,abE,aD,aC,hf,ho,aJ,aK,aF,aG,hE,sr]
  exact t6 _ _
theorem auG (k r c w row off n:Int) (v:AV) (L:List (List UInt8)) (cells:List AV) (hv:fT v L cells):aY Tryz.prog 31 [dD k r c w v,aE row,aE off,aE n] (tA (xM k r c w L row off n) (acz k r c w L row off n)):=by
 refine ag4 ?_
 have hp:=hv.rd.plain
 have hf:=cA hv.rd
 have ho:=bP hv.rd
 have hck:=am2 k r c w row v L cells hv
 have hob:=am1 k r c w row v L cells hv
 have hmo:=aqf k r c w
 unfold xM acz s7
 unfold aem at hob
 unfold dD at hck hob ⊢
 by_cases hR:eY k r c w L row=0
 ·rw [hR] at hck
  rw [if_pos hR]
  obtain ⟨_,hm⟩:=sZ hR
  simp only [hm,if_true] at hmo
  have hml:=aaE k c
  by_cases h1:off < 0
  ·rw [if_pos (Or.inl h1),if_neg (by decide)]
   refine bJ follows Tryz.func31 (by unfold Tryz.f31;rfl) (by unfold Tryz.f31;simp) aD (by unfold Tryz.f31;simp) (by kernel_rfl) ?_;unfold Tryz.f31
   simp only [↓pre,simprocAttr,aA,sx,kU,aD,aC,hf,ho,aJ,aK,aF,aG,sr]
   refine aL (hck) (by simp only [aA,aO, *]) ?_;simp only [↓pre,simprocAttr,aA,sx,kU,aD,aC,hf,ho,aJ,aK,aF,aG,h1,sr]
   exact t6 _ _
  ·by_cases h2:n < 0
   ·rw [if_pos (Or.inr h2),if_neg (by decide)]
    refine bJ follows Tryz.func31 (by unfold Tryz.f31;rfl) (by unfold Tryz.f31;simp) aD (by unfold Tryz.f31;simp) (by kernel_rfl) ?_;unfold Tryz.f31
    simp only [↓pre,simprocAttr,aA,sx,kU,aD,aC,hf,ho,aJ,aK,aF,aG,sr]
    refine aL (hck) (by simp only [aA,aO, *]) ?_;simp only [↓pre,simprocAttr,aA,sx,kU,aD,aC,hf,ho,aJ,aK,aF,aG,h1,h2,sr]
    exact t6 _ _
   ·rw [if_neg (show ¬ (off < 0∨n < 0) by omega)]
    by_cases h3:mI k c < off
    ·rw [if_pos (Or.inl h3),if_neg (by decide)]
     refine bJ follows Tryz.func31 (by unfold Tryz.f31;rfl) (by unfold Tryz.f31;simp) aD (by unfold Tryz.f31;simp) (by kernel_rfl) ?_;unfold Tryz.f31
     simp only [↓pre,simprocAttr,aA,sx,kU,aD,aC,hf,ho,aJ,aK,aF,aG,sr]
     refine aL (hck) (by simp only [aA,aO, *]) ?_;simp only [↓pre,simprocAttr,aA,sx,kU,aD,aC,hf,ho,aJ,aK,aF,aG,h1,h2,h3,sr];refine aL (hmo) (by rfl) ?_;simp only [↓pre,simprocAttr,aA,sx,kU,aD,aC,hf,ho,aJ,aK,aF,aG,h1,h2,h3,sr]
     exact t6 _ _
    ·have ws:IntKind.i64.wrap (mI k c - off)=mI k c - off:=dU (by omega) (by omega)
     by_cases h4:mI k c - off < n
     ·rw [if_pos (Or.inr h4),if_neg (by decide)]
      replace hml:=aB.mk hml
      refine bJ follows Tryz.func31 (by unfold Tryz.f31;rfl) (by unfold Tryz.f31;simp) aD (by unfold Tryz.f31;simp) (by kernel_rfl) ?_;unfold Tryz.f31
      simp only [↓pre,simprocAttr,aA,sx,kU,aD,aC,hf,ho,aJ,aK,aF,aG,sr]
      refine aL (hck) (by simp only [aA,aO, *]) ?_;simp only [↓pre,simprocAttr,aA,sx,kU,aD,aC,hf,ho,aJ,aK,aF,aG,h1,h2,h3,ws,h4,sr];refine aL (hmo) (by rfl) ?_;simp only [↓pre,simprocAttr,aA,sx,kU,aD,aC,hf,ho,aJ,aK,aF,aG,h1,h2,h3,ws,h4,sr]
      exact t6 _ _
     ·rw [if_neg (show ¬ (mI k c < off∨mI k c - off < n) by omega)]
      have wo:IntKind.i64.wrap (off+n)=off+n:=dU (by omega) (by omega)
      by_cases hE:iM k r c w L row=0
      ·rw [if_pos hE] at hob ⊢
       rw [if_pos hE]
       obtain ⟨hI,_,_,hre,hlen,hl0,hl1⟩:=xF hE
       obtain ⟨A,hA⟩:∃ A:Nat,off=(A:Int):=⟨off.toNat,by omega⟩
       obtain ⟨Z,hZ⟩:∃ Z:Nat,min (off+n) (b6 (cB k r c w L row))=(Z:Int):=⟨(min (off+n) (b6 (cB k r c w L row))).toNat,by omega⟩
       have hRr:=dH (cE (cB k r c w L row)).length (bW (cE (cB k r c w L row)))
       have hLr:=dH (kM k r c w L row).length (bW (kM k r c w L row))
       have hSr:=dH (dS k r c w L row).length (bW (dS k r c w L row))
       have hcu:=anD k r c w v L cells hv hI (bE (dS k r c w L row).length (bW (dS k r c w L row))) (dS k r c w L row) ⟨[],by rw [List.append_nil];exact hSr⟩ hre hlen A Z (by omega)
       rw [hZ,Int.toNat_natCast,show off.toNat=A by omega]
       generalize qP k r c w L (dS k r c w L row) A Z=CC at *
       generalize iG k r c w L (dS k r c w L row) A Z=CE at *
       rw [←hA] at hcu
       unfold kL s6 at hob
       unfold dD at hcu
       generalize bE (cE (cB k r c w L row)).length (bW (cE (cB k r c w L row)))=DV at *
       generalize bE (kM k r c w L row).length (bW (kM k r c w L row))=LV at *
       generalize bE (dS k r c w L row).length (bW (dS k r c w L row))=SV at *
       have f2:=cA hRr
       have o2:=bP hRr
       have s2:=cK hRr
       have s3:=cK hLr
       have s4:=cK hSr
       have p4:=hSr.plain
       generalize b6 (cB k r c w L row)=PL at *
       generalize dK (cB k r c w L row)=PD at *
       generalize gA k r c w (dM k r w L row)=W at *
       simp only [aE] at hob hcu
       replace hE:=aB.mk hE
       replace hre:=aB.mk hre
       replace hlen:=aB.mk hlen
       replace hl0:=aB.mk hl0
       replace hl1:=aB.mk hl1
       replace hRr:=aB.mk hRr
       replace hLr:=aB.mk hLr
       replace hSr:=aB.mk hSr
       replace hA:=aB.mk hA
       replace hml:=aB.mk hml
       refine bJ follows Tryz.func31 (by unfold Tryz.f31;rfl) (by unfold Tryz.f31;simp) aD (by unfold Tryz.f31;simp) (by kernel_rfl) ?_;unfold Tryz.f31
       simp only [↓pre,simprocAttr,aA,sx,kU,aD,aC,hf,ho,aJ,aK,aF,aG,sr]
       refine aL (hck) (by simp only [aA,aO, *]) ?_;simp only [↓pre,simprocAttr,aA,sx,kU,aD,aC,hf,ho,aJ,aK,aF,aG,h1,h2,h3,ws,h4,wo,hZ,f2,o2,s2,s3,s4,sr];refine aL (hmo) (by rfl) ?_;simp only [↓pre,simprocAttr,aA,sx,kU,aD,aC,hf,ho,aJ,aK,aF,aG,h1,h2,h3,ws,h4,wo,hZ,f2,o2,s2,s3,s4,sr];refine aL (hob) (by simp only [aA,aO, *]) ?_;simp only [↓pre,simprocAttr,aA,sx,kU,aD,aC,hf,ho,aJ,aK,aF,aG,h1,h2,h3,ws,h4,wo,hZ,f2,o2,s2,s3,s4,sr]
       refine acx hcu (by simp [dX,plain,hp,p4]) fun a m1 hN1 => ?_
       replace hN1:=aB.mk hN1
       simp only [↓pre,simprocAttr,aA,sx,kU,aD,aC,hf,ho,aJ,aK,aF,aG,sr]
       exact hN1.out.canon _
      ·rw [if_neg hE] at hob ⊢
       unfold nQ aP at hob
       simp only [aE] at hob
       replace hml:=aB.mk hml
       refine bJ follows Tryz.func31 (by unfold Tryz.f31;rfl) (by unfold Tryz.f31;simp) aD (by unfold Tryz.f31;simp) (by kernel_rfl) ?_;unfold Tryz.f31
       simp only [↓pre,simprocAttr,aA,sx,kU,aD,aC,hf,ho,aJ,aK,aF,aG,sr]
       refine aL (hck) (by simp only [aA,aO, *]) ?_;simp only [↓pre,simprocAttr,aA,sx,kU,aD,aC,hf,ho,aJ,aK,aF,aG,h1,h2,h3,ws,h4,wo,hE,sr];refine aL (hmo) (by rfl) ?_;simp only [↓pre,simprocAttr,aA,sx,kU,aD,aC,hf,ho,aJ,aK,aF,aG,h1,h2,h3,ws,h4,wo,hE,sr];refine aL (hob) (by simp only [aA,aO, *]) ?_;simp only [↓pre,simprocAttr,aA,sx,kU,aD,aC,hf,ho,aJ,aK,aF,aG,h1,h2,h3,ws,h4,wo,hE,sr]
       exact t6 _ _
 ·rw [if_neg hR,if_neg hR]
  refine bJ follows Tryz.func31 (by unfold Tryz.f31;rfl) (by unfold Tryz.f31;simp) aD (by unfold Tryz.f31;simp) (by kernel_rfl) ?_;unfold Tryz.f31
  simp only [↓pre,simprocAttr,aA,sx,kU,aD,aC,hf,ho,aJ,aK,aF,aG,sr]
  refine aL (hck) (by simp only [aA,aO, *]) ?_;simp only [↓pre,simprocAttr,aA,sx,kU,aD,aC,hf,ho,aJ,aK,aF,aG,hR,sr]
  exact t6 _ _
end Go.Proofs.YtaekhhlgnbhnpaaGreat