import Derived.Test.YtgcicholalgbiaaGreatLrcG20
import Derived.Test.YtgcicholalgbiaaGreatLrcG18
import Derived.Test.YtgcicholalgbiaaGreatLrcG09
set_option linter.unusedVariables false
set_option linter.unusedSimpArgs false
set_option maxRecDepth 10000
namespace Go.Proofs.YtgcicholalgbiaaGreat
open Go Go.Tw Go.Proofs Go.Gf
def pN (bs:List UInt8):Nat:=beN ((bs.drop 5).take 2)
def pLen (bs:List UInt8):Int:=(beN (bs.take 4):Nat)
def pDep (bs:List UInt8):Int:=(beN ((bs.drop 4).take 1):Nat)
def pRefs (bs:List UInt8):List RefI:=refsOf (bs.drop 7) (pN bs)
def parseOk (k r c w:Int) (bs:List UInt8):Bool:=decide (7+6*pN bs≤bs.length) && (decide (chkD k r c w (pLen bs) (pDep bs) (pRefs bs)=0) && decide (madeB k c (pLen bs) (pDep bs) (pRefs bs)=bs))
def parseE (k r c w:Int) (bs:List UInt8):Int:=if mayB k r c w=true then (if (bs.length:Int)=wI k c then (if parseOk k r c w bs=true then 0 else 150) else 20) else 2
def descA (len dep:Int) (l:List RefI):AV := .agg [intV len,intV dep,treeR l.length (refsA l)]
def desc0:AV := .agg [intV 0,intV 0,nilS]
def parseD (k r c w:Int) (bs:List UInt8):AV:=if parseE k r c w bs=0 then descA (pLen bs) (pDep bs) (pRefs bs) else desc0
theorem desc0_id (e:Int) (k:Nat) (m:Mem):fzT k m (.tup [desc0,intV e])=some (.tup [desc0,intV e]):=fzId_two (fzId_agg fun c hc=>by
 simp only [List.mem_cons,List.not_mem_nil,or_false] at hc
 rcases hc with rfl | rfl | rfl <;> exact fzId_val _) (fzId_val _) k m
theorem descA_id (len dep:Int) (l:List RefI):fzId (descA len dep l):=fzId_agg fun c hc=>by
 simp only [List.mem_cons,List.not_mem_nil,or_false] at hc
 rcases hc with rfl | rfl | rfl
 ·exact fzId_val _
 ·exact fzId_val _
 ·exact fzId_rd (treeR_rd _ _)
theorem treeR_cells {n:Nat} {cs:List AV}:(treeR n cs).cells=[treeR n cs]:=by unfold treeR;split <;> rfl
theorem treeR_ok {n:Nat} {cs:List AV}:okA (treeR n cs)=true:=by unfold treeR;split <;> rfl
theorem treeR_fz {n:Nat} {cs:List AV} {m:Mem}:fz m (treeR n cs)=some (treeR n cs,m):=rd_fz (treeR_rd _ _) m
theorem treeR_one {n:Nat} {cs:List AV}:oneA (treeR n cs)=true:=rd_one (treeR_rd _ _)
def oncePa:Nat→Bool:=fun d=>d != 4 && d != 7
theorem desc_Parse (k r c w:Int) (v:AV) (bs:List UInt8) (x:List AV) (hv:RdSl v bs.length (bytesA bs++x)):FSpec Tryz.prog 118 [parV k r c w,v] ⟨.tup [parseD k r c w bs,intV (parseE k r c w bs)],[]⟩:=by
 refine fspec_fzT ?_
 have hp:=hv.plain
 have h1:=desc_sized k r c w v bs.length _ hv
 have hfz:∀ E,parseE k r c w bs=E→E≠0→∀ m,fzT 0 m (.tup [.agg [.val (.int .i64 0),.val (.int .i64 0),.val (.slice none 0 0)],.val (.int .i64 E)])=some (.tup [parseD k r c w bs,intV E]):=fun E hE h0 m=>by
  unfold parseD
  rw [hE,if_neg h0]
  exact desc0_id E 0 m
 by_cases hg:mayB k r c w=true∧(bs.length:Int)=wI k c
 ·obtain ⟨hm,hl⟩:=hg
  rw [if_pos hm,if_pos hl] at h1
  have hw:=may_w hm
  have hbl:bs.length≤768∧32≤bs.length:=by unfold wI at hl;omega
  have hE:parseE k r c w bs=if parseOk k r c w bs=true then 0 else 150:=by unfold parseE;rw [if_pos hm,if_pos hl]
  obtain ⟨v1,s1,r1⟩:=hv.slice (P:=Tryz.prog) (t:=54) (sz:=1) (lo:=none) (hi:=some 4) (by kernel_rfl) (by simp) (by simp only [Option.getD_some];omega)
  obtain ⟨v2,s2,r2⟩:=hv.slice (P:=Tryz.prog) (t:=54) (sz:=1) (lo:=some 4) (hi:=some 5) (by kernel_rfl) (by simp) (by simp only [Option.getD_some];omega)
  obtain ⟨v3,s3,r3⟩:=hv.slice (P:=Tryz.prog) (t:=54) (sz:=1) (lo:=some 5) (hi:=some 7) (by kernel_rfl) (by simp) (by simp only [Option.getD_some];omega)
  obtain ⟨v4,s4,r4⟩:=hv.slice (P:=Tryz.prog) (t:=54) (sz:=1) (lo:=some 7) (hi:=none) (by kernel_rfl) (by simp only [Option.getD_some,Option.getD_none];omega) (by simp)
  simp only [Option.getD_some,Option.getD_none,Nat.mul_one,Nat.sub_zero,List.drop_zero] at r1 r2 r3 r4
  rw [bytesA_drop _ x 4 (by omega)] at r2
  rw [bytesA_drop _ x 5 (by omega)] at r3
  rw [bytesA_drop _ x 7 (by omega),←List.length_drop] at r4
  have c1:=desc_number v1 4 bs x r1 (by omega) (by omega)
  have c2:=desc_number v2 1 (bs.drop 4) x r2 (by rw [List.length_drop];omega) (by omega)
  have c3:=desc_number v3 2 (bs.drop 5) x r3 (by rw [List.length_drop];omega) (by omega)
  have pl1:=r1.plain
  have pl2:=r2.plain
  have pl3:=r3.plain
  have pl4:=r4.plain
  have hn2:pN bs < 65536:=be_le 2 (bs.drop 5)
  rw [show beN ((bs.drop 5).take 2)=pN bs from rfl] at c3
  rw [show ((beN (bs.take 4):Nat):Int)=pLen bs from rfl] at c1
  rw [show ((beN ((bs.drop 4).take 1):Nat):Int)=pDep bs from rfl] at c2
  have n4:natOf (.val (.int .i64 4))=some 4:=rfl
  have n5:natOf (.val (.int .i64 5))=some 5:=rfl
  have n7:natOf (.val (.int .i64 7))=some 7:=rfl
  have w1:IntKind.i64.wrap (6*((pN bs:Nat):Int))=((6*pN bs:Nat):Int):=by rw [show 6*((pN bs:Nat):Int)=((6*pN bs:Nat):Int) by simp];exact wrap_nat (by omega)
  have w2:IntKind.i64.wrap (7+((6*pN bs:Nat):Int))=((7+6*pN bs:Nat):Int):=by rw [show 7+((6*pN bs:Nat):Int)=((7+6*pN bs:Nat):Int) by simp];exact wrap_nat (by omega)
  have hso:=fun m=>hv.slOk (P:=Tryz.prog) (m:=m) (t:=54)
  have hsx:=fun d c m lo hi mx=>hv.sliceX (P:=Tryz.prog) (m:=m) (t:=54) (d:=d) (c:=c) (lo:=lo) (hi:=hi) (mx:=mx)
  by_cases hfit:7+6*pN bs≤bs.length
  ·have hfit':¬ ((bs.length:Nat):Int) < ((7+6*pN bs:Nat):Int):=by omega
   have c4:=desc_read v4 (bs.drop 7) x (pN bs) r4 (by rw [List.length_drop];omega) (by rw [List.length_drop];omega)
   rw [show refsOf (bs.drop 7) (pN bs)=pRefs bs from rfl] at c4
   have hpl:(pRefs bs).length=pN bs:=refsOf_len _ _
   have c5:=desc_Bytes k r c w (pLen bs) (pDep bs) (treeR (pN bs) (refsA (pRefs bs))) (pRefs bs) ⟨[],by rw [List.append_nil,hpl];exact treeR_rd _ _⟩ (by omega)
   have q1:=rd_one (treeR_rd (pN bs) (refsA (pRefs bs)))
   have pt:=(treeR_rd (pN bs) (refsA (pRefs bs))).plain
   have hTRf:treeR (pN bs) (refsA (pRefs bs)) = .val (.slice none 0 0)∨treeR (pN bs) (refsA (pRefs bs)) = .tree (pN bs) (pN bs) (refsA (pRefs bs)) false:=by unfold treeR;split;exact .inl rfl;exact .inr rfl
   unfold descBV at c5
   have hok:parseOk k r c w bs=(decide (chkD k r c w (pLen bs) (pDep bs) (pRefs bs)=0) && decide (madeB k c (pLen bs) (pDep bs) (pRefs bs)=bs)):=by unfold parseOk;rw [decide_eq_true hfit];rfl
   by_cases hck:chkD k r c w (pLen bs) (pDep bs) (pRefs bs)=0
   ·rw [if_pos hck] at c5
    rw [decide_eq_true hck,Bool.true_and] at hok
    have hml:(madeB k c (pLen bs) (pDep bs) (pRefs bs)).length=(wI k c).toNat:=by
     unfold madeB
     refine padB_len ?_
     obtain ⟨_,_,_,hll,_⟩:=desc_bounds hck
     unfold headB
     simp only [List.length_append,numB_len,refsB_len]
     unfold dI at hll
     unfold wI
     omega
    have c6:=bytes_Equal (.tree (wI k c).toNat (wI k c).toNat (bytesA (madeB k c (pLen bs) (pDep bs) (pRefs bs))) true) v (madeB k c (pLen bs) (pDep bs) (pRefs bs)) bs [] x ⟨.inr (.inr ⟨_,true,by rw [hml,List.append_nil],by rw [hml];exact Nat.le_refl _⟩)⟩ hv
    have hfin:parseOk k r c w bs=true→∀ m,fzT 0 m (.tup [.agg [.val (.int .i64 (pLen bs)),.val (.int .i64 (pDep bs)),treeR (pN bs) (refsA (pRefs bs))],.val (.int .i64 0)])=some (.tup [parseD k r c w bs,intV 0]):=fun h m=>by
     have:=fzId_two (descA_id (pLen bs) (pDep bs) (pRefs bs)) (fzId_val (.int .i64 0)) 0 m
     unfold parseD
     rw [hE,h,if_pos rfl,if_pos rfl]
     unfold descA at this ⊢
     rw [hpl] at this ⊢
     exact this
    by_cases heq:madeB k c (pLen bs) (pDep bs) (pRefs bs)=bs
    ·rw [decide_eq_true heq] at hok c6
     rw [hok,if_pos rfl] at hE
     rw [hE]
     replace hfin:=Hid.mk (hfin hok)
     replace hok:=Hid.mk hok
     replace hE:=Hid.mk hE
     replace hck:=Hid.mk hck
     replace heq:=Hid.mk heq
     replace hfz:=Hid.mk hfz
     replace hfit:=Hid.mk hfit
     replace hpl:=Hid.mk hpl
     generalize madeB k c (pLen bs) (pDep bs) (pRefs bs)=MB at *
     rcases hTRf with hT | hT
     all_goals rw [hT] at c4 c5 hfin
     all_goals clear q1 pt
     all_goals replace hT:=Hid.mk hT
     all_goals (
      refine ospec_of_body follows Tryz.func118 (by unfold Tryz.f118;rfl) (by unfold Tryz.f118;simp) oncePa (by unfold Tryz.f118;simp) (by kernel_rfl) ?_;unfold Tryz.f118
      simp only [↓pre,simprocAttr,parV,sx,tys118,oncePa,bne,postU,postFz,optNat,Option.map_none,Option.map_some,storeE,allocE,put_at,push_at,me0,Nat.one_ne_zero,Nat.zero_ne_one,↓treeR_cells,↓treeR_ok,↓treeR_fz,↓treeR_one,n4,n5,n7,hso,hsx,s1,s2,s3,s4,sr]
      (first | refine call_plain (h1) (by first | rfl | simp only [parV,plQ, *]) ?_ | refine call_pure (h1) (by first | rfl | simp only [parV,plQ, *]) (by intro k;first | rfl | simp only [sq,sr, *]) ?_);simp only [↓pre,simprocAttr,parV,sx,tys118,oncePa,bne,postU,postFz,optNat,Option.map_none,Option.map_some,storeE,allocE,put_at,push_at,me0,Nat.one_ne_zero,Nat.zero_ne_one,↓treeR_cells,↓treeR_ok,↓treeR_fz,↓treeR_one,n4,n5,n7,hso,hsx,s1,s2,s3,s4,sr];(first | refine call_plain (c1) (by first | rfl | simp only [parV,plQ, *]) ?_ | refine call_pure (c1) (by first | rfl | simp only [parV,plQ, *]) (by intro k;first | rfl | simp only [sq,sr, *]) ?_);simp only [↓pre,simprocAttr,parV,sx,tys118,oncePa,bne,postU,postFz,optNat,Option.map_none,Option.map_some,storeE,allocE,put_at,push_at,me0,Nat.one_ne_zero,Nat.zero_ne_one,↓treeR_cells,↓treeR_ok,↓treeR_fz,↓treeR_one,n4,n5,n7,hso,hsx,s1,s2,s3,s4,sr];(first | refine call_plain (c2) (by first | rfl | simp only [parV,plQ, *]) ?_ | refine call_pure (c2) (by first | rfl | simp only [parV,plQ, *]) (by intro k;first | rfl | simp only [sq,sr, *]) ?_);simp only [↓pre,simprocAttr,parV,sx,tys118,oncePa,bne,postU,postFz,optNat,Option.map_none,Option.map_some,storeE,allocE,put_at,push_at,me0,Nat.one_ne_zero,Nat.zero_ne_one,↓treeR_cells,↓treeR_ok,↓treeR_fz,↓treeR_one,n4,n5,n7,hso,hsx,s1,s2,s3,s4,sr]
      refine contW_fixed (by kernel_rfl) ?_
      simp only [↓pre,simprocAttr,parV,sx,tys118,oncePa,bne,postU,postFz,optNat,Option.map_none,Option.map_some,storeE,allocE,put_at,push_at,me0,Nat.one_ne_zero,Nat.zero_ne_one,↓treeR_cells,↓treeR_ok,↓treeR_fz,↓treeR_one,n4,n5,n7,hso,hsx,s1,s2,s3,s4,sr]
      refine contW_fixed (by kernel_rfl) ?_
      simp only [↓pre,simprocAttr,parV,sx,tys118,oncePa,bne,postU,postFz,optNat,Option.map_none,Option.map_some,storeE,allocE,put_at,push_at,me0,Nat.one_ne_zero,Nat.zero_ne_one,↓treeR_cells,↓treeR_ok,↓treeR_fz,↓treeR_one,n4,n5,n7,hso,hsx,s1,s2,s3,s4,sr]
      (first | refine call_plain (c3) (by first | rfl | simp only [parV,plQ, *]) ?_ | refine call_pure (c3) (by first | rfl | simp only [parV,plQ, *]) (by intro k;first | rfl | simp only [sq,sr, *]) ?_);simp only [↓pre,simprocAttr,parV,sx,tys118,oncePa,bne,postU,postFz,optNat,Option.map_none,Option.map_some,storeE,allocE,put_at,push_at,me0,Nat.one_ne_zero,Nat.zero_ne_one,↓treeR_cells,↓treeR_ok,↓treeR_fz,↓treeR_one,n4,n5,n7,hso,hsx,s1,s2,s3,s4,w1,w2,hv.len',hfit',sr];(first | refine call_plain (c4) (by first | rfl | simp only [parV,plQ, *]) ?_ | refine call_pure (c4) (by first | rfl | simp only [parV,plQ, *]) (by intro k;first | rfl | simp only [sq,sr, *]) ?_);simp only [↓pre,simprocAttr,parV,sx,tys118,oncePa,bne,postU,postFz,optNat,Option.map_none,Option.map_some,storeE,allocE,put_at,push_at,me0,Nat.one_ne_zero,Nat.zero_ne_one,↓treeR_cells,↓treeR_ok,↓treeR_fz,↓treeR_one,n4,n5,n7,hso,hsx,s1,s2,s3,s4,w1,w2,hv.len',hfit',sr];(first | refine call_plain (c5) (by first | rfl | simp only [parV,plQ, *]) ?_ | refine call_pure (c5) (by first | rfl | simp only [parV,plQ, *]) (by intro k;first | rfl | simp only [sq,sr, *]) ?_);simp only [↓pre,simprocAttr,parV,sx,tys118,oncePa,bne,postU,postFz,optNat,Option.map_none,Option.map_some,storeE,allocE,put_at,push_at,me0,Nat.one_ne_zero,Nat.zero_ne_one,↓treeR_cells,↓treeR_ok,↓treeR_fz,↓treeR_one,n4,n5,n7,hso,hsx,s1,s2,s3,s4,w1,w2,hv.len',hfit',sr];(first | refine call_plain (c6) (by first | rfl | simp only [parV,plQ, *]) ?_ | refine call_pure (c6) (by first | rfl | simp only [parV,plQ, *]) (by intro k;first | rfl | simp only [sq,sr, *]) ?_);simp only [↓pre,simprocAttr,parV,sx,tys118,oncePa,bne,postU,postFz,optNat,Option.map_none,Option.map_some,storeE,allocE,put_at,push_at,me0,Nat.one_ne_zero,Nat.zero_ne_one,↓treeR_cells,↓treeR_ok,↓treeR_fz,↓treeR_one,n4,n5,n7,hso,hsx,s1,s2,s3,s4,w1,w2,hv.len',hfit',sr]
      exact ⟨0,hfin.out _⟩
      )
    ·rw [decide_eq_false heq] at hok c6
     rw [hok,if_neg (by decide)] at hE
     have hz:=hfz 150 hE (by decide)
     rw [hE]
     replace hz:=Hid.mk hz
     replace hok:=Hid.mk hok
     replace hE:=Hid.mk hE
     replace hck:=Hid.mk hck
     replace heq:=Hid.mk heq
     replace hfz:=Hid.mk hfz
     replace hfin:=Hid.mk hfin
     replace hfit:=Hid.mk hfit
     replace hpl:=Hid.mk hpl
     generalize madeB k c (pLen bs) (pDep bs) (pRefs bs)=MB at *
     rcases hTRf with hT | hT
     all_goals rw [hT] at c4 c5
     all_goals clear q1 pt
     all_goals replace hT:=Hid.mk hT
     all_goals (
      refine ospec_of_body follows Tryz.func118 (by unfold Tryz.f118;rfl) (by unfold Tryz.f118;simp) oncePa (by unfold Tryz.f118;simp) (by kernel_rfl) ?_;unfold Tryz.f118
      simp only [↓pre,simprocAttr,parV,sx,tys118,oncePa,bne,postU,postFz,optNat,Option.map_none,Option.map_some,storeE,allocE,put_at,push_at,me0,Nat.one_ne_zero,Nat.zero_ne_one,↓treeR_cells,↓treeR_ok,↓treeR_fz,↓treeR_one,n4,n5,n7,hso,hsx,s1,s2,s3,s4,sr]
      (first | refine call_plain (h1) (by first | rfl | simp only [parV,plQ, *]) ?_ | refine call_pure (h1) (by first | rfl | simp only [parV,plQ, *]) (by intro k;first | rfl | simp only [sq,sr, *]) ?_);simp only [↓pre,simprocAttr,parV,sx,tys118,oncePa,bne,postU,postFz,optNat,Option.map_none,Option.map_some,storeE,allocE,put_at,push_at,me0,Nat.one_ne_zero,Nat.zero_ne_one,↓treeR_cells,↓treeR_ok,↓treeR_fz,↓treeR_one,n4,n5,n7,hso,hsx,s1,s2,s3,s4,sr];(first | refine call_plain (c1) (by first | rfl | simp only [parV,plQ, *]) ?_ | refine call_pure (c1) (by first | rfl | simp only [parV,plQ, *]) (by intro k;first | rfl | simp only [sq,sr, *]) ?_);simp only [↓pre,simprocAttr,parV,sx,tys118,oncePa,bne,postU,postFz,optNat,Option.map_none,Option.map_some,storeE,allocE,put_at,push_at,me0,Nat.one_ne_zero,Nat.zero_ne_one,↓treeR_cells,↓treeR_ok,↓treeR_fz,↓treeR_one,n4,n5,n7,hso,hsx,s1,s2,s3,s4,sr];(first | refine call_plain (c2) (by first | rfl | simp only [parV,plQ, *]) ?_ | refine call_pure (c2) (by first | rfl | simp only [parV,plQ, *]) (by intro k;first | rfl | simp only [sq,sr, *]) ?_);simp only [↓pre,simprocAttr,parV,sx,tys118,oncePa,bne,postU,postFz,optNat,Option.map_none,Option.map_some,storeE,allocE,put_at,push_at,me0,Nat.one_ne_zero,Nat.zero_ne_one,↓treeR_cells,↓treeR_ok,↓treeR_fz,↓treeR_one,n4,n5,n7,hso,hsx,s1,s2,s3,s4,sr]
      refine contW_fixed (by kernel_rfl) ?_
      simp only [↓pre,simprocAttr,parV,sx,tys118,oncePa,bne,postU,postFz,optNat,Option.map_none,Option.map_some,storeE,allocE,put_at,push_at,me0,Nat.one_ne_zero,Nat.zero_ne_one,↓treeR_cells,↓treeR_ok,↓treeR_fz,↓treeR_one,n4,n5,n7,hso,hsx,s1,s2,s3,s4,sr]
      refine contW_fixed (by kernel_rfl) ?_
      simp only [↓pre,simprocAttr,parV,sx,tys118,oncePa,bne,postU,postFz,optNat,Option.map_none,Option.map_some,storeE,allocE,put_at,push_at,me0,Nat.one_ne_zero,Nat.zero_ne_one,↓treeR_cells,↓treeR_ok,↓treeR_fz,↓treeR_one,n4,n5,n7,hso,hsx,s1,s2,s3,s4,sr]
      (first | refine call_plain (c3) (by first | rfl | simp only [parV,plQ, *]) ?_ | refine call_pure (c3) (by first | rfl | simp only [parV,plQ, *]) (by intro k;first | rfl | simp only [sq,sr, *]) ?_);simp only [↓pre,simprocAttr,parV,sx,tys118,oncePa,bne,postU,postFz,optNat,Option.map_none,Option.map_some,storeE,allocE,put_at,push_at,me0,Nat.one_ne_zero,Nat.zero_ne_one,↓treeR_cells,↓treeR_ok,↓treeR_fz,↓treeR_one,n4,n5,n7,hso,hsx,s1,s2,s3,s4,w1,w2,hv.len',hfit',sr];(first | refine call_plain (c4) (by first | rfl | simp only [parV,plQ, *]) ?_ | refine call_pure (c4) (by first | rfl | simp only [parV,plQ, *]) (by intro k;first | rfl | simp only [sq,sr, *]) ?_);simp only [↓pre,simprocAttr,parV,sx,tys118,oncePa,bne,postU,postFz,optNat,Option.map_none,Option.map_some,storeE,allocE,put_at,push_at,me0,Nat.one_ne_zero,Nat.zero_ne_one,↓treeR_cells,↓treeR_ok,↓treeR_fz,↓treeR_one,n4,n5,n7,hso,hsx,s1,s2,s3,s4,w1,w2,hv.len',hfit',sr];(first | refine call_plain (c5) (by first | rfl | simp only [parV,plQ, *]) ?_ | refine call_pure (c5) (by first | rfl | simp only [parV,plQ, *]) (by intro k;first | rfl | simp only [sq,sr, *]) ?_);simp only [↓pre,simprocAttr,parV,sx,tys118,oncePa,bne,postU,postFz,optNat,Option.map_none,Option.map_some,storeE,allocE,put_at,push_at,me0,Nat.one_ne_zero,Nat.zero_ne_one,↓treeR_cells,↓treeR_ok,↓treeR_fz,↓treeR_one,n4,n5,n7,hso,hsx,s1,s2,s3,s4,w1,w2,hv.len',hfit',sr];(first | refine call_plain (c6) (by first | rfl | simp only [parV,plQ, *]) ?_ | refine call_pure (c6) (by first | rfl | simp only [parV,plQ, *]) (by intro k;first | rfl | simp only [sq,sr, *]) ?_);simp only [↓pre,simprocAttr,parV,sx,tys118,oncePa,bne,postU,postFz,optNat,Option.map_none,Option.map_some,storeE,allocE,put_at,push_at,me0,Nat.one_ne_zero,Nat.zero_ne_one,↓treeR_cells,↓treeR_ok,↓treeR_fz,↓treeR_one,n4,n5,n7,hso,hsx,s1,s2,s3,s4,w1,w2,hv.len',hfit',sr]
      exact ⟨0,hz.out _⟩
      )
   ·rw [if_neg hck] at c5
    rw [decide_eq_false hck,Bool.false_and] at hok
    rw [hok,if_neg (by decide)] at hE
    have hz:=hfz 150 hE (by decide)
    rw [hE]
    replace hz:=Hid.mk hz
    replace hok:=Hid.mk hok
    replace hE:=Hid.mk hE
    replace hfz:=Hid.mk hfz
    replace hfit:=Hid.mk hfit
    replace hpl:=Hid.mk hpl
    generalize chkD k r c w (pLen bs) (pDep bs) (pRefs bs)=CK at *
    simp only [nilS] at c5
    rcases hTRf with hT | hT
    all_goals rw [hT] at c4 c5
    all_goals clear q1 pt
    all_goals replace hT:=Hid.mk hT
    all_goals (
     refine ospec_of_body follows Tryz.func118 (by unfold Tryz.f118;rfl) (by unfold Tryz.f118;simp) oncePa (by unfold Tryz.f118;simp) (by kernel_rfl) ?_;unfold Tryz.f118
     simp only [↓pre,simprocAttr,parV,sx,tys118,oncePa,bne,postU,postFz,optNat,Option.map_none,Option.map_some,storeE,allocE,put_at,push_at,me0,Nat.one_ne_zero,Nat.zero_ne_one,↓treeR_cells,↓treeR_ok,↓treeR_fz,↓treeR_one,n4,n5,n7,hso,hsx,s1,s2,s3,s4,sr]
     (first | refine call_plain (h1) (by first | rfl | simp only [parV,plQ, *]) ?_ | refine call_pure (h1) (by first | rfl | simp only [parV,plQ, *]) (by intro k;first | rfl | simp only [sq,sr, *]) ?_);simp only [↓pre,simprocAttr,parV,sx,tys118,oncePa,bne,postU,postFz,optNat,Option.map_none,Option.map_some,storeE,allocE,put_at,push_at,me0,Nat.one_ne_zero,Nat.zero_ne_one,↓treeR_cells,↓treeR_ok,↓treeR_fz,↓treeR_one,n4,n5,n7,hso,hsx,s1,s2,s3,s4,sr];(first | refine call_plain (c1) (by first | rfl | simp only [parV,plQ, *]) ?_ | refine call_pure (c1) (by first | rfl | simp only [parV,plQ, *]) (by intro k;first | rfl | simp only [sq,sr, *]) ?_);simp only [↓pre,simprocAttr,parV,sx,tys118,oncePa,bne,postU,postFz,optNat,Option.map_none,Option.map_some,storeE,allocE,put_at,push_at,me0,Nat.one_ne_zero,Nat.zero_ne_one,↓treeR_cells,↓treeR_ok,↓treeR_fz,↓treeR_one,n4,n5,n7,hso,hsx,s1,s2,s3,s4,sr];(first | refine call_plain (c2) (by first | rfl | simp only [parV,plQ, *]) ?_ | refine call_pure (c2) (by first | rfl | simp only [parV,plQ, *]) (by intro k;first | rfl | simp only [sq,sr, *]) ?_);simp only [↓pre,simprocAttr,parV,sx,tys118,oncePa,bne,postU,postFz,optNat,Option.map_none,Option.map_some,storeE,allocE,put_at,push_at,me0,Nat.one_ne_zero,Nat.zero_ne_one,↓treeR_cells,↓treeR_ok,↓treeR_fz,↓treeR_one,n4,n5,n7,hso,hsx,s1,s2,s3,s4,sr]
     refine contW_fixed (by kernel_rfl) ?_
     simp only [↓pre,simprocAttr,parV,sx,tys118,oncePa,bne,postU,postFz,optNat,Option.map_none,Option.map_some,storeE,allocE,put_at,push_at,me0,Nat.one_ne_zero,Nat.zero_ne_one,↓treeR_cells,↓treeR_ok,↓treeR_fz,↓treeR_one,n4,n5,n7,hso,hsx,s1,s2,s3,s4,sr]
     refine contW_fixed (by kernel_rfl) ?_
     simp only [↓pre,simprocAttr,parV,sx,tys118,oncePa,bne,postU,postFz,optNat,Option.map_none,Option.map_some,storeE,allocE,put_at,push_at,me0,Nat.one_ne_zero,Nat.zero_ne_one,↓treeR_cells,↓treeR_ok,↓treeR_fz,↓treeR_one,n4,n5,n7,hso,hsx,s1,s2,s3,s4,sr]
     (first | refine call_plain (c3) (by first | rfl | simp only [parV,plQ, *]) ?_ | refine call_pure (c3) (by first | rfl | simp only [parV,plQ, *]) (by intro k;first | rfl | simp only [sq,sr, *]) ?_);simp only [↓pre,simprocAttr,parV,sx,tys118,oncePa,bne,postU,postFz,optNat,Option.map_none,Option.map_some,storeE,allocE,put_at,push_at,me0,Nat.one_ne_zero,Nat.zero_ne_one,↓treeR_cells,↓treeR_ok,↓treeR_fz,↓treeR_one,n4,n5,n7,hso,hsx,s1,s2,s3,s4,w1,w2,hv.len',hfit',hck,sr];(first | refine call_plain (c4) (by first | rfl | simp only [parV,plQ, *]) ?_ | refine call_pure (c4) (by first | rfl | simp only [parV,plQ, *]) (by intro k;first | rfl | simp only [sq,sr, *]) ?_);simp only [↓pre,simprocAttr,parV,sx,tys118,oncePa,bne,postU,postFz,optNat,Option.map_none,Option.map_some,storeE,allocE,put_at,push_at,me0,Nat.one_ne_zero,Nat.zero_ne_one,↓treeR_cells,↓treeR_ok,↓treeR_fz,↓treeR_one,n4,n5,n7,hso,hsx,s1,s2,s3,s4,w1,w2,hv.len',hfit',hck,sr];(first | refine call_plain (c5) (by first | rfl | simp only [parV,plQ, *]) ?_ | refine call_pure (c5) (by first | rfl | simp only [parV,plQ, *]) (by intro k;first | rfl | simp only [sq,sr, *]) ?_);simp only [↓pre,simprocAttr,parV,sx,tys118,oncePa,bne,postU,postFz,optNat,Option.map_none,Option.map_some,storeE,allocE,put_at,push_at,me0,Nat.one_ne_zero,Nat.zero_ne_one,↓treeR_cells,↓treeR_ok,↓treeR_fz,↓treeR_one,n4,n5,n7,hso,hsx,s1,s2,s3,s4,w1,w2,hv.len',hfit',hck,sr]
     exact ⟨0,hz.out _⟩
     )
  ·have hfit':((bs.length:Nat):Int) < ((7+6*pN bs:Nat):Int):=by omega
   have hok:parseOk k r c w bs=false:=by unfold parseOk;rw [decide_eq_false hfit];rfl
   rw [hok,if_neg (by decide)] at hE
   have hz:=hfz 150 hE (by decide)
   rw [hE]
   replace hz:=Hid.mk hz
   replace hok:=Hid.mk hok
   replace hE:=Hid.mk hE
   replace hfz:=Hid.mk hfz
   replace hfit:=Hid.mk hfit
   refine ospec_of_body follows Tryz.func118 (by unfold Tryz.f118;rfl) (by unfold Tryz.f118;simp) oncePa (by unfold Tryz.f118;simp) (by kernel_rfl) ?_;unfold Tryz.f118
   simp only [↓pre,simprocAttr,parV,sx,tys118,oncePa,bne,postU,postFz,optNat,Option.map_none,Option.map_some,storeE,allocE,put_at,push_at,me0,Nat.one_ne_zero,Nat.zero_ne_one,↓treeR_cells,↓treeR_ok,↓treeR_fz,↓treeR_one,n4,n5,n7,hso,hsx,s1,s2,s3,s4,sr]
   (first | refine call_plain (h1) (by first | rfl | simp only [parV,plQ, *]) ?_ | refine call_pure (h1) (by first | rfl | simp only [parV,plQ, *]) (by intro k;first | rfl | simp only [sq,sr, *]) ?_);simp only [↓pre,simprocAttr,parV,sx,tys118,oncePa,bne,postU,postFz,optNat,Option.map_none,Option.map_some,storeE,allocE,put_at,push_at,me0,Nat.one_ne_zero,Nat.zero_ne_one,↓treeR_cells,↓treeR_ok,↓treeR_fz,↓treeR_one,n4,n5,n7,hso,hsx,s1,s2,s3,s4,sr];(first | refine call_plain (c1) (by first | rfl | simp only [parV,plQ, *]) ?_ | refine call_pure (c1) (by first | rfl | simp only [parV,plQ, *]) (by intro k;first | rfl | simp only [sq,sr, *]) ?_);simp only [↓pre,simprocAttr,parV,sx,tys118,oncePa,bne,postU,postFz,optNat,Option.map_none,Option.map_some,storeE,allocE,put_at,push_at,me0,Nat.one_ne_zero,Nat.zero_ne_one,↓treeR_cells,↓treeR_ok,↓treeR_fz,↓treeR_one,n4,n5,n7,hso,hsx,s1,s2,s3,s4,sr];(first | refine call_plain (c2) (by first | rfl | simp only [parV,plQ, *]) ?_ | refine call_pure (c2) (by first | rfl | simp only [parV,plQ, *]) (by intro k;first | rfl | simp only [sq,sr, *]) ?_);simp only [↓pre,simprocAttr,parV,sx,tys118,oncePa,bne,postU,postFz,optNat,Option.map_none,Option.map_some,storeE,allocE,put_at,push_at,me0,Nat.one_ne_zero,Nat.zero_ne_one,↓treeR_cells,↓treeR_ok,↓treeR_fz,↓treeR_one,n4,n5,n7,hso,hsx,s1,s2,s3,s4,sr]
   refine contW_fixed (by kernel_rfl) ?_
   simp only [↓pre,simprocAttr,parV,sx,tys118,oncePa,bne,postU,postFz,optNat,Option.map_none,Option.map_some,storeE,allocE,put_at,push_at,me0,Nat.one_ne_zero,Nat.zero_ne_one,↓treeR_cells,↓treeR_ok,↓treeR_fz,↓treeR_one,n4,n5,n7,hso,hsx,s1,s2,s3,s4,sr]
   refine contW_fixed (by kernel_rfl) ?_
   simp only [↓pre,simprocAttr,parV,sx,tys118,oncePa,bne,postU,postFz,optNat,Option.map_none,Option.map_some,storeE,allocE,put_at,push_at,me0,Nat.one_ne_zero,Nat.zero_ne_one,↓treeR_cells,↓treeR_ok,↓treeR_fz,↓treeR_one,n4,n5,n7,hso,hsx,s1,s2,s3,s4,sr]
   (first | refine call_plain (c3) (by first | rfl | simp only [parV,plQ, *]) ?_ | refine call_pure (c3) (by first | rfl | simp only [parV,plQ, *]) (by intro k;first | rfl | simp only [sq,sr, *]) ?_);simp only [↓pre,simprocAttr,parV,sx,tys118,oncePa,bne,postU,postFz,optNat,Option.map_none,Option.map_some,storeE,allocE,put_at,push_at,me0,Nat.one_ne_zero,Nat.zero_ne_one,↓treeR_cells,↓treeR_ok,↓treeR_fz,↓treeR_one,n4,n5,n7,hso,hsx,s1,s2,s3,s4,w1,w2,hv.len',hfit',sr]
   exact ⟨0,hz.out _⟩
 ·have hE:parseE k r c w bs=(if mayB k r c w=true then (if (bs.length:Int)=wI k c then 0 else 20) else 2):=by
   unfold parseE
   by_cases hm:mayB k r c w=true
   ·rw [if_pos hm,if_pos hm,if_neg (fun h=>hg ⟨hm,h⟩),if_neg (fun h=>hg ⟨hm,h⟩)]
   ·rw [if_neg hm,if_neg hm]
  have hne:parseE k r c w bs≠0:=by
   rw [hE]
   by_cases hm:mayB k r c w=true
   ·rw [if_pos hm,if_neg (fun h=>hg ⟨hm,h⟩)];decide
   ·rw [if_neg hm];decide
  rw [←hE] at h1
  have hz:=hfz _ rfl hne
  replace hz:=Hid.mk hz
  replace hE:=Hid.mk hE
  replace hfz:=Hid.mk hfz
  refine ospec_of_body follows Tryz.func118 (by unfold Tryz.f118;rfl) (by unfold Tryz.f118;simp) oncePa (by unfold Tryz.f118;simp) (by kernel_rfl) ?_;unfold Tryz.f118
  simp only [↓pre,simprocAttr,parV,sx,tys118,oncePa,bne,postU,postFz,optNat,Option.map_none,Option.map_some,storeE,allocE,put_at,push_at,me0,Nat.one_ne_zero,Nat.zero_ne_one,↓treeR_cells,↓treeR_ok,↓treeR_fz,↓treeR_one,sr]
  (first | refine call_plain (h1) (by first | rfl | simp only [parV,plQ, *]) ?_ | refine call_pure (h1) (by first | rfl | simp only [parV,plQ, *]) (by intro k;first | rfl | simp only [sq,sr, *]) ?_);simp only [↓pre,simprocAttr,parV,sx,tys118,oncePa,bne,postU,postFz,optNat,Option.map_none,Option.map_some,storeE,allocE,put_at,push_at,me0,Nat.one_ne_zero,Nat.zero_ne_one,↓treeR_cells,↓treeR_ok,↓treeR_fz,↓treeR_one,hne,sr]
  exact ⟨0,hz.out _⟩
theorem rd_cells {v:AV} {n:Nat} {cs:List AV} (h:RdSl v n cs):v.cells=[v]:=by
 rcases h.form with ⟨rfl,_⟩ | ⟨_,_,rfl,_⟩ | ⟨_,_,rfl,_⟩ <;> rfl
theorem rd_okA {v:AV} {n:Nat} {cs:List AV} (h:RdSl v n cs):okA v=true:=by
 rcases h.form with ⟨rfl,_⟩ | ⟨_,_,rfl,_⟩ | ⟨_,_,rfl,_⟩ <;> rfl
abbrev rowA (k r c w:Int) (v:AV):AV := .agg [.val (.int .i64 k),.val (.int .i64 r),.val (.int .i64 c),.val (.int .i64 w),v]
theorem commit_version (k r c w:Int) (v:AV) (n:Nat) (cs:List AV) (hv:RdSl v n cs) (g:FuncId) (a:Int) (is:Bool) (e:Int) (hg:FSpec Tryz.prog g [rowA k r c w v] ⟨.tup [intV a,boolV is,intV e],[]⟩):FSpec Tryz.prog 116 [rowA k r c w v,.clo g []] ⟨.tup [intV (if e=0 then (if is=true then a else 0) else 0),intV e],[]⟩:=by
 have f1:=rd_fz hv
 have q1:=rd_one hv
 have hp:=hv.plain
 by_cases he:e=0
 ·subst he
  rw [if_pos rfl]
  cases is with
  | true =>
   rw [if_pos rfl]
   refine fspec_of_body follows Tryz.func116 (by unfold Tryz.f116;rfl) (by unfold Tryz.f116;simp) onceA (by unfold Tryz.f116;simp) (by kernel_rfl) ?_;unfold Tryz.f116
   simp only [↓pre,simprocAttr,parV,sx,tys116,onceA,postU,f1,q1,sr]
   (first | refine call_plain (hg) (by first | rfl | simp only [parV,plQ, *]) ?_ | refine call_pure (hg) (by first | rfl | simp only [parV,plQ, *]) (by intro k;first | rfl | simp only [sq,sr, *]) ?_);simp only [↓pre,simprocAttr,parV,sx,tys116,onceA,postU,f1,q1,sr]
  | false =>
   rw [if_neg (by decide)]
   refine fspec_of_body follows Tryz.func116 (by unfold Tryz.f116;rfl) (by unfold Tryz.f116;simp) onceA (by unfold Tryz.f116;simp) (by kernel_rfl) ?_;unfold Tryz.f116
   simp only [↓pre,simprocAttr,parV,sx,tys116,onceA,postU,f1,q1,sr]
   (first | refine call_plain (hg) (by first | rfl | simp only [parV,plQ, *]) ?_ | refine call_pure (hg) (by first | rfl | simp only [parV,plQ, *]) (by intro k;first | rfl | simp only [sq,sr, *]) ?_);simp only [↓pre,simprocAttr,parV,sx,tys116,onceA,postU,f1,q1,sr]
 ·rw [if_neg he]
  refine fspec_of_body follows Tryz.func116 (by unfold Tryz.f116;rfl) (by unfold Tryz.f116;simp) onceA (by unfold Tryz.f116;simp) (by kernel_rfl) ?_;unfold Tryz.f116
  simp only [↓pre,simprocAttr,parV,sx,tys116,onceA,postU,f1,q1,sr]
  (first | refine call_plain (hg) (by first | rfl | simp only [parV,plQ, *]) ?_ | refine call_pure (hg) (by first | rfl | simp only [parV,plQ, *]) (by intro k;first | rfl | simp only [sq,sr, *]) ?_);simp only [↓pre,simprocAttr,parV,sx,tys116,onceA,postU,f1,q1,he,sr]
theorem commit_winner (k r c w:Int) (v:AV) (ps:List PairB) (cells:List AV) (hv:RowV v ps cells):FSpec Tryz.prog 117 [rowA k r c w v] ⟨winV k r c w ps,[]⟩:=by
 have h:=census_Winner k r c w v ps cells hv
 have f1:=rd_fz hv.rd
 have q1:=rd_one hv.rd
 have hp:=hv.rd.plain
 unfold winV at h ⊢
 generalize (cntP k r c w ps).getD 0 0=a at *
 generalize decide (1≤(cntP k r c w ps).length)=b at *
 generalize chkI k r c w ps=e at *
 refine fspec_of_body follows Tryz.func117 (by unfold Tryz.f117;rfl) (by unfold Tryz.f117;simp) onceA (by unfold Tryz.f117;simp) (by kernel_rfl) ?_;unfold Tryz.f117
 simp only [↓pre,simprocAttr,parV,sx,tys117,onceA,f1,q1]
 (first | refine call_plain (h) (by first | rfl | simp only [parV,plQ, *]) ?_ | refine call_pure (h) (by first | rfl | simp only [parV,plQ, *]) (by intro k;first | rfl | simp only [sq,sr, *]) ?_);simp only [↓pre,simprocAttr,parV,sx,tys117,onceA,f1,q1,boolV]
def winI (k r c w:Int) (ps:List PairB):Int:=(cntP k r c w ps).getD 0 0
def runI (k r c w:Int) (ps:List PairB):Int:=(cntP k r c w ps).getD 1 0
theorem version_win (k r c w:Int) (v:AV) (ps:List PairB) (cells:List AV) (hv:RowV v ps cells):FSpec Tryz.prog 116 [rowA k r c w v,.clo 117 []] ⟨.tup [intV (if chkI k r c w ps=0 then winI k r c w ps else 0),intV (chkI k r c w ps)],[]⟩:=by
 have h:=commit_version k r c w v _ _ hv.rd _ _ _ _ (commit_winner k r c w v ps cells hv)
 have e:(if decide (1≤(cntP k r c w ps).length)=true then (cntP k r c w ps).getD 0 0 else 0)=winI k r c w ps:=by
  unfold winI
  split
  ·rfl
  ·rename_i h1
   have:(cntP k r c w ps).length=0:=by simp at h1;simp [h1]
   rw [List.eq_nil_of_length_eq_zero this]
   rfl
 rw [e] at h
 exact h
def comD (k r c w:Int) (ps:List PairB):List UInt8:=dataL k r c w ps 2 (winI k r c w ps) k.toNat
def comE (k r c w:Int) (ps:List PairB):Int:=if chkI k r c w ps=0 then (if winI k r c w ps=0 then 5 else if manyN k r c w ps 2 (winI k r c w ps) < k.toNat then 5 else parseE k r c w (comD k r c w ps)) else chkI k r c w ps
def comV (k r c w:Int) (ps:List PairB):AV:=if comE k r c w ps=0 then .tup [descA (pLen (comD k r c w ps)) (pDep (comD k r c w ps)) (pRefs (comD k r c w ps)),intV (winI k r c w ps),intV 0] else .tup [desc0,intV 0,intV (comE k r c w ps)]
theorem chk_parts {k r c w:Int} {ps:List PairB} (h:chkI k r c w ps=0):mayB k r c w=true∧rowB k r c ps=true:=by
 unfold chkI at h
 split at h
 ·rename_i h1
  split at h
  ·rename_i h2;exact ⟨h1,h2⟩
  ·omega
 ·omega
theorem win_ver {k r c w:Int} {ps:List PairB} (hc:chkI k r c w ps=0) (h:winI k r c w ps≠0):verB (winI k r c w ps)=true:=by
 have hl:1≤(cntP k r c w ps).length:=by
  rcases Nat.eq_zero_or_pos (cntP k r c w ps).length with h0 | h0
  ·exfalso
   apply h
   unfold winI
   rw [List.eq_nil_of_length_eq_zero h0]
   rfl
  ·exact h0
 have hm:=win_mem hl
 have hm2:winI k r c w ps∈(talT k r c w ps).filter (cntB k (heldsP k r c w ps)):=hm
 have:=(tal_pw k r c w ps).2 _ (List.mem_filter.1 hm2).1
 unfold verB
 exact decide_eq_true this
theorem bytes_rd (bs:List UInt8) (n:Nat) (h:bs.length=n):RdSl (treeR n (bytesA bs)) bs.length (bytesA bs++[]):=by rw [h,List.append_nil];exact treeR_rd _ _
theorem comD_len {k r c w:Int} {ps:List PairB} (hm:mayB k r c w=true):(comD k r c w ps).length=k.toNat*c.toNat:=dataL_len _ _ _ _ _ _ _ _
def onceCR:Nat→Bool:=fun d=>d != 4
theorem commit_Read (k r c w:Int) (v:AV) (ps:List PairB) (cells:List AV) (hv:RowV v ps cells):FSpec Tryz.prog 79 [parV k r c w,v] ⟨comV k r c w ps,[]⟩:=by
 refine fspec_fzT ?_
 have h1:=version_win k r c w v ps cells hv
 have hvc:=rd_cells hv.rd
 have hvo:=rd_okA hv.rd
 have f1:=rd_fz hv.rd
 have q1:=rd_one hv.rd
 have hp:=hv.rd.plain
 have hz:comE k r c w ps≠0→∀ m,fzT 0 m (.tup [.agg [.val (.int .i64 0),.val (.int .i64 0),.val (.slice none 0 0)],.val (.int .i64 0),.val (.int .i64 (comE k r c w ps))])=some (comV k r c w ps):=fun h m=>by
  unfold comV
  rw [if_neg h]
  exact fzId_tup (fun x hx=>by
   simp only [List.mem_cons,List.not_mem_nil,or_false] at hx
   rcases hx with rfl | rfl | rfl
   ·exact fzId_agg fun c hc=>by
     simp only [List.mem_cons,List.not_mem_nil,or_false] at hc
     rcases hc with rfl | rfl | rfl <;> exact fzId_val _
   ·exact fzId_val _
   ·exact fzId_val _) 0 m
 by_cases hc:chkI k r c w ps=0
 ·obtain ⟨hm,hr⟩:=chk_parts hc
  have hE:comE k r c w ps=if winI k r c w ps=0 then 5 else if manyN k r c w ps 2 (winI k r c w ps) < k.toNat then 5 else parseE k r c w (comD k r c w ps):=by unfold comE;rw [if_pos hc]
  rw [if_pos hc,hc] at h1
  have hver:=win_ver hc
  have hrd:=fun h=>stripe_Read k r c w 2 (winI k r c w ps) v ps cells hv hm hr (.inr rfl) (hver h)
  have hcv:comE k r c w ps=0→comV k r c w ps = .tup [descA (pLen (comD k r c w ps)) (pDep (comD k r c w ps)) (pRefs (comD k r c w ps)),intV (winI k r c w ps),intV 0]:=fun h=>by unfold comV;rw [if_pos h]
  have hdl:=comD_len (ps:=ps) hm
  have hcD:comD k r c w ps=dataL k r c w ps 2 (winI k r c w ps) k.toNat:=rfl
  unfold sreadV at hrd
  rw [←hcD] at hrd
  clear hcD
  generalize winI k r c w ps=W at *
  generalize comD k r c w ps=D at *
  by_cases hW:W=0
  ·subst hW
   rw [if_pos rfl] at hE
   have hz:=hz (by rw [hE];decide)
   rw [hE] at hz
   replace hz:=Hid.mk hz
   replace hE:=Hid.mk hE
   clear hrd hver hcv
   refine ospec_of_body follows Tryz.func79 (by unfold Tryz.f79;rfl) (by unfold Tryz.f79;simp) onceCR (by unfold Tryz.f79;simp) (by kernel_rfl) ?_;unfold Tryz.f79
   simp only [↓pre,simprocAttr,parV,sx,tys79,onceCR,bne,postU,postFz,storeE,allocE,put_at,push_at,me0,f1,q1,Nat.one_ne_zero,Nat.zero_ne_one,↓hvc,↓hvo,sr]
   (first | refine call_plain (h1) (by first | rfl | simp only [parV,plQ, *]) ?_ | refine call_pure (h1) (by first | rfl | simp only [parV,plQ, *]) (by intro k;first | rfl | simp only [sq,sr, *]) ?_);simp only [↓pre,simprocAttr,parV,sx,tys79,onceCR,bne,postU,postFz,storeE,allocE,put_at,push_at,me0,f1,q1,Nat.one_ne_zero,Nat.zero_ne_one,↓hvc,↓hvo,sr]
   exact ⟨0,hz.out _⟩
  ·rw [if_neg hW] at hE
   have hrd:=hrd hW
   clear hver
   by_cases hlt:manyN k r c w ps 2 W < k.toNat
   ·rw [if_pos hlt] at hE hrd
    have hz:=hz (by rw [hE];decide)
    rw [hE] at hz
    replace hz:=Hid.mk hz
    replace hE:=Hid.mk hE
    clear hcv
    simp only [nilS] at hrd
    refine ospec_of_body follows Tryz.func79 (by unfold Tryz.f79;rfl) (by unfold Tryz.f79;simp) onceCR (by unfold Tryz.f79;simp) (by kernel_rfl) ?_;unfold Tryz.f79
    simp only [↓pre,simprocAttr,parV,sx,tys79,onceCR,bne,postU,postFz,storeE,allocE,put_at,push_at,me0,f1,q1,Nat.one_ne_zero,Nat.zero_ne_one,↓hvc,↓hvo,sr]
    (first | refine call_plain (h1) (by first | rfl | simp only [parV,plQ, *]) ?_ | refine call_pure (h1) (by first | rfl | simp only [parV,plQ, *]) (by intro k;first | rfl | simp only [sq,sr, *]) ?_);simp only [↓pre,simprocAttr,parV,sx,tys79,onceCR,bne,postU,postFz,storeE,allocE,put_at,push_at,me0,f1,q1,Nat.one_ne_zero,Nat.zero_ne_one,↓hvc,↓hvo,hW,sr];(first | refine call_plain (hrd) (by first | rfl | simp only [parV,plQ, *]) ?_ | refine call_pure (hrd) (by first | rfl | simp only [parV,plQ, *]) (by intro k;first | rfl | simp only [sq,sr, *]) ?_);simp only [↓pre,simprocAttr,parV,sx,tys79,onceCR,bne,postU,postFz,storeE,allocE,put_at,push_at,me0,f1,q1,Nat.one_ne_zero,Nat.zero_ne_one,↓hvc,↓hvo,hW,sr]
    exact ⟨0,hz.out _⟩
   ·rw [if_neg hlt] at hE hrd
    have hpa:=desc_Parse k r c w (treeR (k.toNat*c.toNat) (bytesA D)) D [] (bytes_rd D _ hdl)
    unfold parseD at hpa
    have pt:=(treeR_rd (k.toNat*c.toNat) (bytesA D)).plain
    rw [←hE] at hpa
    replace hlt:=Hid.mk hlt
    by_cases he:comE k r c w ps=0
    ·rw [he,if_pos rfl] at hpa
     have hcv:=hcv he
     have hf:=fun m=>fzId_tup (fun x (hx:x∈[descA (pLen D) (pDep D) (pRefs D),intV W,intV 0])=>by
      simp only [List.mem_cons,List.not_mem_nil,or_false] at hx
      rcases hx with rfl | rfl | rfl
      ·exact descA_id _ _ _
      ·exact fzId_val _
      ·exact fzId_val _) 0 m
     rw [←hcv] at hf
     unfold descA at hpa
     rw [hcv] at hf
     unfold descA at hf
     rw [hcv]
     unfold descA
     replace hcv:=Hid.mk hcv
     replace hE:=Hid.mk hE
     replace hz:=Hid.mk hz
     generalize pLen D=pl at *
     generalize pDep D=pd at *
     generalize pRefs D=pr at *
     have hTRf:treeR pr.length (refsA pr) = .val (.slice none 0 0)∨treeR pr.length (refsA pr) = .tree pr.length pr.length (refsA pr) false:=by unfold treeR;split;exact .inl rfl;exact .inr rfl
     rcases hTRf with hT | hT
     all_goals rw [hT] at hpa hf ⊢
     all_goals replace hT:=Hid.mk hT
     all_goals replace hf:=Hid.mk hf
     all_goals (
      refine ospec_of_body follows Tryz.func79 (by unfold Tryz.f79;rfl) (by unfold Tryz.f79;simp) onceCR (by unfold Tryz.f79;simp) (by kernel_rfl) ?_;unfold Tryz.f79
      simp only [↓pre,simprocAttr,parV,sx,tys79,onceCR,bne,postU,postFz,storeE,allocE,put_at,push_at,me0,f1,q1,Nat.one_ne_zero,Nat.zero_ne_one,↓hvc,↓hvo,sr]
      (first | refine call_plain (h1) (by first | rfl | simp only [parV,plQ, *]) ?_ | refine call_pure (h1) (by first | rfl | simp only [parV,plQ, *]) (by intro k;first | rfl | simp only [sq,sr, *]) ?_);simp only [↓pre,simprocAttr,parV,sx,tys79,onceCR,bne,postU,postFz,storeE,allocE,put_at,push_at,me0,f1,q1,Nat.one_ne_zero,Nat.zero_ne_one,↓hvc,↓hvo,hW,sr];(first | refine call_plain (hrd) (by first | rfl | simp only [parV,plQ, *]) ?_ | refine call_pure (hrd) (by first | rfl | simp only [parV,plQ, *]) (by intro k;first | rfl | simp only [sq,sr, *]) ?_);simp only [↓pre,simprocAttr,parV,sx,tys79,onceCR,bne,postU,postFz,storeE,allocE,put_at,push_at,me0,f1,q1,Nat.one_ne_zero,Nat.zero_ne_one,↓hvc,↓hvo,hW,sr];(first | refine call_plain (hpa) (by first | rfl | simp only [parV,plQ, *]) ?_ | refine call_pure (hpa) (by first | rfl | simp only [parV,plQ, *]) (by intro k;first | rfl | simp only [sq,sr, *]) ?_);simp only [↓pre,simprocAttr,parV,sx,tys79,onceCR,bne,postU,postFz,storeE,allocE,put_at,push_at,me0,f1,q1,Nat.one_ne_zero,Nat.zero_ne_one,↓hvc,↓hvo,hW,sr]
      exact ⟨0,hf.out _⟩
     )
    ·rw [if_neg he] at hpa
     have hz:=hz he
     replace hz:=Hid.mk hz
     replace hE:=Hid.mk hE
     replace hcv:=Hid.mk hcv
     generalize comE k r c w ps=CE at *
     unfold desc0 nilS at hpa
     refine ospec_of_body follows Tryz.func79 (by unfold Tryz.f79;rfl) (by unfold Tryz.f79;simp) onceCR (by unfold Tryz.f79;simp) (by kernel_rfl) ?_;unfold Tryz.f79
     simp only [↓pre,simprocAttr,parV,sx,tys79,onceCR,bne,postU,postFz,storeE,allocE,put_at,push_at,me0,f1,q1,Nat.one_ne_zero,Nat.zero_ne_one,↓hvc,↓hvo,sr]
     (first | refine call_plain (h1) (by first | rfl | simp only [parV,plQ, *]) ?_ | refine call_pure (h1) (by first | rfl | simp only [parV,plQ, *]) (by intro k;first | rfl | simp only [sq,sr, *]) ?_);simp only [↓pre,simprocAttr,parV,sx,tys79,onceCR,bne,postU,postFz,storeE,allocE,put_at,push_at,me0,f1,q1,Nat.one_ne_zero,Nat.zero_ne_one,↓hvc,↓hvo,hW,he,sr];(first | refine call_plain (hrd) (by first | rfl | simp only [parV,plQ, *]) ?_ | refine call_pure (hrd) (by first | rfl | simp only [parV,plQ, *]) (by intro k;first | rfl | simp only [sq,sr, *]) ?_);simp only [↓pre,simprocAttr,parV,sx,tys79,onceCR,bne,postU,postFz,storeE,allocE,put_at,push_at,me0,f1,q1,Nat.one_ne_zero,Nat.zero_ne_one,↓hvc,↓hvo,hW,he,sr];(first | refine call_plain (hpa) (by first | rfl | simp only [parV,plQ, *]) ?_ | refine call_pure (hpa) (by first | rfl | simp only [parV,plQ, *]) (by intro k;first | rfl | simp only [sq,sr, *]) ?_);simp only [↓pre,simprocAttr,parV,sx,tys79,onceCR,bne,postU,postFz,storeE,allocE,put_at,push_at,me0,f1,q1,Nat.one_ne_zero,Nat.zero_ne_one,↓hvc,↓hvo,hW,he,sr]
     exact ⟨0,hz.out _⟩
 ·have hE:comE k r c w ps=chkI k r c w ps:=by unfold comE;rw [if_neg hc]
  rw [if_neg hc] at h1
  have hz:=hz (by rw [hE];exact hc)
  rw [hE] at hz
  replace hz:=Hid.mk hz
  replace hE:=Hid.mk hE
  refine ospec_of_body follows Tryz.func79 (by unfold Tryz.f79;rfl) (by unfold Tryz.f79;simp) onceCR (by unfold Tryz.f79;simp) (by kernel_rfl) ?_;unfold Tryz.f79
  simp only [↓pre,simprocAttr,parV,sx,tys79,onceCR,bne,postU,postFz,storeE,allocE,put_at,push_at,me0,f1,q1,Nat.one_ne_zero,Nat.zero_ne_one,↓hvc,↓hvo,sr]
  (first | refine call_plain (h1) (by first | rfl | simp only [parV,plQ, *]) ?_ | refine call_pure (h1) (by first | rfl | simp only [parV,plQ, *]) (by intro k;first | rfl | simp only [sq,sr, *]) ?_);simp only [↓pre,simprocAttr,parV,sx,tys79,onceCR,bne,postU,postFz,storeE,allocE,put_at,push_at,me0,f1,q1,Nat.one_ne_zero,Nat.zero_ne_one,↓hvc,↓hvo,hc,sr]
  exact ⟨0,hz.out _⟩
def vecB (l:List Int):List UInt8:=l.flatMap fun n=>numB n 4
theorem vecB_len (l:List Int):(vecB l).length=l.length*4:=by
 induction l with
 | nil=>rfl
 | cons a l ih=>simp only [vecB,List.flatMap_cons,List.length_append,numB_len,List.length_cons] at ih ⊢;omega
def slotB (s:SlotC):List UInt8:=[84,50,UInt8.ofNat s.kd.toNat,UInt8.ofNat s.ix.toNat]++(numB s.ce 4++(numB s.st 4++(vecB s.vec++s.data)))
theorem last_le {M:Int}:∀ (l:List Int) (a:Int),a≤M→(∀ v∈l,v≤M)→a≤l.foldl max a∧l.foldl max a≤M
 | [],a,h,_=>⟨Int.le_refl _,h⟩
 | x::l,a,h,hl=>by
  have:=last_le l (max a x) (by have:=hl x (by simp);omega) fun v hv=>hl v (by simp [hv])
  simp only [List.foldl_cons]
  omega
structure PutC where
 dr:Nat
 row:Int
 sl:Nat
 bs:List UInt8
def PutC.cells (p:PutC):List AV:=[intV p.dr,intV p.row,intV p.sl,treeR p.bs.length (bytesA p.bs)]
def putsA (l:List PutC):List AV:=l.flatMap PutC.cells
structure WrA (m0 m:Mem) (a:Nat) (k r c w:Int) (row:AV) (num:Int) (kv:AV) (l:List PutC):Prop where
 ex:∃ v,m.at_ a=some ⟨[intV k,intV r,intV c,intV w,row,intV num,kv,v],189,.var,true⟩∧OwnK .var m 56 4 v l.length (putsA l)∧NewV m0 v
 lt:a < m0.next
 next:m0.next≤m.next
 mm:m.mm=m0.mm
 at_:∀ j k,m0.at_ j=some k→j < m0.next→j≠a→m.at_ j=some k
def keepI (o:Option (List Int)) (i:Nat):Int:=match o with | some l=>l.getD i 0 | none=>0
def putC (k r c w:Int) (ps:List PairB) (num:Int) (o:Option (List Int)) (s:SlotC):PutC:=⟨s.ix.toNat,num,olderN k r c w (ps.getD s.ix.toNat ([],[])) s.ix s.kd (keepI o s.ix.toNat),slotB s⟩
structure Kept' (m m':Mem) (pv:AV):Prop where
 next:m.next≤m'.next
 mm:m'.mm=m.mm
 at_:∀ j k,m.at_ j=some k→j < m.next→blkOf pv≠some j→m'.at_ j=some k
def keepO (k r c w:Int) (ps:List PairB) (kd keep:Int):Option (List Int):=if 0 < keep then toldL k r c w ps kd keep else none
def mendS (k r c w:Int) (ps:List PairB) (kd ver:Int) (i:Nat):SlotC:=⟨kd,i,((toldL k r c w ps kd ver).getD []).getD i 0,ver,(toldL k r c w ps kd ver).getD [],tab c.toNat (wholeA k r c w ps kd ver i)⟩
def mendN (k r c w:Int) (ps:List PairB) (num kd keep ver:Int) (n:Nat):List PutC:=(List.range n).flatMap fun i=>if ((thereL k r c w ps kd ver).getD i []).length=0 then [putC k r c w ps num (keepO k r c w ps kd keep) (mendS k r c w ps kd ver i)] else []
theorem told_slot {k r c w:Int} {ps:List PairB} {kd ver:Int} {l:List Int} (h:toldL k r c w ps kd ver=some l):vecE k r c w l=0∧ver=lastI l:=by
 obtain ⟨i,hi,h1⟩:=toldN_some _ _ h
 obtain ⟨h2,bs,_,h3,rfl⟩:=told1_some h1
 refine ⟨h2, ?_⟩
 unfold toldB at h3
 simp only [Bool.and_eq_true,decide_eq_true_eq] at h3
 obtain ⟨h4,h5,h6,h7⟩:=h3
 have:=(slot_ok h4).st
 rw [←this,←h7]
 unfold slA
 rw [if_pos h4]
 rfl
theorem mendS_ok {k r c w:Int} {ps:List PairB} {kd ver:Int} {l:List Int} (hm:mayB k r c w=true) (hk:kd=1∨kd=2) (h:toldL k r c w ps kd ver=some l) {i:Nat} (hi:(i:Int) < k+r):SlotOk k r c w (mendS k r c w ps kd ver i):=by
 obtain ⟨h1,h2⟩:=told_slot h
 have hl:=(vec_ok h1).1
 have hmn:=may_n hm
 unfold mendS
 rw [h]
 refine ⟨h1,h2,by simp only;omega,by simp only [Option.getD_some];omega,hk, ?_, ?_⟩
 ·simp only [Option.getD_some,Int.toNat_natCast]
  rw [List.getD_eq_getElem?_getD,List.getElem?_eq_getElem (by omega)]
  rfl
 ·simp only [tab_len]
  omega
def finL (k r c w:Int) (ps:List PairB) (num:Int):List PutC:=mendN k r c w ps num 2 (runI k r c w ps) (winI k r c w ps) (k+r).toNat
def parT (k r L:Nat) (C:List (List UInt8)):List (List UInt8):=(List.range' k r).map fun i=>tab L (celU k (celM C) i)

theorem loop_cut2 {P:Program} {once:Nat→Bool} {n id id2:Nat} {b:Code} {K:Env→Mem→Prop} {Q:Ex→Env→Mem→Prop} {e:Env} {m:Mem} (R:Env→Mem→Prop) (h2:∀ e m,R e m→K e m) (h1:loopW (codeW P once n b) (blockQ id (blockQ id2 (thenQ R Q))) e m):loopW (codeW P once n b) (blockQ id (blockQ id2 (thenQ K Q))) e m :=
 codeW_mono (.loop b) _ _ e m (blockQ_mono (blockQ_mono (thenQ_mono h2 fun _ _ _ h=>h))) h1
def pureS (k r c w:Int) (bs:List UInt8) (i:Nat):Bool := !(isSlot k r c w bs && decide ((slotC k r bs).kd=2)) || (slotC k r bs).vec.all (fun v=>decide (v=(slotC k r bs).ce) && decide ((slotC k r bs).ix=(i:Nat)))
theorem slA_is {k r c w:Int} {bs:List UInt8} (h:isSlot k r c w bs=true):slA k r c w bs=(slotC k r bs).sl:=by unfold slA;rw [if_pos h]
theorem pureS_all {k r c w:Int} {bs:List UInt8} {i:Nat} (h:∀ v∈(slotC k r bs).vec,v=(slotC k r bs).ce∧(slotC k r bs).ix=(i:Nat)):pureS k r c w bs i=true:=by
 unfold pureS
 rw [Bool.or_eq_true]
 right
 rw [List.all_eq_true]
 intro v hv
 obtain ⟨h1,h2⟩:=h v hv
 rw [decide_eq_true h1,decide_eq_true h2]
 rfl

structure Cel (cs:List AV) (ps:List PairB):Prop where
 len:cs.length=ps.length*2
 at_:∀ i p,ps[i]? = some p→∃ a b xa xb,cs[i*2]? = some a∧cs[i*2+1]? = some b∧RdSl a p.1.length (bytesA p.1++xa)∧RdSl b p.2.length (bytesA p.2++xb)
theorem Cel.row {cs:List AV} {ps:List PairB} (h:Cel cs ps):RowV (treeR ps.length cs) ps cs:=⟨treeR_rd _ _,h.at_⟩
theorem Cel.all {cs:List AV} {ps:List PairB} (h:Cel cs ps):∀ c∈cs,∃ n x,RdSl c n x:=by
 intro c hc
 obtain ⟨j,hj⟩:=List.getElem?_of_mem hc
 have hjl:=(List.getElem?_eq_some_iff.1 hj).1
 have hl:=h.len
 have hi:j / 2 < ps.length:=by omega
 obtain ⟨a,b,xa,xb,h1,h2,h3,h4⟩:=h.at_ (j / 2) _ (List.getElem?_eq_getElem hi)
 have hjj:j=j / 2*2∨j=j / 2*2+1:=by omega
 rcases hjj with e | e
 ·rw [←e,hj] at h1
  cases h1
  exact ⟨_,_,h3⟩
 ·rw [←e,hj] at h2
  cases h2
  exact ⟨_,_,h4⟩
theorem Cel.ids {cs:List AV} {ps:List PairB} (h:Cel cs ps):∀ c∈cs,fzId c:=fun c hc=>by
 obtain ⟨n,x,h1⟩:=h.all c hc
 exact fzId_rd h1
def wrA (cs:List AV) (p:PutC):List AV:=splice cs (p.dr*2+p.sl) [treeR p.bs.length (bytesA p.bs)]
def pairSet (q:PairB) (sl:Nat) (bs:List UInt8):PairB:=if sl=0 then (bs,q.2) else (q.1,bs)
def wrP (ps:List PairB) (p:PutC):List PairB:=ps.set p.dr (pairSet (ps.getD p.dr ([],[])) p.sl p.bs)
def putsN (cs:List AV) (L:List PutC):List AV:=L.foldl wrA cs
def putsP (ps:List PairB) (L:List PutC):List PairB:=L.foldl wrP ps
theorem wrP_len (ps:List PairB) (p:PutC):(wrP ps p).length=ps.length:=by simp [wrP]
theorem wrA_len {cs:List AV} {p:PutC} (h:p.dr*2+p.sl < cs.length):(wrA cs p).length=cs.length:=splice_length cs _ _ h
theorem Cel.put {cs:List AV} {ps:List PairB} (h:Cel cs ps) {p:PutC} (h1:p.dr < ps.length) (h2:p.sl < 2):Cel (wrA cs p) (wrP ps p):=by
 have hl:=h.len
 have hlt:p.dr*2+p.sl+([treeR p.bs.length (bytesA p.bs)]:List AV).length≤cs.length:=by simp;omega
 have hg:=splice_get cs (p.dr*2+p.sl) [treeR p.bs.length (bytesA p.bs)] hlt
 have htr:RdSl (treeR p.bs.length (bytesA p.bs)) p.bs.length (bytesA p.bs++[]):=by rw [List.append_nil];exact treeR_rd _ _
 refine ⟨by rw [wrA_len (by omega),wrP_len];exact hl,fun i q hq => ?_⟩
 unfold wrP at hq
 rw [List.getElem?_set] at hq
 unfold wrA
 by_cases e:p.dr=i
 ·subst e
  rw [if_pos rfl,if_pos h1] at hq
  cases hq
  have hpi:ps[p.dr]? = some ps[p.dr]:=List.getElem?_eq_getElem h1
  obtain ⟨a,b,xa,xb,g1,g2,g3,g4⟩:=h.at_ _ _ hpi
  have hgd:ps.getD p.dr ([],[])=ps[p.dr]:=by rw [List.getD_eq_getElem?_getD,hpi];rfl
  rw [hgd]
  unfold pairSet
  have hs:p.sl=0∨p.sl=1:=by omega
  rcases hs with hs | hs
  ·rw [if_pos hs,hg,hg,hs]
   exact ⟨_,b,[],xb,by rw [if_pos (by simp only [List.length_cons,List.length_nil];omega),show p.dr*2 - (p.dr*2+0)=0 by omega];rfl,by rw [if_neg (by simp only [List.length_cons,List.length_nil];omega)];exact g2,htr,g4⟩
  ·rw [if_neg (by omega),hg,hg,hs]
   exact ⟨a,_,xa,[],by rw [if_neg (by simp only [List.length_cons,List.length_nil];omega)];exact g1,by rw [if_pos (by simp only [List.length_cons,List.length_nil];omega),show p.dr*2+1 - (p.dr*2+1)=0 by omega];rfl,g3,htr⟩
 ·rw [if_neg e] at hq
  obtain ⟨a,b,xa,xb,g1,g2,g3,g4⟩:=h.at_ _ _ hq
  refine ⟨a,b,xa,xb, ?_, ?_,g3,g4⟩
  ·rw [hg,if_neg (by simp only [List.length_cons,List.length_nil];omega)];exact g1
  ·rw [hg,if_neg (by simp only [List.length_cons,List.length_nil];omega)];exact g2
theorem Cel.puts {cs:List AV} {ps:List PairB} (L:List PutC) (h:Cel cs ps) (hL:∀ p∈L,p.dr < ps.length∧p.sl < 2):Cel (putsN cs L) (putsP ps L):=by
 induction L generalizing cs ps with
 | nil=>exact h
 | cons p L ih =>
  have hp:=hL p (by simp)
  show Cel (putsN (wrA cs p) L) (putsP (wrP ps p) L)
  exact ih (h.put hp.1 hp.2) fun q hq=>by rw [wrP_len];exact hL q (by simp [hq])

def codD0 (k r c w ver:Int) (p:PairB) (i:Nat):List UInt8:=if hitS k r c w p.1 (i:Nat) 2 ver=true then (slotC k r p.1).data else []
def codD (k r c w ver:Int) (p:PairB) (i:Nat):List UInt8:=if hitS k r c w p.2 (i:Nat) 2 ver=true then (slotC k r p.2).data else codD0 k r c w ver p i
def codT (k r c w ver:Int) (ps:List PairB):List (List UInt8):=ps.mapIdx fun i p=>codD k r c w ver p i
def codedB (k r c w ver:Int) (ps:List PairB):Bool:=(codT k r c w ver ps).all (fun b=>decide (b.length≠0)) && decide (parT k.toNat r.toNat c.toNat (codT k r c w ver ps)=(codT k r c w ver ps).drop k.toNat)
theorem slA_dat {k r c w:Int} {bs:List UInt8} (hm:mayB k r c w=true) (h:isSlot k r c w bs=true):(slA k r c w bs).dv=bytesV (slotC k r bs).data∧(((slotC k r bs).data.length:Nat):Int)=c:=by
 have hd:=(slot_ok h).data
 have hmn:=may_n hm
 refine ⟨?_,hd⟩
 rw [slA_dv h]
 unfold bytesV
 rw [if_neg (by omega)]
structure FinOk (k r c w:Int) (ps:List PairB) (wl:List Bool):Prop where
 puts:∀ p∈finL k r c w ps 0,p.dr < ps.length∧p.sl < 2
 step:∀ n,n≤(finL k r c w ps 0).length→comE k r c w (putsP ps ((finL k r c w ps 0).take n))=0∧winI k r c w (putsP ps ((finL k r c w ps 0).take n))=winI k r c w ps∧comD k r c w (putsP ps ((finL k r c w ps 0).take n))=comD k r c w ps
 all:missE k r c w (winI k r c w ps) (putsP ps (finL k r c w ps 0))=0∧missL k r c w (winI k r c w ps) (putsP ps (finL k r c w ps 0))=[]
 wiped:(goneN wl ps.length:Int)≤r→codedB k r c w (winI k r c w ps) (putsP ps (finL k r c w ps 0))=true→comE k r c w (wipeP wl (putsP ps (finL k r c w ps 0)) ps.length)=0∧winI k r c w (wipeP wl (putsP ps (finL k r c w ps 0)) ps.length)=winI k r c w ps∧comD k r c w (wipeP wl (putsP ps (finL k r c w ps 0)) ps.length)=comD k r c w ps
theorem com_parts {k r c w:Int} {ps:List PairB} (hc:chkI k r c w ps=0) (h:comE k r c w ps=0):winI k r c w ps≠0∧¬ manyN k r c w ps 2 (winI k r c w ps) < k.toNat∧parseE k r c w (comD k r c w ps)=0:=by
 unfold comE at h
 rw [if_pos hc] at h
 split at h
 ·contradiction
 ·rename_i h1
  split at h
  ·contradiction
  ·rename_i h2
   exact ⟨h1,h2,h⟩
theorem be_numB (n:Int) (h0:0≤n) (h1:n≤1073741824):((beN (numB n 4):Nat):Int)=n:=by
 obtain ⟨m,rfl⟩:∃ m:Nat,n=(m:Int):=⟨n.toNat,by omega⟩
 have hd:∀ j,(((m:Nat):Int) / 2 ^ j).toNat=m / 2 ^ j:=fun j=>by
  rw [show (2:Int) ^ j=((2 ^ j:Nat):Int) by simp,←Int.natCast_ediv,Int.toNat_natCast]
 have e:numB (m:Int) 4=[UInt8.ofNat (m / 2 ^ 24),UInt8.ofNat (m / 2 ^ 16),UInt8.ofNat (m / 2 ^ 8),UInt8.ofNat (m / 2 ^ 0)]:=by
  simp only [numB,hd]
 rw [e]
 have hu:∀ x:Nat,(UInt8.ofNat x).toNat=x % 256:=fun x=>by simp
 simp only [beN,List.foldl_cons,List.foldl_nil,hu]
 omega
theorem numAt_of {a b:List UInt8} {n:Int} {o:Nat} (h0:0≤n) (h1:n≤1073741824) (ho:a.length=o):numAt (a++(numB n 4++b)) o=n:=by
 unfold numAt
 rw [List.drop_left' ho,List.take_left' (numB_len n 4)]
 exact be_numB n h0 h1
theorem vecB_drop:∀ (l:List Int) (j:Nat),(vecB l).drop (4*j)=vecB (l.drop j)
 | l,0=>by simp
 | [],j+1=>by simp [vecB]
 | a::l,j+1=>by
  have e:vecB (a::l)=numB a 4++vecB l:=rfl
  rw [e,show 4*(j+1)=(numB a 4).length+4*j by rw [numB_len];omega,←List.drop_drop,List.drop_left' rfl,vecB_drop l j]
  rfl
theorem numsI_of {a:List UInt8} {l:List Int} {d:List UInt8} (ha:a.length=12) (hl:∀ v∈l,0≤v∧v≤1073741824):numsI (a++(vecB l++d)) l.length=l:=by
 refine List.ext_getElem? fun j => ?_
 unfold numsI
 by_cases hj:j < l.length
 ·rw [List.getElem?_map,List.getElem?_range hj,Option.map_some]
  obtain ⟨z,hz⟩:∃ z,l[j]? = some z:=⟨_,List.getElem?_eq_getElem hj⟩
  have hdr:l.drop j=z::l.drop (j+1):=by
   rw [List.drop_eq_getElem_cons hj]
   congr 1
   rw [List.getElem?_eq_getElem hj] at hz
   injection hz
  have hlen:((vecB l).take (4*j)).length=4*j:=by rw [List.length_take,vecB_len];omega
  have hsp:a++(vecB l++d)=(a++(vecB l).take (4*j))++(numB z 4++(vecB (l.drop (j+1))++d)):=by
   have:=List.take_append_drop (4*j) (vecB l)
   rw [vecB_drop,hdr] at this
   have e:vecB (z::l.drop (j+1))=numB z 4++vecB (l.drop (j+1)):=rfl
   rw [e] at this
   conv=>lhs;rw [←this]
   simp only [List.append_assoc]
  obtain ⟨h1,h2⟩:=hl z (List.mem_of_getElem? hz)
  rw [hsp,numAt_of h1 h2 (by rw [List.length_append,hlen,ha]),hz]
 ·rw [List.getElem?_eq_none (by simp;omega),List.getElem?_eq_none (by omega)]
theorem slotB_len {k r c w:Int} {s:SlotC} (hm:mayB k r c w=true) (hs:SlotOk k r c w s):((slotB s).length:Int)=sizeI k r c:=by
 have h1:=(vec_ok hs.vec).1
 have h2:=hs.data
 unfold slotB sizeI
 simp only [List.length_append,numB_len,vecB_len,List.length_cons,List.length_nil]
 omega
theorem slotB_read {k r c w:Int} {s:SlotC} (hm:mayB k r c w=true) (hs:SlotOk k r c w s):slotC k r (slotB s)=s:=by
 obtain ⟨hl,hv⟩:=vec_ok hs.vec
 have hmn:=may_n hm
 have hce:=hv _ (List.mem_of_getElem? hs.ce)
 have hst:0≤s.st∧s.st≤1073741824:=by
  rw [hs.st]
  exact last_le s.vec 0 (by omega) fun v hv'=>(hv v hv').2
 have hix0:=hs.ix0
 have hix1:=hs.ix1
 have hkd:=hs.kd
 obtain ⟨kd,ix,ce,st,vec,data⟩:=s
 simp only at *
 have hN:(k+r).toNat=vec.length:=by omega
 unfold slotC slotB
 rw [hN]
 congr 1
 ·show ((UInt8.ofNat kd.toNat).toNat:Int)=kd
  rcases hkd with rfl | rfl <;> rfl
 ·show ((UInt8.ofNat ix.toNat).toNat:Int)=ix
  have hu:(UInt8.ofNat ix.toNat).toNat=ix.toNat % 256:=by simp
  rw [hu]
  omega
 ·exact numAt_of (a:=[84,50,UInt8.ofNat kd.toNat,UInt8.ofNat ix.toNat]) (n:=ce) (by omega) hce.2 rfl
 ·rw [←List.append_assoc]
  exact numAt_of hst.1 hst.2 (by simp [numB_len])
 ·rw [←List.append_assoc,←List.append_assoc]
  exact numsI_of (by simp [numB_len]) fun v hv'=>by have:=hv v hv';omega
 ·rw [←List.append_assoc,←List.append_assoc,←List.append_assoc]
  exact List.drop_left' (by simp [numB_len,vecB_len];omega)
theorem slotB_is {k r c w:Int} {s:SlotC} (hm:mayB k r c w=true) (hs:SlotOk k r c w s):isSlot k r c w (slotB s)=true:=by
 unfold isSlot
 rw [decide_eq_true (slotB_len hm hs),slotB_read hm hs]
 have hmt:maySC k r c w s=true:=by
  unfold maySC mayS
  rw [decide_eq_true hs.vec,decide_eq_true hs.st,decide_eq_true ⟨hs.ix0,hs.ix1⟩,decide_eq_true hs.ce,decide_eq_true hs.data]
  rcases hs.kd with h | h <;> simp [h]
 rw [hmt]
 rfl
theorem slotB_lenB {k r c w:Int} {s:SlotC} (hm:mayB k r c w=true) (hs:SlotOk k r c w s):lenB k r c (slotB s).length=true:=by
 unfold lenB
 rw [decide_eq_true (slotB_len hm hs),Bool.or_true]
def PureRow (k r c w:Int) (qs:List PairB):Prop:=∀ (i:Nat) (q:PairB),qs[i]? = some q→pureS k r c w q.1 i=true∧pureS k r c w q.2 i=true
theorem hit_iff {k r c w:Int} {bs:List UInt8} {i:Nat} {v:Int}:hitS k r c w bs (i:Nat) 2 v=true↔isSlot k r c w bs=true∧(slotC k r bs).ix=(i:Nat)∧(slotC k r bs).kd=2∧(slotC k r bs).ce=v:=by
 unfold hitS hitB isOf
 simp only [Bool.and_eq_true,decide_eq_true_eq]
 constructor
 ·rintro ⟨⟨h1,h2⟩,h3,h4⟩
  rw [slA_is h1] at h3 h4
  exact ⟨h1,h2,h3,h4⟩
 ·rintro ⟨h1,h2,h3,h4⟩
  refine ⟨⟨h1,h2⟩, ?_, ?_⟩
  ·rw [slA_is h1];exact h3
  ·rw [slA_is h1];exact h4
theorem pure_slot {k r c w:Int} {bs:List UInt8} {i:Nat} (hm:mayB k r c w=true) (hp:pureS k r c w bs i=true) (h1:isSlot k r c w bs=true) (h2:(slotC k r bs).kd=2):(slotC k r bs).ix=(i:Nat)∧(slotC k r bs).st=(slotC k r bs).ce∧∀ v∈(slotC k r bs).vec,v=(slotC k r bs).ce:=by
 have hs:=slot_ok h1
 have hl:=(vec_ok hs.vec).1
 have hmn:=may_n hm
 unfold pureS at hp
 rw [h1,decide_eq_true h2] at hp
 simp only [Bool.and_self,Bool.not_true,Bool.false_or,List.all_eq_true,Bool.and_eq_true,decide_eq_true_eq] at hp
 have hne:(slotC k r bs).vec≠[]:=fun e=>by rw [e] at hl;simp at hl;omega
 obtain ⟨z,hz⟩:=List.exists_mem_of_ne_nil _ hne
 refine ⟨(hp z hz).2, ?_,fun v hv=>(hp v hv).1⟩
 rw [hs.st]
 have hce:1≤(slotC k r bs).ce:=((vec_ok hs.vec).2 _ (List.mem_of_getElem? hs.ce)).1
 have key:∀ (l:List Int) (a:Int),(∀ v∈l,v=(slotC k r bs).ce)→a≤(slotC k r bs).ce→(l≠[]∨a=(slotC k r bs).ce)→l.foldl max a=(slotC k r bs).ce:=by
  intro l
  induction l with
  | nil=>intro a _ _ h;rcases h with h | h;exact absurd rfl h;exact h
  | cons b l ih =>
   intro a h1 h2 _
   have hb:=h1 b (by simp)
   simp only [List.foldl_cons]
   exact ih _ (fun v hv=>h1 v (by simp [hv])) (by omega) (.inr (by omega))
 exact key _ 0 (fun v hv=>(hp v hv).1) (by omega) (.inl hne)
theorem pure_held {k r c w:Int} {bs:List UInt8} {i:Nat} {v:Int} (hm:mayB k r c w=true) (hp:pureS k r c w bs i=true) (hv:1≤v):heldI k r c w bs (i:Nat)=v↔hitS k r c w bs (i:Nat) 2 v=true:=by
 rw [hit_iff]
 unfold heldI heldB isOf
 constructor
 ·intro h
  split at h
  ·rename_i hb
   simp only [Bool.and_eq_true,decide_eq_true_eq] at hb
   exact ⟨hb.1.1,hb.1.2,hb.2.1,h⟩
  ·omega
 ·rintro ⟨h1,h2,h3,h4⟩
  obtain ⟨_,_,h5⟩:=pure_slot hm hp h1 h3
  rw [if_pos]
  ·exact h4
  ·rw [h1,decide_eq_true h2,decide_eq_true h3]
   simp only [Bool.true_and,List.all_eq_true,decide_eq_true_eq]
   exact h5
theorem datO_hit {k r c w:Int} {q:PairB} {i:Nat} {v:Int} (hm:mayB k r c w=true):(datO k r c w q (i:Nat) 2 v).length≠0↔hitS k r c w q.1 (i:Nat) 2 v=true∨hitS k r c w q.2 (i:Nat) 2 v=true:=by
 have hd:∀ bs,hitS k r c w bs (i:Nat) 2 v=true→(slotC k r bs).data.length≠0:=fun bs h=>by
  have:=(slA_dat hm (hit_slot h)).2
  have:=may_n hm
  omega
 unfold datO
 by_cases h1:hitS k r c w q.1 (i:Nat) 2 v=true
 ·rw [if_pos h1]
  exact ⟨fun _ => .inl h1,fun _=>hd _ h1⟩
 ·rw [if_neg h1]
  by_cases h2:hitS k r c w q.2 (i:Nat) 2 v=true
  ·rw [if_pos h2]
   exact ⟨fun _ => .inr h2,fun _=>hd _ h2⟩
  ·rw [if_neg h2]
   exact ⟨fun h=>absurd rfl h,fun h=>by rcases h with h | h;exact absurd h h1;exact absurd h h2⟩
theorem pure_holds {k r c w:Int} {qs:List PairB} (hm:mayB k r c w=true) (hp:PureRow k r c w qs) {i:Nat} {q:PairB} (hq:qs[i]? = some q) {v:Int} (hv:1≤v):holdsAt (heldsP k r c w qs) i v=true↔(datO k r c w q (i:Nat) 2 v).length≠0:=by
 obtain ⟨h1,h2⟩:=hp i q hq
 rw [datO_hit hm,←pure_held hm h1 hv,←pure_held hm h2 hv]
 unfold holdsAt
 rw [helds_at hq]
 simp only [Bool.or_eq_true,decide_eq_true_eq]
theorem pure_there {k r c w:Int} {qs:List PairB} (hm:mayB k r c w=true) (hl:(qs.length:Int)=k+r) (hp:PureRow k r c w qs) {v:Int} {i:Nat} {q:PairB} (hq:qs[i]? = some q):(thereL k r c w qs 2 v).getD i []=datO k r c w q (i:Nat) 2 v:=by
 have hi:=(List.getElem?_eq_some_iff.1 hq).1
 cases hT:toldL k r c w qs 2 v with
 | some l =>
  rw [thereL_at hT hq]
  obtain ⟨hll,_⟩:=told_ok hT
  obtain ⟨j,hj,h1⟩:=toldN_some _ _ hT
  obtain ⟨h2,bs,hbs,h3,rfl⟩:=told1_some h1
  have hqj:qs[j]? = some (qs.getD j ([],[])):=by rw [List.getD_eq_getElem?_getD,List.getElem?_eq_getElem hj];rfl
  obtain ⟨p1,p2⟩:=hp j _ hqj
  have hpb:pureS k r c w bs j=true:=by rcases hbs with rfl | rfl;exact p1;exact p2
  unfold toldB at h3
  simp only [Bool.and_eq_true,decide_eq_true_eq] at h3
  obtain ⟨h4,h5,h6,h7⟩:=h3
  rw [slA_is h4] at h5 h7
  obtain ⟨_,h8,h9⟩:=pure_slot hm hpb h4 h5
  have h7:(slotC k r bs).st=v:=h7
  have hz:(slotC k r bs).vec.getD i 0=v:=by
   obtain ⟨z,hz⟩:∃ z,(slotC k r bs).vec[i]? = some z:=⟨_,List.getElem?_eq_getElem (by omega)⟩
   rw [List.getD_eq_getElem?_getD,hz]
   show z=v
   rw [h9 z (List.mem_of_getElem? hz),←h8,h7]
  rw [hz]
 | none =>
  have h0:(thereL k r c w qs 2 v).getD i []=[]:=by
   unfold thereL
   rw [hT]
   simp only
   rw [List.getD_eq_getElem?_getD,List.getElem?_map,List.getElem?_range hi]
   rfl
  rw [h0]
  symm
  refine List.eq_nil_of_length_eq_zero ?_
  refine Decidable.by_contra fun hne => ?_
  have hh:=(datO_hit hm).1 hne
  obtain ⟨p1,p2⟩:=hp i q hq
  have hgd:qs.getD i ([],[])=q:=by rw [List.getD_eq_getElem?_getD,hq];rfl
  have htb:∀ bs,pureS k r c w bs i=true→hitS k r c w bs (i:Nat) 2 v=true→toldB k r c w bs (i:Nat) 2 v=true:=fun bs hb h=>by
   obtain ⟨h1,h2,h3,h4⟩:=hit_iff.1 h
   obtain ⟨_,h5,_⟩:=pure_slot hm hb h1 h3
   unfold toldB
   rw [h1,slA_is h1]
   simp only [Bool.true_and,Bool.and_eq_true,decide_eq_true_eq]
   exact ⟨h3,h2,by show (slotC k r bs).st=v;rw [h5,h4]⟩
  have ht1:∃ l,told1 k r c w q (i:Nat) 2 v=some l:=by
   unfold told1
   split
   ·exact ⟨_,rfl⟩
   ·rename_i hn
    rcases hh with h | h
    ·exact absurd (htb _ p1 h) hn
    ·rw [if_pos (htb _ p2 h)];exact ⟨_,rfl⟩
  obtain ⟨l,hl1⟩:=ht1
  have hN:∃ l',toldN k r c w qs 2 v (i+1)=some l':=by
   unfold toldN
   rw [hgd,hl1]
   cases toldN k r c w qs 2 v i with
   | none=>exact ⟨_,rfl⟩
   | some x=>exact ⟨_,rfl⟩
  obtain ⟨l',hl'⟩:=hN
  have:=toldN_stay hl' qs.length (by omega)
  unfold toldL at hT
  rw [this] at hT
  cases hT
theorem told_all {k r c w:Int} {qs:List PairB} (hm:mayB k r c w=true) (hp:PureRow k r c w qs) {v:Int} {l:List Int} (hT:toldL k r c w qs 2 v=some l):∀ z∈l,z=v:=by
 obtain ⟨j,hj,h1⟩:=toldN_some _ _ hT
 obtain ⟨h2,bs,hbs,h3,rfl⟩:=told1_some h1
 have hqj:qs[j]? = some (qs.getD j ([],[])):=by rw [List.getD_eq_getElem?_getD,List.getElem?_eq_getElem hj];rfl
 obtain ⟨p1,p2⟩:=hp j _ hqj
 have hpb:pureS k r c w bs j=true:=by rcases hbs with rfl | rfl;exact p1;exact p2
 unfold toldB at h3
 simp only [Bool.and_eq_true,decide_eq_true_eq] at h3
 obtain ⟨h4,h5,h6,h7⟩:=h3
 rw [slA_is h4] at h5 h7
 obtain ⟨_,h8,h9⟩:=pure_slot hm hpb h4 h5
 have h7:(slotC k r bs).st=v:=h7
 intro z hz
 rw [h9 z hz,←h8,h7]
structure Base (k r c w:Int) (ps:List PairB) (W:Int):Prop where
 may:mayB k r c w=true
 row:rowB k r c ps=true
 pure:PureRow k r c w ps
 ver:verB W=true
 told:∃ l,toldL k r c w ps 2 W=some l
abbrev newB (k r c w:Int) (ps:List PairB) (W:Int) (i:Nat):List UInt8:=slotB (mendS k r c w ps 2 W i)
abbrev thT (k r c w:Int) (ps:List PairB) (W:Int) (i:Nat):List UInt8:=(thereL k r c w ps 2 W).getD i []
section
variable {k r c w W:Int} {ps:List PairB}
theorem Base.len (h:Base k r c w ps W):(ps.length:Int)=k+r:=(row_at h.row).1
theorem Base.v1 (h:Base k r c w ps W):1≤W:=by have:=h.ver;unfold verB at this;rw [decide_eq_true_eq] at this;exact this.1
theorem Base.new (h:Base k r c w ps W) {i:Nat} (hi:i < ps.length):isSlot k r c w (newB k r c w ps W i)=true∧slotC k r (newB k r c w ps W i)=mendS k r c w ps 2 W i∧(mendS k r c w ps 2 W i).ce=W∧lenB k r c (newB k r c w ps W i).length=true∧pureS k r c w (newB k r c w ps W i) i=true:=by
 obtain ⟨l,hT⟩:=h.told
 have hl:=h.len
 have hok:=mendS_ok (w:=w) h.may (.inr rfl) hT (i:=i) (by omega)
 have hrd:=slotB_read h.may hok
 have hce:(mendS k r c w ps 2 W i).ce=W:=told_all h.may h.pure hT _ (by have:=List.mem_of_getElem? hok.ce;unfold mendS at this ⊢;rw [hT] at this ⊢;exact this)
 refine ⟨slotB_is h.may hok,hrd,hce,slotB_lenB h.may hok,pureS_all fun v hv => ?_⟩
 rw [hrd] at hv ⊢
 refine ⟨?_,rfl⟩
 rw [hce]
 unfold mendS at hv
 rw [hT] at hv
 exact told_all h.may h.pure hT v hv
theorem Base.hit (h:Base k r c w ps W) {i:Nat} (hi:i < ps.length) {v:Int}:hitS k r c w (newB k r c w ps W i) (i:Nat) 2 v=true↔v=W:=by
 obtain ⟨h1,h2,h3,_,_⟩:=h.new hi
 rw [hit_iff,h2,h3]
 exact ⟨fun h=>h.2.2.2.symm,fun h=>⟨h1,rfl,rfl,h.symm⟩⟩
structure Near (k r c w:Int) (ps:List PairB) (W:Int) (qs:List PairB):Prop where
 len:qs.length=ps.length
 at_:∀ (i:Nat) (p:PairB),ps[i]? = some p→∃ q,qs[i]? = some q∧(q=p∨((thT k r c w ps W i).length=0∧(q.1=p.1∨q.1=newB k r c w ps W i)∧(q.2=p.2∨q.2=newB k r c w ps W i)∧(q.1=newB k r c w ps W i∨q.2=newB k r c w ps W i)))
theorem Near.back {qs:List PairB} (hn:Near k r c w ps W qs) {i:Nat} {q:PairB} (hq:qs[i]? = some q):∃ p,ps[i]? = some p∧(q=p∨((thT k r c w ps W i).length=0∧(q.1=p.1∨q.1=newB k r c w ps W i)∧(q.2=p.2∨q.2=newB k r c w ps W i)∧(q.1=newB k r c w ps W i∨q.2=newB k r c w ps W i))):=by
 have hi:=(List.getElem?_eq_some_iff.1 hq).1
 have hl:=hn.len
 have hp:ps[i]? = some (ps[i]'(by omega)):=List.getElem?_eq_getElem _
 obtain ⟨q',h1,h2⟩:=hn.at_ i _ hp
 rw [hq] at h1
 cases h1
 exact ⟨_,hp,h2⟩
def IsPut (k r c w:Int) (ps:List PairB) (W:Int) (p:PutC):Prop:=p.dr < ps.length∧p.sl < 2∧p.bs=newB k r c w ps W p.dr∧(thT k r c w ps W p.dr).length=0
theorem pair_new {q p:PairB} {sl:Nat} {b:List UInt8} (h:(q.1=p.1∨q.1=b)∧(q.2=p.2∨q.2=b)):((pairSet q sl b).1=p.1∨(pairSet q sl b).1=b)∧((pairSet q sl b).2=p.2∨(pairSet q sl b).2=b)∧((pairSet q sl b).1=b∨(pairSet q sl b).2=b):=by
 unfold pairSet
 split
 ·exact ⟨.inr rfl,h.2,.inl rfl⟩
 ·exact ⟨h.1,.inr rfl,.inr rfl⟩
theorem wrP_at (qs:List PairB) (p:PutC) (i:Nat):(wrP qs p)[i]? = if p.dr=i then (if p.dr < qs.length then some (pairSet (qs.getD p.dr ([],[])) p.sl p.bs) else none) else qs[i]? := by
 unfold wrP
 rw [List.getElem?_set]
theorem Near.put {qs:List PairB} (hn:Near k r c w ps W qs) {p:PutC} (hp:IsPut k r c w ps W p):Near k r c w ps W (wrP qs p):=by
 obtain ⟨h1,h2,h3,h4⟩:=hp
 refine ⟨by rw [wrP_len];exact hn.len,fun i a ha => ?_⟩
 obtain ⟨q,hq,hc⟩:=hn.at_ i a ha
 rw [wrP_at]
 by_cases e:p.dr=i
 ·subst e
  have hgd:qs.getD p.dr ([],[])=q:=by rw [List.getD_eq_getElem?_getD,hq];rfl
  rw [if_pos rfl,if_pos (by have:=hn.len;omega),hgd,h3]
  refine ⟨_,rfl,.inr ⟨h4, ?_⟩⟩
  refine pair_new ?_
  rcases hc with rfl | ⟨_,g1,g2,_⟩
  ·exact ⟨.inl rfl,.inl rfl⟩
  ·exact ⟨g1,g2⟩
 ·rw [if_neg e]
  exact ⟨q,hq,hc⟩
theorem Near.puts:∀ (L:List PutC) {qs:List PairB},Near k r c w ps W qs→(∀ p∈L,IsPut k r c w ps W p)→Near k r c w ps W (putsP qs L)
 | [],qs,h,_=>h
 | p::L,qs,h,hL=>Near.puts L (h.put (hL p (by simp))) fun q hq=>hL q (by simp [hq])
def Done (k r c w:Int) (ps:List PairB) (W:Int) (qs:List PairB) (i:Nat):Prop:=∃ q,qs[i]? = some q∧(q.1=newB k r c w ps W i∨q.2=newB k r c w ps W i)
theorem Done.put {qs:List PairB} {i:Nat} (h:Done k r c w ps W qs i) {p:PutC} (hp:IsPut k r c w ps W p):Done k r c w ps W (wrP qs p) i:=by
 obtain ⟨q,hq,hc⟩:=h
 have hi:=(List.getElem?_eq_some_iff.1 hq).1
 unfold Done
 rw [wrP_at]
 by_cases e:p.dr=i
 ·subst e
  rw [if_pos rfl,if_pos hi,hp.2.2.1]
  refine ⟨_,rfl, ?_⟩
  unfold pairSet
  split
  ·exact .inl rfl
  ·exact .inr rfl
 ·rw [if_neg e]
  exact ⟨q,hq,hc⟩
theorem Done.puts:∀ (L:List PutC) {qs:List PairB} {i:Nat},Done k r c w ps W qs i→(∀ p∈L,IsPut k r c w ps W p)→Done k r c w ps W (putsP qs L) i
 | [],qs,i,h,_=>h
 | p::L,qs,i,h,hL=>Done.puts L (h.put (hL p (by simp))) fun q hq=>hL q (by simp [hq])
theorem Near.row (hb:Base k r c w ps W) {qs:List PairB} (hn:Near k r c w ps W qs):rowB k r c qs=true:=by
 obtain ⟨hl,hpr⟩:=row_at hb.row
 unfold rowB
 rw [hn.len,decide_eq_true hl,Bool.true_and,List.all_eq_true]
 intro q hq
 obtain ⟨i,hi⟩:=List.getElem?_of_mem hq
 obtain ⟨p,hp,hc⟩:=hn.back hi
 have hil:=(List.getElem?_eq_some_iff.1 hp).1
 have h1:=hpr p (List.mem_of_getElem? hp)
 have hnb:=(hb.new hil).2.2.2.1
 unfold pairB at h1 ⊢
 rw [Bool.and_eq_true] at h1 ⊢
 rcases hc with rfl | ⟨_,g1,g2,_⟩
 ·exact h1
 ·constructor
  ·rcases g1 with g | g <;> rw [g];exact h1.1;exact hnb
  ·rcases g2 with g | g <;> rw [g];exact h1.2;exact hnb
theorem Near.chk (hb:Base k r c w ps W) {qs:List PairB} (hn:Near k r c w ps W qs):chkI k r c w qs=0:=by
 unfold chkI
 rw [hb.may,hn.row hb]
 rfl
theorem Near.pure (hb:Base k r c w ps W) {qs:List PairB} (hn:Near k r c w ps W qs):PureRow k r c w qs:=by
 intro i q hq
 obtain ⟨p,hp,hc⟩:=hn.back hq
 have hil:=(List.getElem?_eq_some_iff.1 hp).1
 have h1:=hb.pure i p hp
 have hnb:=(hb.new hil).2.2.2.2
 rcases hc with rfl | ⟨_,g1,g2,_⟩
 ·exact h1
 ·constructor
  ·rcases g1 with g | g <;> rw [g];exact h1.1;exact hnb
  ·rcases g2 with g | g <;> rw [g];exact h1.2;exact hnb
theorem Near.dat (hb:Base k r c w ps W) {qs:List PairB} (hn:Near k r c w ps W qs) {i:Nat} {q:PairB} (hq:qs[i]? = some q):(thT k r c w ps W i=datO k r c w q (i:Nat) 2 W∧ps[i]? = some q)∨((thT k r c w ps W i).length=0∧datO k r c w q (i:Nat) 2 W=tab c.toNat (wholeA k r c w ps 2 W i)∧Done k r c w ps W qs i):=by
 obtain ⟨p,hp,hc⟩:=hn.back hq
 have hil:=(List.getElem?_eq_some_iff.1 hp).1
 have hth:=pure_there hb.may hb.len hb.pure (v:=W) hp
 rcases hc with rfl | ⟨g0,g1,g2,g3⟩
 ·exact .inl ⟨hth,hp⟩
 ·refine .inr ⟨g0, ?_,⟨q,hq,g3⟩⟩
  have hno:¬ (hitS k r c w p.1 (i:Nat) 2 W=true∨hitS k r c w p.2 (i:Nat) 2 W=true):=fun h=>by
   have:=(datO_hit hb.may).2 h
   rw [←hth] at this
   exact this g0
  have hrd:=(hb.new hil).2.1
  have hda:(slotC k r (newB k r c w ps W i)).data=tab c.toNat (wholeA k r c w ps 2 W i):=by rw [hrd];rfl
  have hht:hitS k r c w (newB k r c w ps W i) (i:Nat) 2 W=true:=(hb.hit hil).2 rfl
  unfold datO
  split
  ·rename_i h1
   rcases g1 with g | g
   ·rw [g] at h1;exact absurd (.inl h1) hno
   ·rw [g];exact hda
  ·rename_i h1
   rcases g3 with g | g
   ·rw [g] at h1;exact absurd hht h1
   ·rw [g,if_pos hht];exact hda
theorem Near.other (hb:Base k r c w ps W) {qs:List PairB} (hn:Near k r c w ps W qs) {v:Int} (hv:1≤v) (hne:v≠W) {i:Nat} (h:holdsAt (heldsP k r c w qs) i v=true):holdsAt (heldsP k r c w ps) i v=true:=by
 have hi:i < qs.length:=by
  refine Decidable.by_contra fun hi => ?_
  unfold holdsAt at h
  rw [List.getElem?_eq_none (by rw [helds_len];omega)] at h
  cases h
 have hq:qs[i]? = some qs[i]:=List.getElem?_eq_getElem hi
 obtain ⟨p,hp,hc⟩:=hn.back hq
 have hil:=(List.getElem?_eq_some_iff.1 hp).1
 rw [pure_holds hb.may (hn.pure hb) hq hv,datO_hit hb.may] at h
 rw [pure_holds hb.may hb.pure hp hv,datO_hit hb.may]
 rcases hc with hc | ⟨g0,g1,g2,g3⟩
 ·rw [hc] at h;exact h
 ·rcases h with h | h
  ·rcases g1 with g | g
   ·rw [g] at h;exact .inl h
   ·rw [g] at h;exact absurd ((hb.hit hil).1 h) hne
  ·rcases g2 with g | g
   ·rw [g] at h;exact .inr h
   ·rw [g] at h;exact absurd ((hb.hit hil).1 h) hne
theorem Near.same (hb:Base k r c w ps W) {qs:List PairB} (hn:Near k r c w ps W qs) {i:Nat} (h:holdsAt (heldsP k r c w ps) i W=true):holdsAt (heldsP k r c w qs) i W=true:=by
 have hi:i < ps.length:=by
  refine Decidable.by_contra fun hi => ?_
  unfold holdsAt at h
  rw [List.getElem?_eq_none (by rw [helds_len];omega)] at h
  cases h
 have hl:=hn.len
 have hp:ps[i]? = some ps[i]:=List.getElem?_eq_getElem hi
 have hq:qs[i]? = some (qs[i]'(by omega)):=List.getElem?_eq_getElem _
 rw [pure_holds hb.may hb.pure hp hb.v1,←pure_there hb.may hb.len hb.pure hp] at h
 rw [pure_holds hb.may (hn.pure hb) hq hb.v1]
 rcases hn.dat hb hq with ⟨g,_⟩ | ⟨g,_⟩
 ·rw [←g];exact h
 ·exact absurd g h
end
theorem win_cnt {k r c w:Int} {ps:List PairB} (hc:chkI k r c w ps=0) (h:winI k r c w ps≠0):winI k r c w ps∈cntP k r c w ps:=by
 refine win_mem ?_
 cases hl:cntP k r c w ps with
 | nil=>unfold winI at h;rw [hl] at h;exact absurd rfl h
 | cons a l=>simp
theorem cnt_pos {k r c w:Int} {ps:List PairB} {v:Int} (h:v∈cntP k r c w ps):1≤v∧v≤1073741824:=by
 unfold cntP at h
 rw [cnt_mem] at h
 exact (tal_pw k r c w ps).2 v h.1
theorem cnt_many {k r c w:Int} {ps:List PairB} {v:Int} (h:v∈cntP k r c w ps):k≤((cellsN (heldsP k r c w ps) v ps.length).length:Nat):=by
 unfold cntP at h
 rw [cnt_mem] at h
 have:=h.2
 unfold cntB at this
 rw [helds_len,decide_eq_true_eq] at this
 exact this
section
variable {k r c w W:Int} {ps:List PairB}
end
def imV (k r c w:Int) (v:AV):AV := .agg [intV k,intV r,intV c,intV w,v]
theorem image_size (k r c w:Int) (hm:mayB k r c w=true):FSpec Tryz.prog 69 [parV k r c w] ⟨intV (sizeI k r c),[]⟩:=by
 have hmn:=may_n hm
 have w1:IntKind.i64.wrap (k+r)=k+r:=wrap_id (by omega) (by omega)
 have w2:IntKind.i64.wrap (4*(k+r))=4*(k+r):=wrap_id (by omega) (by omega)
 have w3:IntKind.i64.wrap (12+4*(k+r))=12+4*(k+r):=wrap_id (by omega) (by omega)
 have w4:IntKind.i64.wrap (12+4*(k+r)+c)=sizeI k r c:=wrap_id (by omega) (by omega)
 replace hmn:=Hid.mk hmn
 refine fspec_of_body follows Tryz.func69 (by unfold Tryz.f69;rfl) (by unfold Tryz.f69;simp) onceA (by unfold Tryz.f69;simp) (by kernel_rfl) ?_;unfold Tryz.f69
 simp only [↓pre,simprocAttr,parV,sx,tys69,onceA,w1,w2,w3,w4]
def imB (k r c w:Int) (L:List (List UInt8)):Bool:=decide ((L.length:Int)=(k+r)*w*2) && L.all fun b=>lenB k r c b.length
def imE (k r c w:Int) (L:List (List UInt8)):Int:=if mayB k r c w=true then (if imB k r c w L=true then 0 else 90) else 2
theorem im_bound {k r c w:Int} (h:mayB k r c w=true):0≤(k+r)*w∧(k+r)*w≤4096:=by
 have h1:=mayB_of.1 h
 have h2:(k+r)*w≤16*w:=Int.mul_le_mul_of_nonneg_right (by omega) (by omega)
 exact ⟨Int.mul_nonneg (by omega) (by omega),by omega⟩
theorem image_Check (k r c w:Int) (v:AV) (L:List (List UInt8)) (cells:List AV) (hv:RowsV v L cells):FSpec Tryz.prog 43 [imV k r c w v] ⟨intV (imE k r c w L),[]⟩:=by
 have hp:=hv.rd.plain
 have hf:=rd_fz hv.rd
 have ho:=rd_one hv.rd
 have hd:=layout_Drives k r c w
 unfold imE imV
 cases hm:mayB k r c w with
 | false =>
  simp only [hm,Bool.false_eq_true,if_false] at hd ⊢
  refine fspec_of_body follows Tryz.func43 (by unfold Tryz.f43;rfl) (by unfold Tryz.f43;simp) onceA (by unfold Tryz.f43;simp) (by kernel_rfl) ?_;unfold Tryz.f43
  simp only [↓pre,simprocAttr,parV,sx,tys43,onceA,postU,hf,ho]
  (first | refine call_plain (hd) (by first | rfl | simp only [parV,plQ, *]) ?_ | refine call_pure (hd) (by first | rfl | simp only [parV,plQ, *]) (by intro k;first | rfl | simp only [sq,sr, *]) ?_);simp only [↓pre,simprocAttr,parV,sx,tys43,onceA,postU,boolV,cond_t,cond_f]
 | true =>
  simp only [hm,if_true] at hd ⊢
  have hmn:=may_n hm
  have hb:=im_bound hm
  have hs:=image_size k r c w hm
  have w1:IntKind.i64.wrap ((k+r)*w)=(k+r)*w:=wrap_id (by omega) (by omega)
  have w2:IntKind.i64.wrap ((k+r)*w*2)=(k+r)*w*2:=wrap_id (by omega) (by omega)
  by_cases hl:(L.length:Int)=(k+r)*w*2
  ·generalize hres:(if imB k r c w L=true then (0:Int) else 90)=E
   have hno:∀ b:List UInt8,b∈L→lenB k r c b.length=false→E=90:=fun b hb h=>by
    rw [←hres,if_neg]
    intro h2
    unfold imB at h2
    rw [Bool.and_eq_true,List.all_eq_true] at h2
    rw [h2.2 b hb] at h
    cases h
   have hyes:(∀ b∈L,lenB k r c b.length=true)→E=0:=fun h=>by
    rw [←hres,if_pos]
    unfold imB
    rw [decide_eq_true hl,Bool.true_and,List.all_eq_true]
    exact h
   have hln:∀ n:Nat,lenB k r c n=(decide ((n:Int)=0) || decide ((n:Int)=sizeI k r c)):=fun _=>rfl
   obtain ⟨N,hN⟩:∃ N:Nat,L.length=N:=⟨_,rfl⟩
   have hN2:N≤8192:=by omega
   replace hmn:=Hid.mk hmn
   replace hb:=Hid.mk hb
   replace hres:=Hid.mk hres
   replace hno:=Hid.mk hno
   replace hyes:=Hid.mk hyes
   replace hN:=Hid.mk hN
   have hN':=hN.out
   refine fspec_of_body follows Tryz.func43 (by unfold Tryz.f43;rfl) (by unfold Tryz.f43;simp) onceA (by unfold Tryz.f43;simp) (by kernel_rfl) ?_;unfold Tryz.f43
   simp only [↓pre,simprocAttr,parV,sx,tys43,onceA,postU,postA,hf,ho,hv.rd.len',w1,w2,sr]
   (first | refine call_plain (hd) (by first | rfl | simp only [parV,plQ, *]) ?_ | refine call_pure (hd) (by first | rfl | simp only [parV,plQ, *]) (by intro k;first | rfl | simp only [sq,sr, *]) ?_);simp only [↓pre,simprocAttr,parV,sx,tys43,onceA,postU,postA,hf,ho,hv.rd.len',w1,w2,hl,sr]
   rw [codeW_loop]
   refine loop_intro (fun q e m=>∃ i,q+i=N∧e 1 = .tptr 0 [intV k,intV r,intV c,intV w,v]∧e 27=v∧e 28=intV ((k+r)*w*2)∧e 29=intV (i:Nat)∧Hid (∀ j b,j < i→L[j]? = some b→lenB k r c b.length=true)) N ⟨0,by omega,rfl,rfl,rfl,rfl,⟨fun j b h=>by omega⟩⟩ ?_
   rintro q e m ⟨i,hq,e1,e27,e28,e29,hJ⟩
   replace hq:=Hid.mk hq
   by_cases hlt:i < N
   ·have hlt':((i:Nat):Int) < (k+r)*w*2:=by omega
    have wi:=wrap_succ (n:=i) (by omega)
    obtain ⟨b,hbi⟩:∃ b,L[i]? = some b:=⟨_,List.getElem?_eq_getElem (by omega)⟩
    obtain ⟨a,x,ha,hra⟩:=hv.at_ i b hbi
    have hil:i < L.length:=by omega
    have fa:=rd_fz hra
    have oa:=rd_one hra
    have step:lenB k r c b.length=true→∀ j b',j < i+1→L[j]? = some b'→lenB k r c b'.length=true:=fun h j b' hj hb'=>by
     by_cases hji:j=i
     ·subst hji
      rw [hbi] at hb'
      cases hb'
      exact h
     ·exact hJ.out j b' (by omega) hb'
    replace step:=Hid.mk step
    by_cases h1:(b.length:Int)=0
    ·simp only [↓pre,simprocAttr,parV,sx,tys43,onceA,postU,postA,hf,ho,hv.rd.len',w1,w2,e1,e27,e28,e29,hlt',hv.rd.addr',hil,ha,oa,hra.len',h1,wi,sr]
     exact ⟨q - 1,by have:=hq.out;omega,i+1,by have:=hq.out;omega,rfl,⟨step.out (by rw [hln,decide_eq_true h1];rfl)⟩⟩
    ·by_cases h2:(b.length:Int)=sizeI k r c
     ·have hz:¬ sizeI k r c=0:=fun h=>h1 (h2.trans h)
      simp only [↓pre,simprocAttr,parV,sx,tys43,onceA,postU,postA,hf,ho,hv.rd.len',w1,w2,e1,e27,e28,e29,hlt',hv.rd.addr',hil,ha,oa,hra.len',h2,hz,sr]
      (first | refine call_plain (hs) (by first | rfl | simp only [parV,plQ, *]) ?_ | refine call_pure (hs) (by first | rfl | simp only [parV,plQ, *]) (by intro k;first | rfl | simp only [sq,sr, *]) ?_);simp only [↓pre,simprocAttr,parV,sx,tys43,onceA,postU,postA,hf,ho,hv.rd.len',w1,w2,e1,e27,e28,e29,wi,sr]
      exact ⟨q - 1,by have:=hq.out;omega,i+1,by have:=hq.out;omega,rfl,⟨step.out (by rw [hln,decide_eq_true h2,Bool.or_true])⟩⟩
     ·have hE:=hno.out b (List.mem_of_getElem? hbi) (by rw [hln,decide_eq_false h1,decide_eq_false h2];rfl)
      subst hE
      simp only [↓pre,simprocAttr,parV,sx,tys43,onceA,postU,postA,hf,ho,hv.rd.len',w1,w2,e1,e27,e28,e29,hlt',hv.rd.addr',hil,ha,oa,hra.len',h1,h2,sr]
      (first | refine call_plain (hs) (by first | rfl | simp only [parV,plQ, *]) ?_ | refine call_pure (hs) (by first | rfl | simp only [parV,plQ, *]) (by intro k;first | rfl | simp only [sq,sr, *]) ?_);simp only [↓pre,simprocAttr,parV,sx,tys43,onceA,postU,postA,hf,ho,hv.rd.len',w1,w2,e1,e27,e28,e29,h2,sr]
   ·have hlt':¬ ((i:Nat):Int) < (k+r)*w*2:=by omega
    have hE:=hyes.out fun b hb=>by
     obtain ⟨j,hj⟩:=List.getElem?_of_mem hb
     have:=(List.getElem?_eq_some_iff.1 hj).1
     exact hJ.out j b (by omega) hj
    subst hE
    simp only [↓pre,simprocAttr,parV,sx,tys43,onceA,postU,postA,hf,ho,hv.rd.len',w1,w2,e1,e27,e28,e29,hlt',sr]
  ·have hB:imB k r c w L=false:=by unfold imB;rw [decide_eq_false hl];rfl
   rw [hB,if_neg (by decide)]
   replace hmn:=Hid.mk hmn
   replace hb:=Hid.mk hb
   refine fspec_of_body follows Tryz.func43 (by unfold Tryz.f43;rfl) (by unfold Tryz.f43;simp) onceA (by unfold Tryz.f43;simp) (by kernel_rfl) ?_;unfold Tryz.f43
   simp only [↓pre,simprocAttr,parV,sx,tys43,onceA,postU,postA,hf,ho,hv.rd.len',w1,w2,sr]
   (first | refine call_plain (hd) (by first | rfl | simp only [parV,plQ, *]) ?_ | refine call_pure (hd) (by first | rfl | simp only [parV,plQ, *]) (by intro k;first | rfl | simp only [sq,sr, *]) ?_);simp only [↓pre,simprocAttr,parV,sx,tys43,onceA,postU,postA,hf,ho,hv.rd.len',w1,w2,hl,sr]
theorem image_taken (v:AV) (b:List UInt8) (x:List AV) (hv:RdSl v b.length (bytesA b++x)) (hb:b.length≤65536):FSpec Tryz.prog 61 [v] ⟨if b.length=0 then nilS else .tree b.length b.length (bytesA b) true,[]⟩:=by
 refine fspec_fzT ?_
 have hp:=hv.plain
 by_cases h0:b.length=0
 ·rw [if_pos h0]
  have h0':(b.length:Int)=0:=by omega
  refine ospec_of_body follows Tryz.func61 (by unfold Tryz.f61;rfl) (by unfold Tryz.f61;simp) onceA (by unfold Tryz.f61;simp) (by kernel_rfl) ?_;unfold Tryz.f61
  simp only [↓pre,simprocAttr,parV,sx,tys61,onceA,postU,postV,hv.len',copy2,h0',sr]
  exact ⟨0,fzT_val⟩
 ·rw [if_neg h0]
  have h0':¬ (b.length:Int)=0:=by omega
  have hmk:=fun m=>make_bytes m (n:=b.length) hb
  have hsrc:∀ m,srcE Tryz.prog 5 1 m v=some (bytesA b,b.length):=fun m=>by
   rcases hv.form with ⟨_,h⟩ | ⟨_,_,_,h⟩ | ⟨c,f,rfl,hle⟩
   ·exact absurd h h0
   ·exact absurd h h0
   ·rw [src_tree (by rw [List.length_append,bytesA_len];omega),Nat.mul_one,List.take_left' (bytesA_len b)]
  have hcp:∀ m:Mem,copyE Tryz.prog 5 (m.push ⟨tabA b.length fun _=>0,5,.flat,true⟩) (.sl m.next 0 b.length b.length true) v=some ⟨intV (b.length:Nat),m.push ⟨bytesA b,5,.flat,true⟩,none⟩:=fun m=>by
   have h2:szE Tryz.prog 5=some 1:=by kernel_rfl
   have h4:kindT Tryz.prog 5 = .flat:=by kernel_rfl
   have hb:(m.push ⟨tabA b.length fun _=>0,5,.flat,true⟩).at_ m.next=some ⟨tabA b.length fun _=>0,5,.flat,true⟩:=by rw [push_at,if_pos rfl]
   simp only [copyE,h2,hsrc,hb,Option.bind_some,h4]
   rw [if_pos ⟨trivial,trivial,by rw [tabA_len];omega⟩,push_put rfl,Nat.min_self,Nat.mul_one,List.take_of_length_le (by rw [bytesA_len];omega)]
   congr 4
   unfold splice
   rw [bytesA_len,List.take_zero,List.nil_append,Nat.zero_add,List.drop_eq_nil_of_le (by rw [tabA_len];omega),List.append_nil]
  refine ospec_of_body follows Tryz.func61 (by unfold Tryz.f61;rfl) (by unfold Tryz.f61;simp) onceA (by unfold Tryz.f61;simp) (by kernel_rfl) ?_;unfold Tryz.f61
  simp only [↓pre,simprocAttr,parV,sx,tys61,onceA,postU,postV,hv.len',copy2,h0',hmk,hcp,sr]
  exact ⟨0,by rw [fzT_flat (by rw [push_at,if_pos rfl]),List.drop_zero]⟩
theorem taken_rd (b:List UInt8):RdSl (if b.length=0 then nilS else .tree b.length b.length (bytesA b) true) b.length (bytesA b++[]):=by
 rw [List.append_nil]
 split
 ·rename_i h;exact ⟨.inl ⟨rfl,h⟩⟩
 ·exact ⟨.inr (.inr ⟨_,_,rfl,Nat.le_refl _⟩)⟩
theorem rd_ref {v:AV} {n:Nat} {cs:List AV} (h:RdSl v n cs):hasRef v=false:=by
 rcases h.form with ⟨rfl,_⟩ | ⟨_,_,rfl,_⟩ | ⟨_,_,rfl,_⟩ <;> rfl
theorem rd_cutM {P:Program} {t:TypeId} {v:AV} {n sz i j:Nat} {cs:List AV} (h:RdSl v n cs) (h1:(elE P t).bind (szE P)=some sz) (hi:i < j) (hj:j≤n):∃ v',sliceE P t (some i) (some j) (some j) v=some v'∧RdSl v' (j - i) (cs.drop (i*sz)):=by
 obtain ⟨el,hel,hsz⟩:=Option.bind_eq_some_iff.1 h1
 rcases h.form with ⟨rfl,h0⟩ | ⟨_,_,rfl,h0⟩ | ⟨c,f,rfl,hc⟩
 ·omega
 ·omega
 ·refine ⟨.tree (j - i) (j - i) (cs.drop (i*sz)) true, ?_,⟨.inr (.inr ⟨_,true,rfl,Nat.le_refl _⟩)⟩⟩
  simp only [sliceE,hel,hsz,cutE,Option.isSome_some,Option.isNone_some,Bool.and_false,Bool.false_eq_true,if_false,Option.bind_some,Option.getD_some,Option.getD_none]
  rw [if_pos (by omega),if_neg (by omega)]
  simp
def rowP (L:List (List UInt8)) (W row:Nat) (n:Nat):List PairB:=(List.range n).map fun i=>(L.getD ((i*W+row)*2) [],L.getD ((i*W+row)*2+1) [])
theorem rowP_len (L:List (List UInt8)) (W row n:Nat):(rowP L W row n).length=n:=by simp [rowP]
theorem rowP_at {L:List (List UInt8)} {W row n i:Nat} (h:i < n):(rowP L W row n)[i]? = some (L.getD ((i*W+row)*2) [],L.getD ((i*W+row)*2+1) []):=by
 unfold rowP
 rw [List.getElem?_map,List.getElem?_range h]
 rfl
theorem rowP_succ (L:List (List UInt8)) (W row n:Nat):rowP L W row (n+1)=rowP L W row n++[(L.getD ((n*W+row)*2) [],L.getD ((n*W+row)*2+1) [])]:=by
 unfold rowP
 rw [List.range_succ,List.map_append]
 rfl
def takA (b:List UInt8):AV:=if b.length=0 then nilS else .tree b.length b.length (bytesA b) true
def prA (ps:List PairB):List AV:=ps.flatMap fun p=>[takA p.1,takA p.2]
theorem prA_append (ps:List PairB) (p:PairB):prA (ps++[p])=prA ps++[takA p.1,takA p.2]:=by simp [prA]
theorem prA_len (ps:List PairB):(prA ps).length=ps.length*2:=by
 induction ps with
 | nil=>rfl
 | cons p ps ih =>
  simp only [prA,List.flatMap_cons,List.length_append,List.length_cons,List.length_nil] at ih ⊢
  omega
theorem prA_at {ps:List PairB} {i:Nat} {p:PairB} (h:ps[i]? = some p):(prA ps)[i*2]? = some (takA p.1)∧(prA ps)[i*2+1]? = some (takA p.2):=by
 induction ps generalizing i with
 | nil=>simp at h
 | cons q ps ih =>
  unfold prA
  rw [List.flatMap_cons]
  cases i with
  | zero=>simp at h;subst h;exact ⟨rfl,rfl⟩
  | succ i =>
   have:=ih (i:=i) (by simpa using h)
   rw [show (i+1)*2=i*2+1+1 by omega]
   exact this
theorem pairs_rowV (ps:List PairB):RowV (treeR ps.length (prA ps)) ps (prA ps):=by
 refine ⟨treeR_rd _ _,fun i p hp => ?_⟩
 obtain ⟨h1,h2⟩:=prA_at hp
 exact ⟨_,_,[],[],h1,h2,taken_rd _,taken_rd _⟩
theorem prA_id (ps:List PairB):∀ c∈prA ps,fzId c:=by
 intro c hc
 obtain ⟨p,_,h⟩:=List.mem_flatMap.1 hc
 simp only [List.mem_cons,List.not_mem_nil,or_false] at h
 rcases h with rfl | rfl
 ·exact fzId_rd (taken_rd _)
 ·exact fzId_rd (taken_rd _)
def rowE (k r c w:Int) (L:List (List UInt8)) (row:Int):Int:=if imE k r c w L=0 then (if row < 0∨w≤row then 2 else 0) else imE k r c w L
def rowL (k r w:Int) (L:List (List UInt8)) (row:Int):List PairB:=rowP L w.toNat row.toNat (k+r).toNat
def rowVal (k r c w:Int) (L:List (List UInt8)) (row:Int):AV:=if rowE k r c w L row=0 then .tup [treeR (k+r).toNat (prA (rowL k r w L row)),intV 0] else .tup [nilS,intV (rowE k r c w L row)]
theorem im_parts {k r c w:Int} {L:List (List UInt8)} (h:imE k r c w L=0):mayB k r c w=true∧(L.length:Int)=(k+r)*w*2∧∀ b∈L,lenB k r c b.length=true:=by
 unfold imE at h
 split at h
 ·rename_i h1
  split at h
  ·rename_i h2
   unfold imB at h2
   rw [Bool.and_eq_true,List.all_eq_true] at h2
   exact ⟨h1,of_decide_eq_true h2.1,h2.2⟩
  ·omega
 ·omega
theorem lenB_le {k r c w:Int} (hm:mayB k r c w=true) {n:Nat} (h:lenB k r c n=true):n≤140:=by
 have:=mayB_of.1 hm
 unfold lenB sizeI at h
 rw [Bool.or_eq_true,decide_eq_true_eq,decide_eq_true_eq] at h
 omega
theorem row_index {k r w:Int} {row W N i:Nat} (hw:w=(W:Int)) (hN:k+r=(N:Int)) (hr:row < W) (hi:i < N) {n:Nat} (hl:(n:Int)=(k+r)*w*2):(i*W+row)*2+2≤n:=by
 have h1:(i+1)*W≤N*W:=Nat.mul_le_mul_right _ hi
 rw [Nat.add_mul,Nat.one_mul] at h1
 have h2:(n:Int)=((N*W*2:Nat):Int):=by rw [hl,hw,hN];simp
 omega
theorem image_Row (k r c w row:Int) (v:AV) (L:List (List UInt8)) (cells:List AV) (hv:RowsV v L cells):FSpec Tryz.prog 31 [imV k r c w v,intV row] ⟨rowVal k r c w L row,[]⟩:=by
 refine fspec_fzT ?_
 have hp:=hv.rd.plain
 have hf:=rd_fz hv.rd
 have ho:=rd_one hv.rd
 have hck:=image_Check k r c w v L cells hv
 unfold rowVal rowE
 unfold imV at hck ⊢
 by_cases hE:imE k r c w L=0
 ·rw [if_pos hE]
  rw [hE] at hck
  obtain ⟨hm,hl,hlen⟩:=im_parts hE
  by_cases hrow:row < 0∨w≤row
  ·rw [if_pos hrow,if_neg (by decide)]
   have hz:=fun m=>fzId_two (fzId_val (.slice none 0 0)) (fzId_val (.int .i64 2)) 1 m
   replace hz:=Hid.mk hz
   replace hE:=Hid.mk hE
   by_cases h1:row < 0
   ·refine ospec_of_body follows Tryz.func31 (by unfold Tryz.f31;rfl) (by unfold Tryz.f31;simp) onceA (by unfold Tryz.f31;simp) (by kernel_rfl) ?_;unfold Tryz.f31
    simp only [↓pre,simprocAttr,parV,sx,tys31,onceA,postU,postA,postV,hf,ho,sr]
    (first | refine call_plain (hck) (by first | rfl | simp only [parV,plQ, *]) ?_ | refine call_pure (hck) (by first | rfl | simp only [parV,plQ, *]) (by intro k;first | rfl | simp only [sq,sr, *]) ?_);simp only [↓pre,simprocAttr,parV,sx,tys31,onceA,postU,postA,postV,hf,ho,h1,sr]
    exact ⟨1,hz.out _⟩
   ·have h2:w≤row:=by omega
    refine ospec_of_body follows Tryz.func31 (by unfold Tryz.f31;rfl) (by unfold Tryz.f31;simp) onceA (by unfold Tryz.f31;simp) (by kernel_rfl) ?_;unfold Tryz.f31
    simp only [↓pre,simprocAttr,parV,sx,tys31,onceA,postU,postA,postV,hf,ho,sr]
    (first | refine call_plain (hck) (by first | rfl | simp only [parV,plQ, *]) ?_ | refine call_pure (hck) (by first | rfl | simp only [parV,plQ, *]) (by intro k;first | rfl | simp only [sq,sr, *]) ?_);simp only [↓pre,simprocAttr,parV,sx,tys31,onceA,postU,postA,postV,hf,ho,h1,h2,sr]
    exact ⟨1,hz.out _⟩
  ·rw [if_neg hrow,if_pos rfl]
   have hmn:=may_n hm
   have hml:=mayB_of.1 hm
   have h1:¬ row < 0:=by omega
   have h2:¬ w≤row:=by omega
   obtain ⟨N,hN⟩:∃ N:Nat,k+r=(N:Int):=⟨(k+r).toNat,by omega⟩
   obtain ⟨W,hW⟩:∃ W:Nat,w=(W:Int):=⟨w.toNat,by omega⟩
   obtain ⟨ro,hro⟩:∃ ro:Nat,row=(ro:Int):=⟨row.toNat,by omega⟩
   have hidx:=fun i (hi:i < N)=>row_index hW hN (row:=ro) (by omega) hi hl
   have hps:=rowP_succ L W ro
   have hpl:=rowP_len L W ro
   unfold rowL
   rw [show (k+r).toNat=N by omega,show w.toNat=W by omega,show row.toNat=ro by omega]
   have wN:IntKind.i64.wrap (k+r)=(N:Int):=by rw [hN];exact wrap_nat (by omega)
   have hWW:∀ i:Nat,i < N→i*W≤4096:=fun i hi=>by
    have:i*W≤16*256:=Nat.mul_le_mul (by omega) (by omega)
    omega
   generalize rowP L W ro=RP at *
   have hR0:prA (RP 0)=[]:=List.eq_nil_of_length_eq_zero (by rw [prA_len,hpl])
   replace hmn:=Hid.mk hmn
   replace hml:=Hid.mk hml
   replace hidx:=Hid.mk hidx
   replace hps:=Hid.mk hps
   replace hpl:=Hid.mk hpl
   replace hE:=Hid.mk hE
   replace hl:=Hid.mk hl
   replace hN:=Hid.mk hN
   replace hlen:=Hid.mk hlen
   replace hWW:=Hid.mk hWW
   replace hR0:=Hid.mk hR0
   replace hrow:=Hid.mk hrow
   refine ospec_of_body follows Tryz.func31 (by unfold Tryz.f31;rfl) (by unfold Tryz.f31;simp) onceA (by unfold Tryz.f31;simp) (by kernel_rfl) ?_;unfold Tryz.f31
   simp only [↓pre,simprocAttr,parV,sx,tys31,onceA,postU,postA,postV,hf,ho,sr]
   (first | refine call_plain (hck) (by first | rfl | simp only [parV,plQ, *]) ?_ | refine call_pure (hck) (by first | rfl | simp only [parV,plQ, *]) (by intro k;first | rfl | simp only [sq,sr, *]) ?_);simp only [↓pre,simprocAttr,parV,sx,tys31,onceA,postU,postA,postV,hf,ho,h1,h2,wN,sr]
   rw [codeW_loop]
   refine loop_intro (fun q e m=>∃ i lv,q+i=N∧e 1=intV row∧e 2 = .tptr 0 [intV k,intV r,intV c,intV w,v]∧e 7=lv∧e 31=intV (N:Nat)∧e 32=intV (i:Nat)∧Hid (OwnK .var m 107 2 lv i (prA (RP i)))) N ⟨0,_,by omega,rfl,rfl,rfl,rfl,rfl,⟨by rw [hR0.out];exact own_nil⟩⟩ ?_
   rintro q e m ⟨i,lv,hq,e1,e2,e7,e31,e32,hJ⟩
   replace hq:=Hid.mk hq
   by_cases hlt:i < N
   ·have hlt':((i:Nat):Int) < ((N:Nat):Int):=by omega
    have wi:=wrap_succ (n:=i) (by have:=hmn.out;have:=hN.out;omega)
    have hix:=hidx.out i hlt
    have hw4:=hWW.out i hlt
    have hro4:ro≤256:=by have:=hml.out;have:=hrow.out;omega
    have w1:IntKind.i64.wrap ((i:Int)*w)=((i*W:Nat):Int):=by rw [hW,show (i:Int)*(W:Int)=((i*W:Nat):Int) by simp];exact wrap_nat (by omega)
    have w2:IntKind.i64.wrap (((i*W:Nat):Int)+row)=((i*W+ro:Nat):Int):=by rw [hro,show ((i*W:Nat):Int)+(ro:Int)=((i*W+ro:Nat):Int) by simp];exact wrap_nat (by omega)
    have w3:IntKind.i64.wrap (((i*W+ro:Nat):Int)*2)=(((i*W+ro)*2:Nat):Int):=by rw [show ((i*W+ro:Nat):Int)*2=(((i*W+ro)*2:Nat):Int) by simp];exact wrap_nat (by omega)
    have w4:IntKind.i64.wrap ((((i*W+ro)*2:Nat):Int)+2)=(((i*W+ro)*2+2:Nat):Int):=by rw [show ((((i*W+ro)*2:Nat):Int)+2)=(((i*W+ro)*2+2:Nat):Int) by simp];exact wrap_nat (by omega)
    have hps:=hps.out i
    generalize hat:(i*W+ro)*2=at_ at *
    have n1:natOf (.val (.int .i64 (at_:Nat)))=some at_:=nat_of
    have n2:natOf (.val (.int .i64 ((at_+2:Nat):Int)))=some (at_+2):=nat_of
    obtain ⟨u,su,ru⟩:=rd_cutM (P:=Tryz.prog) (t:=24) (sz:=1) hv.rd (by kernel_rfl) (i:=at_) (j:=at_+2) (by omega) (by omega)
    rw [show at_+2 - at_=2 by omega,Nat.mul_one] at ru
    have hb0:L[at_]? = some (L.getD at_ []):=by rw [List.getD_eq_getElem?_getD,List.getElem?_eq_getElem (by omega)];rfl
    have hb1:L[at_+1]? = some (L.getD (at_+1) []):=by rw [List.getD_eq_getElem?_getD,List.getElem?_eq_getElem (by omega)];rfl
    have hm0:=lenB_le hm (hlen.out _ (List.mem_of_getElem? hb0))
    have hm1:=lenB_le hm (hlen.out _ (List.mem_of_getElem? hb1))
    obtain ⟨a0,x0,ha0,ra0⟩:=hv.at_ _ _ hb0
    obtain ⟨a1,x1,ha1,ra1⟩:=hv.at_ _ _ hb1
    have hc0:(cells.drop at_)[0]? = some a0:=by rw [List.getElem?_drop];exact ha0
    have hc1:(cells.drop at_)[1]? = some a1:=by rw [List.getElem?_drop];exact ha1
    have t0:=image_taken a0 _ x0 ra0 (by omega)
    have t1:=image_taken a1 _ x1 ra1 (by omega)
    have r0:=taken_rd (L.getD at_ [])
    have r1:=taken_rd (L.getD (at_+1) [])
    rw [←show takA (L.getD at_ [])=(if (L.getD at_ []).length=0 then nilS else .tree (L.getD at_ []).length (L.getD at_ []).length (bytesA (L.getD at_ [])) true) from rfl] at t0 r0
    rw [←show takA (L.getD (at_+1) [])=(if (L.getD (at_+1) []).length=0 then nilS else .tree (L.getD (at_+1) []).length (L.getD (at_+1) []).length (bytesA (L.getD (at_+1) [])) true) from rfl] at t1 r1
    have hpp:=prA_append (RP i) (L.getD at_ [],L.getD (at_+1) [])
    rw [←hps] at hpp
    simp only at hpp
    generalize takA (L.getD at_ [])=T0 at *
    generalize takA (L.getD (at_+1) [])=T1 at *
    have pu:=ru.plain
    have pa0:=ra0.plain
    have pa1:=ra1.plain
    have oa0:=rd_one ra0
    have oa1:=rd_one ra1
    have o0:=rd_one r0
    have o1:=rd_one r1
    have k0:=rd_okA r0
    have k1:=rd_okA r1
    have c0:=rd_cells r0
    have c1:=rd_cells r1
    have s0:=rd_shift r0
    have s1:=rd_shift r1
    have hbt:∀ m,buildTreeE Tryz.prog m 61 1 [(0,.agg [T0,T1])]=some ⟨.tree 1 1 [T0,T1] true,m,none⟩:=fun m=>buildT_of (el:=107) (sz:=2) (z:=[.val (.slice none 0 0),.val (.slice none 0 0)]) (by kernel_rfl) (by kernel_rfl) (by kernel_rfl) rfl (by simp [hasRefs,rd_ref r0,rd_ref r1]) (by decide)
    have hso:=fun m=>hv.rd.slOk (P:=Tryz.prog) (m:=m) (t:=24)
    replace hps:=Hid.mk hps
    replace hpp:=Hid.mk hpp
    replace hat:=Hid.mk hat
    replace hix:=Hid.mk hix
    simp only [↓pre,simprocAttr,parV,sx,tys31,onceA,postU,postA,postV,hf,ho,e1,e2,e7,e31,e32,hlt',w1,w2,w3,w4,hso,optNat,Option.map_some,Option.map_none,n1,n2,su,hv.rd.sliceX,ru.addr',hc0,hc1,oa0,oa1,↓k0,↓k1,↓c0,↓c1,s0,s1,o0,o1,hbt,Nat.zero_mul,Nat.one_mul,sr]
    (first | refine call_plain (t0) (by first | rfl | simp only [parV,plQ, *]) ?_ | refine call_pure (t0) (by first | rfl | simp only [parV,plQ, *]) (by intro k;first | rfl | simp only [sq,sr, *]) ?_);simp only [↓pre,simprocAttr,parV,sx,tys31,onceA,postU,postA,postV,hf,ho,e1,e2,e7,e31,e32,hlt',w1,w2,w3,w4,hso,optNat,Option.map_some,Option.map_none,n1,n2,su,hv.rd.sliceX,ru.addr',hc0,hc1,oa0,oa1,↓k0,↓k1,↓c0,↓c1,s0,s1,o0,o1,hbt,Nat.zero_mul,Nat.one_mul,sr];(first | refine call_plain (t1) (by first | rfl | simp only [parV,plQ, *]) ?_ | refine call_pure (t1) (by first | rfl | simp only [parV,plQ, *]) (by intro k;first | rfl | simp only [sq,sr, *]) ?_);simp only [↓pre,simprocAttr,parV,sx,tys31,onceA,postU,postA,postV,hf,ho,e1,e2,e7,e31,e32,hlt',w1,w2,w3,w4,hso,optNat,Option.map_some,Option.map_none,n1,n2,su,hv.rd.sliceX,ru.addr',hc0,hc1,oa0,oa1,↓k0,↓k1,↓c0,↓c1,s0,s1,o0,o1,hbt,Nat.zero_mul,Nat.one_mul,sr]
    refine app_rule (sz:=2) (y:=48) (zl:=[.slice none 0 0,.slice none 0 0]) (by kernel_rfl) hJ.out (by kernel_rfl) (by kernel_rfl) (by kernel_rfl) rfl srcT1a rfl (by have:=hmn.out;have:=hN.out;omega) (by have:=hmn.out;have:=hN.out;omega) ?_
    intro lv' m' ho' hn'
    refine contW_fixed (by kernel_rfl) ?_
    simp only [↓pre,simprocAttr,parV,sx,tys31,onceA,postU,postA,postV,hf,ho,e1,e2,e31,e32,wi,sr]
    refine ⟨q - 1,by have:=hq.out;omega,i+1,lv',by have:=hq.out;omega,rfl,rfl,⟨?_⟩⟩
    rw [hpp.out]
    exact ho'
   ·have hlt':¬ ((i:Nat):Int) < ((N:Nat):Int):=by omega
    have hi:i=N:=by have:=hq.out;omega
    subst hi
    have hfin:=fun k=>own_fzTv hJ.out (prA_id _) k
    replace hfin:=Hid.mk hfin
    simp only [↓pre,simprocAttr,parV,sx,tys31,onceA,postU,postA,postV,hf,ho,e1,e2,e7,e31,e32,hlt',sr]
    exact ⟨1,by rw [fzT_tup,fzTs_cons,hfin.out,Option.bind_some,fzTs_cons,fzT_val,fzTs_nil];rfl⟩
 ·rw [if_neg hE,if_neg hE]
  have hz:=fun m=>fzId_two (fzId_val (.slice none 0 0)) (fzId_val (.int .i64 (imE k r c w L))) 1 m
  replace hz:=Hid.mk hz
  refine ospec_of_body follows Tryz.func31 (by unfold Tryz.f31;rfl) (by unfold Tryz.f31;simp) onceA (by unfold Tryz.f31;simp) (by kernel_rfl) ?_;unfold Tryz.f31
  simp only [↓pre,simprocAttr,parV,sx,tys31,onceA,postU,postA,postV,hf,ho,sr]
  (first | refine call_plain (hck) (by first | rfl | simp only [parV,plQ, *]) ?_ | refine call_pure (hck) (by first | rfl | simp only [parV,plQ, *]) (by intro k;first | rfl | simp only [sq,sr, *]) ?_);simp only [↓pre,simprocAttr,parV,sx,tys31,onceA,postU,postA,postV,hf,ho,hE,sr]
  exact ⟨1,hz.out _⟩
theorem row_rowV (k r c w:Int) (L:List (List UInt8)) (row:Int) (hk:0≤k+r):RowV (treeR (k+r).toNat (prA (rowL k r w L row))) (rowL k r w L row) (prA (rowL k r w L row)):=by
 have:=pairs_rowV (rowL k r w L row)
 unfold rowL at this ⊢
 rw [rowP_len] at this
 exact this
theorem row_rowB {k r c w:Int} {L:List (List UInt8)} {row:Int} (h:rowE k r c w L row=0):rowB k r c (rowL k r w L row)=true∧mayB k r c w=true:=by
 unfold rowE at h
 split at h
 ·rename_i hE
  obtain ⟨hm,hl,hlen⟩:=im_parts hE
  have hmn:=may_n hm
  refine ⟨?_,hm⟩
  unfold rowB rowL
  rw [Bool.and_eq_true]
  refine ⟨decide_eq_true (by rw [rowP_len];omega),List.all_eq_true.2 fun p hp => ?_⟩
  unfold rowP at hp
  obtain ⟨i,_,rfl⟩:=List.mem_map.1 hp
  have:∀ j,lenB k r c (L.getD j []).length=true:=fun j=>by
   rw [List.getD_eq_getElem?_getD]
   cases hq:L[j]? with
   | none=>rfl
   | some b=>exact hlen b (List.mem_of_getElem? hq)
  unfold pairB
  rw [this,this]
  rfl
 ·contradiction
def leafB (k c:Int) (l:List RefI):List UInt8:=padB (refsB l) (wI k c).toNat
def leafBV (k c w:Int) (l:List RefI):AV:=if refsOk w l=true then .tup [.tree (wI k c).toNat (wI k c).toNat (bytesA (leafB k c l)) true,intV 0] else .tup [nilS,intV 150]
def onceLf:Nat→Bool:=fun d=>d != 31 && d != 32
theorem desc_Leaf (k r c w:Int) (hm:mayB k r c w=true) (v:AV) (l:List RefI) (hv:RefsV v l) (hl1:1≤l.length) (hl2:(l.length:Int)≤lI k c):FSpec Tryz.prog 152 [parV k r c w,v] ⟨leafBV k c w l,[]⟩:=by
 refine fspec_fzT ?_
 have hL:=layout_Leaf k r c w
 simp only [hm,if_true] at hL
 have hw:=may_w hm
 have hml:=mayB_of.1 hm
 have hlb:=l_bounds hw.1 hw.2
 have hl128:l.length≤128:=by unfold lI at hl2;omega
 have h1:=desc_may k r c w v l hv (by omega)
 obtain ⟨x,hr⟩:=hv
 have hp:=hr.plain
 have g1:¬ ((l.length:Nat):Int) < 1:=by omega
 have g2:¬ lI k c < ((l.length:Nat):Int):=by omega
 unfold leafBV
 by_cases hok:refsOk w l=true
 ·rw [if_pos hok]
  rw [hok] at h1
  have hlr:∀ x∈l,(0≤x.1∧x.1≤1073741824)∧0≤x.2∧x.2≤1073741824:=fun y hy=>by
   have:=List.all_eq_true.1 hok y hy
   unfold refB at this
   have:=of_decide_eq_true this
   omega
  have ho0:Own Mem.empty 5 1 nilS ([]:List AV).length []:=own_nil
  have t4:=desc_add Mem.empty nilS [] v l ⟨x,hr⟩ ho0 hlr (by omega) (by simp)
  have o4:=addG_own l _ _ _ ho0
  rw [List.nil_append,List.length_nil,Nat.zero_add] at o4
  have t5:=desc_wide k r c w hm _ _ _ o4 (by rw [refsB_len];unfold wI;unfold lI at hl2;omega)
  generalize addG Mem.empty nilS [] l=G4 at *
  replace hlr:=Hid.mk hlr
  replace o4:=Hid.mk o4
  replace hml:=Hid.mk hml
  replace hlb:=Hid.mk hlb
  simp only [intV,nilS] at t4 t5
  refine ospec_of_body follows Tryz.func152 (by unfold Tryz.f152;rfl) (by unfold Tryz.f152;simp) onceLf (by unfold Tryz.f152;simp) (by kernel_rfl) ?_;unfold Tryz.f152
  simp only [↓pre,simprocAttr,parV,sx,tys152,onceLf,bne,postU,hr.len',g1,g2,sr]
  (first | refine call_plain (hL) (by first | rfl | simp only [parV,plQ, *]) ?_ | refine call_pure (hL) (by first | rfl | simp only [parV,plQ, *]) (by intro k;first | rfl | simp only [sq,sr, *]) ?_);simp only [↓pre,simprocAttr,parV,sx,tys152,onceLf,bne,postU,hr.len',g1,g2,sr];(first | refine call_plain (h1) (by first | rfl | simp only [parV,plQ, *]) ?_ | refine call_pure (h1) (by first | rfl | simp only [parV,plQ, *]) (by intro k;first | rfl | simp only [sq,sr, *]) ?_);simp only [↓pre,simprocAttr,parV,sx,tys152,onceLf,bne,postU,hr.len',g1,g2,sr]
  refine call_det t4 ?_
  refine contW_fixed (by kernel_rfl) ?_
  simp only [↓pre,simprocAttr,parV,sx,tys152,onceLf,bne,postU,hr.len',g1,g2,sr]
  refine call_det t5 ?_
  refine contW_fixed (by kernel_rfl) ?_
  simp only [↓pre,simprocAttr,parV,sx,tys152,onceLf,bne,postU,hr.len',g1,g2,sr]
  refine ⟨0, ?_⟩
  rw [fzT_tup,fzTs_cons,fzT_flat (by rw [push_at,if_pos rfl]),Option.bind_some,fzTs_cons,fzT_val,fzTs_nil,List.drop_zero]
  rfl
 ·rw [if_neg hok]
  rw [Bool.not_eq_true] at hok
  rw [hok] at h1
  have hf:=fun m=>fzId_two (fzId_val (.slice none 0 0)) (fzId_val (.int .i64 150)) 1 m
  replace hf:=Hid.mk hf
  refine ospec_of_body follows Tryz.func152 (by unfold Tryz.f152;rfl) (by unfold Tryz.f152;simp) onceA (by unfold Tryz.f152;simp) (by kernel_rfl) ?_;unfold Tryz.f152
  simp only [↓pre,simprocAttr,parV,sx,tys152,onceA,postU,hr.len',g1,g2,sr]
  (first | refine call_plain (hL) (by first | rfl | simp only [parV,plQ, *]) ?_ | refine call_pure (hL) (by first | rfl | simp only [parV,plQ, *]) (by intro k;first | rfl | simp only [sq,sr, *]) ?_);simp only [↓pre,simprocAttr,parV,sx,tys152,onceA,postU,hr.len',g1,g2,sr];(first | refine call_plain (h1) (by first | rfl | simp only [parV,plQ, *]) ?_ | refine call_pure (h1) (by first | rfl | simp only [parV,plQ, *]) (by intro k;first | rfl | simp only [sq,sr, *]) ?_);simp only [↓pre,simprocAttr,parV,sx,tys152,onceA,postU,hr.len',g1,g2,sr]
  exact ⟨1,hf.out _⟩
def refsE (k c w:Int) (bs:List UInt8) (n:Int):Int:=if n < 1∨lI k c < n then 20 else if refsOk w (refsOf bs n.toNat)=true∧leafB k c (refsOf bs n.toNat)=bs then 0 else 150
def refsV (k c w:Int) (bs:List UInt8) (n:Int):AV:=if refsE k c w bs n=0 then .tup [treeR n.toNat (refsA (refsOf bs n.toNat)),intV 0] else .tup [nilS,intV (refsE k c w bs n)]
theorem desc_Refs (k r c w:Int) (hm:mayB k r c w=true) (v:AV) (bs:List UInt8) (x:List AV) (hv:RdSl v bs.length (bytesA bs++x)) (hl:(bs.length:Int)=wI k c) (n:Int):FSpec Tryz.prog 121 [parV k r c w,v,intV n] ⟨refsV k c w bs n,[]⟩:=by
 refine fspec_fzT ?_
 have hL:=layout_Leaf k r c w
 have hz:=desc_sized k r c w v bs.length _ hv
 simp only [hm,if_true,hl] at hL hz
 have hw:=may_w hm
 have hlb:=l_bounds hw.1 hw.2
 have hp:=hv.plain
 unfold refsV refsE
 by_cases hn:n < 1∨lI k c < n
 ·rw [if_pos hn,if_neg (by decide)]
  have hf:=fun m=>fzId_two (fzId_val (.slice none 0 0)) (fzId_val (.int .i64 20)) 1 m
  replace hf:=Hid.mk hf
  replace hlb:=Hid.mk hlb
  by_cases h1:n < 1
  ·refine ospec_of_body follows Tryz.func121 (by unfold Tryz.f121;rfl) (by unfold Tryz.f121;simp) onceA (by unfold Tryz.f121;simp) (by kernel_rfl) ?_;unfold Tryz.f121
   simp only [↓pre,simprocAttr,parV,sx,tys121,onceA,postU,sr]
   (first | refine call_plain (hz) (by first | rfl | simp only [parV,plQ, *]) ?_ | refine call_pure (hz) (by first | rfl | simp only [parV,plQ, *]) (by intro k;first | rfl | simp only [sq,sr, *]) ?_);simp only [↓pre,simprocAttr,parV,sx,tys121,onceA,postU,h1,sr];(first | refine call_plain (hL) (by first | rfl | simp only [parV,plQ, *]) ?_ | refine call_pure (hL) (by first | rfl | simp only [parV,plQ, *]) (by intro k;first | rfl | simp only [sq,sr, *]) ?_);simp only [↓pre,simprocAttr,parV,sx,tys121,onceA,postU,h1,sr]
   exact ⟨1,hf.out _⟩
  ·have h2:lI k c < n:=by omega
   refine ospec_of_body follows Tryz.func121 (by unfold Tryz.f121;rfl) (by unfold Tryz.f121;simp) onceA (by unfold Tryz.f121;simp) (by kernel_rfl) ?_;unfold Tryz.f121
   simp only [↓pre,simprocAttr,parV,sx,tys121,onceA,postU,sr]
   (first | refine call_plain (hz) (by first | rfl | simp only [parV,plQ, *]) ?_ | refine call_pure (hz) (by first | rfl | simp only [parV,plQ, *]) (by intro k;first | rfl | simp only [sq,sr, *]) ?_);simp only [↓pre,simprocAttr,parV,sx,tys121,onceA,postU,h1,h2,sr];(first | refine call_plain (hL) (by first | rfl | simp only [parV,plQ, *]) ?_ | refine call_pure (hL) (by first | rfl | simp only [parV,plQ, *]) (by intro k;first | rfl | simp only [sq,sr, *]) ?_);simp only [↓pre,simprocAttr,parV,sx,tys121,onceA,postU,h1,h2,sr]
   exact ⟨1,hf.out _⟩
 ·rw [if_neg hn]
  have h1:¬ n < 1:=by omega
  have h2:¬ lI k c < n:=by omega
  obtain ⟨N,hN⟩:∃ N:Nat,n=(N:Int):=⟨n.toNat,by omega⟩
  subst hN
  rw [Int.toNat_natCast]
  have h6:6*N≤bs.length:=by unfold wI at hl;unfold lI at h2;omega
  have c4:=desc_read v bs x N hv h6 (by unfold wI at hl;omega)
  have hpl:(refsOf bs N).length=N:=refsOf_len _ _
  have hrd:=treeR_rd N (refsA (refsOf bs N))
  have c5:=desc_Leaf k r c w hm (treeR N (refsA (refsOf bs N))) (refsOf bs N) ⟨[],by rw [List.append_nil,hpl];exact hrd⟩ (by omega) (by rw [hpl];omega)
  have hll:(leafB k c (refsOf bs N)).length=(wI k c).toNat:=by
   unfold leafB
   refine padB_len ?_
   rw [refsB_len,hpl]
   omega
  have c6:=bytes_Equal (.tree (wI k c).toNat (wI k c).toNat (bytesA (leafB k c (refsOf bs N))) true) v (leafB k c (refsOf bs N)) bs [] x ⟨.inr (.inr ⟨_,true,by rw [hll,List.append_nil],by rw [hll];exact Nat.le_refl _⟩)⟩ hv
  have hfin:=fun m=>fzId_two (fzId_rd hrd) (fzId_val (.int .i64 0)) 1 m
  have hf:=fun m=>fzId_two (fzId_val (.slice none 0 0)) (fzId_val (.int .i64 150)) 1 m
  unfold leafBV at c5
  have pt:=hrd.plain
  have st:=rd_shift hrd
  generalize treeR N (refsA (refsOf bs N))=TR at *
  generalize leafB k c (refsOf bs N)=LB at *
  replace hfin:=Hid.mk hfin
  replace hf:=Hid.mk hf
  replace hpl:=Hid.mk hpl
  replace hrd:=Hid.mk hrd
  replace hlb:=Hid.mk hlb
  replace hn:=Hid.mk hn
  by_cases hok:refsOk w (refsOf bs N)=true
  ·rw [if_pos hok] at c5
   by_cases heq:LB=bs
   ·rw [show (if refsOk w (refsOf bs N)=true∧LB=bs then (0:Int) else 150)=0 from if_pos ⟨hok,heq⟩,if_pos rfl]
    rw [decide_eq_true heq] at c6
    replace hok:=Hid.mk hok
    replace heq:=Hid.mk heq
    refine ospec_of_body follows Tryz.func121 (by unfold Tryz.f121;rfl) (by unfold Tryz.f121;simp) onceA (by unfold Tryz.f121;simp) (by kernel_rfl) ?_;unfold Tryz.f121
    simp only [↓pre,simprocAttr,parV,sx,tys121,onceA,postU,sr]
    (first | refine call_plain (hz) (by first | rfl | simp only [parV,plQ, *]) ?_ | refine call_pure (hz) (by first | rfl | simp only [parV,plQ, *]) (by intro k;first | rfl | simp only [sq,sr, *]) ?_);simp only [↓pre,simprocAttr,parV,sx,tys121,onceA,postU,h1,h2,st,sr];(first | refine call_plain (hL) (by first | rfl | simp only [parV,plQ, *]) ?_ | refine call_pure (hL) (by first | rfl | simp only [parV,plQ, *]) (by intro k;first | rfl | simp only [sq,sr, *]) ?_);simp only [↓pre,simprocAttr,parV,sx,tys121,onceA,postU,h1,h2,st,sr];(first | refine call_plain (c4) (by first | rfl | simp only [parV,plQ, *]) ?_ | refine call_pure (c4) (by first | rfl | simp only [parV,plQ, *]) (by intro k;first | rfl | simp only [sq,sr, *]) ?_);simp only [↓pre,simprocAttr,parV,sx,tys121,onceA,postU,h1,h2,st,sr];(first | refine call_plain (c5) (by first | rfl | simp only [parV,plQ, *]) ?_ | refine call_pure (c5) (by first | rfl | simp only [parV,plQ, *]) (by intro k;first | rfl | simp only [sq,sr, *]) ?_);simp only [↓pre,simprocAttr,parV,sx,tys121,onceA,postU,h1,h2,st,sr];(first | refine call_plain (c6) (by first | rfl | simp only [parV,plQ, *]) ?_ | refine call_pure (c6) (by first | rfl | simp only [parV,plQ, *]) (by intro k;first | rfl | simp only [sq,sr, *]) ?_);simp only [↓pre,simprocAttr,parV,sx,tys121,onceA,postU,h1,h2,st,sr]
    exact ⟨1,hfin.out _⟩
   ·rw [show (if refsOk w (refsOf bs N)=true∧LB=bs then (0:Int) else 150)=150 from if_neg (fun h=>heq h.2),if_neg (by decide)]
    rw [decide_eq_false heq] at c6
    replace hok:=Hid.mk hok
    replace heq:=Hid.mk heq
    refine ospec_of_body follows Tryz.func121 (by unfold Tryz.f121;rfl) (by unfold Tryz.f121;simp) onceA (by unfold Tryz.f121;simp) (by kernel_rfl) ?_;unfold Tryz.f121
    simp only [↓pre,simprocAttr,parV,sx,tys121,onceA,postU,sr]
    (first | refine call_plain (hz) (by first | rfl | simp only [parV,plQ, *]) ?_ | refine call_pure (hz) (by first | rfl | simp only [parV,plQ, *]) (by intro k;first | rfl | simp only [sq,sr, *]) ?_);simp only [↓pre,simprocAttr,parV,sx,tys121,onceA,postU,h1,h2,st,sr];(first | refine call_plain (hL) (by first | rfl | simp only [parV,plQ, *]) ?_ | refine call_pure (hL) (by first | rfl | simp only [parV,plQ, *]) (by intro k;first | rfl | simp only [sq,sr, *]) ?_);simp only [↓pre,simprocAttr,parV,sx,tys121,onceA,postU,h1,h2,st,sr];(first | refine call_plain (c4) (by first | rfl | simp only [parV,plQ, *]) ?_ | refine call_pure (c4) (by first | rfl | simp only [parV,plQ, *]) (by intro k;first | rfl | simp only [sq,sr, *]) ?_);simp only [↓pre,simprocAttr,parV,sx,tys121,onceA,postU,h1,h2,st,sr];(first | refine call_plain (c5) (by first | rfl | simp only [parV,plQ, *]) ?_ | refine call_pure (c5) (by first | rfl | simp only [parV,plQ, *]) (by intro k;first | rfl | simp only [sq,sr, *]) ?_);simp only [↓pre,simprocAttr,parV,sx,tys121,onceA,postU,h1,h2,st,sr];(first | refine call_plain (c6) (by first | rfl | simp only [parV,plQ, *]) ?_ | refine call_pure (c6) (by first | rfl | simp only [parV,plQ, *]) (by intro k;first | rfl | simp only [sq,sr, *]) ?_);simp only [↓pre,simprocAttr,parV,sx,tys121,onceA,postU,h1,h2,st,sr]
    exact ⟨1,hf.out _⟩
  ·rw [if_neg hok] at c5
   rw [show (if refsOk w (refsOf bs N)=true∧LB=bs then (0:Int) else 150)=150 from if_neg (fun h=>hok h.1),if_neg (by decide)]
   replace hok:=Hid.mk hok
   simp only [nilS] at c5
   refine ospec_of_body follows Tryz.func121 (by unfold Tryz.f121;rfl) (by unfold Tryz.f121;simp) onceA (by unfold Tryz.f121;simp) (by kernel_rfl) ?_;unfold Tryz.f121
   simp only [↓pre,simprocAttr,parV,sx,tys121,onceA,postU,sr]
   (first | refine call_plain (hz) (by first | rfl | simp only [parV,plQ, *]) ?_ | refine call_pure (hz) (by first | rfl | simp only [parV,plQ, *]) (by intro k;first | rfl | simp only [sq,sr, *]) ?_);simp only [↓pre,simprocAttr,parV,sx,tys121,onceA,postU,h1,h2,st,sr];(first | refine call_plain (hL) (by first | rfl | simp only [parV,plQ, *]) ?_ | refine call_pure (hL) (by first | rfl | simp only [parV,plQ, *]) (by intro k;first | rfl | simp only [sq,sr, *]) ?_);simp only [↓pre,simprocAttr,parV,sx,tys121,onceA,postU,h1,h2,st,sr];(first | refine call_plain (c4) (by first | rfl | simp only [parV,plQ, *]) ?_ | refine call_pure (c4) (by first | rfl | simp only [parV,plQ, *]) (by intro k;first | rfl | simp only [sq,sr, *]) ?_);simp only [↓pre,simprocAttr,parV,sx,tys121,onceA,postU,h1,h2,st,sr];(first | refine call_plain (c5) (by first | rfl | simp only [parV,plQ, *]) ?_ | refine call_pure (c5) (by first | rfl | simp only [parV,plQ, *]) (by intro k;first | rfl | simp only [sq,sr, *]) ?_);simp only [↓pre,simprocAttr,parV,sx,tys121,onceA,postU,h1,h2,st,sr]
   exact ⟨1,hf.out _⟩
theorem clone_refs (l:List RefI) (hl:l.length≤1000000):FSpec Tryz.prog 80 [treeR l.length (refsA l)] ⟨treeR l.length (refsA l),[]⟩:=by
 refine fspec_fzT ?_
 by_cases h0:l.length=0
 ·have e:treeR l.length (refsA l)=nilS:=by unfold treeR;rw [if_pos h0]
  rw [e]
  refine ospec_of_body follows Tryz.func80 (by unfold Tryz.f80;rfl) (by unfold Tryz.f80;simp) onceA (by unfold Tryz.f80;simp) (by kernel_rfl) ?_;unfold Tryz.f80
  have hn:∀ x y,binE Tryz.prog .eql 83 x y nilS (.val (.slice none 0 0))=some (boolV true):=fun x y=>by
   have:elE Tryz.prog 83=some 90:=by kernel_rfl
   rfl
  unfold nilS at *
  simp only [↓pre,simprocAttr,parV,sx,tys80,onceA,postU,postV,hn,sr]
  exact ⟨0,fzT_val⟩
 ·have e:treeR l.length (refsA l) = .tree l.length l.length (refsA l) false:=by unfold treeR;rw [if_neg h0]
  rw [e]
  have hn:∀ x y,binE Tryz.prog .eql 83 x y (.tree l.length l.length (refsA l) false) (.val (.slice none 0 0))=some (boolV false):=fun x y=>by
   have:elE Tryz.prog 83=some 90:=by kernel_rfl
   simp [binE,this,isNil,boolV]
  have hbt:∀ m,buildTreeE Tryz.prog m 83 0 []=some ⟨.tree 0 0 [] true,m,none⟩:=fun m=>buildT_of (el:=90) (sz:=2) (z:=[]) (by kernel_rfl) (by kernel_rfl) (by kernel_rfl) rfl rfl (by decide)
  have hap:∀ m,appE Tryz.prog 90 m (.tree 0 0 [] true) (.tree l.length l.length (refsA l) false)=some ⟨.sl m.next 0 l.length l.length false,m.push ⟨refsA l,90,.flat,true⟩,none⟩:=fun m=>by
   have h1:szE Tryz.prog 90=some 2:=by kernel_rfl
   have h2:byE Tryz.prog 90=some 16:=by kernel_rfl
   have h3:zeroE Tryz.prog 90=some [.int .i64 0,.int .i64 0]:=by kernel_rfl
   have h4:kindT Tryz.prog 90 = .flat:=by kernel_rfl
   have h5:=src_tree (P:=Tryz.prog) (m:=m) (el:=90) (sz:=2) (n:=l.length) (c:=l.length) (cs:=refsA l) (f:=false) (by rw [refsA_len];omega)
   rw [List.take_of_length_le (by rw [refsA_len];omega)] at h5
   simp only [appE,h1,h2,h3,h4,h5,slView,Option.bind_some]
   rw [if_pos ⟨by omega,by omega,rfl⟩]
   simp [h0,outV]
  replace e:=Hid.mk e
  refine ospec_of_body follows Tryz.func80 (by unfold Tryz.f80;rfl) (by unfold Tryz.f80;simp) onceA (by unfold Tryz.f80;simp) (by kernel_rfl) ?_;unfold Tryz.f80
  simp only [↓pre,simprocAttr,parV,sx,tys80,onceA,postU,postV,hn,hbt,hap,sr]
  exact ⟨0,by rw [fzT_flat (by rw [push_at,if_pos rfl]),List.drop_zero]⟩
def leafD (k r c w:Int) (L:List (List UInt8)) (x:RefI):List UInt8:=dataL k r c w (rowL k r w L x.1) 1 x.2 k.toNat
def leafE (k r c w:Int) (L:List (List UInt8)) (x:RefI) (n:Int):Int:=if manyN k r c w (rowL k r w L x.1) 1 x.2 < k.toNat then 5 else refsE k c w (leafD k r c w L x) n
def leafR (k r c w:Int) (L:List (List UInt8)) (x:RefI) (n:Int):List RefI:=refsOf (leafD k r c w L x) n.toNat
def leafV (k r c w:Int) (L:List (List UInt8)) (x:RefI) (n:Int):AV:=if leafE k r c w L x n=0 then .tup [treeR n.toNat (refsA (leafR k r c w L x n)),intV 0] else .tup [nilS,intV (leafE k r c w L x n)]
theorem ref_parts {w:Int} {x:RefI} (h:refB w x=true):(0≤x.1∧x.1 < w)∧1≤x.2∧x.2≤1073741824:=by
 unfold refB at h
 exact of_decide_eq_true h
theorem rowE_ok {k r c w:Int} {L:List (List UInt8)} {row:Int} (hE:imE k r c w L=0) (h:0≤row∧row < w):rowE k r c w L row=0:=by
 unfold rowE
 rw [if_pos hE,if_neg (by omega)]
theorem tree_leaf (k r c w:Int) (v:AV) (L:List (List UInt8)) (cells:List AV) (hv:RowsV v L cells) (hE:imE k r c w L=0) (x:RefI) (hx:refB w x=true) (n:Int):FSpec Tryz.prog 83 [imV k r c w v,.agg [intV x.1,intV x.2],intV n] ⟨leafV k r c w L x n,[]⟩:=by
 refine fspec_fzT ?_
 obtain ⟨hx1,hx2⟩:=ref_parts hx
 have hp:=hv.rd.plain
 have hf:=rd_fz hv.rd
 have ho:=rd_one hv.rd
 have hr:=image_Row k r c w x.1 v L cells hv
 have hR0:=rowE_ok hE hx1
 unfold rowVal at hr
 rw [if_pos hR0] at hr
 obtain ⟨hrb,hm⟩:=row_rowB hR0
 have hmn:=may_n hm
 have hrv:=row_rowV k r c w L x.1 (by omega)
 have hsr:=stripe_Read k r c w 1 x.2 _ _ _ hrv hm hrb (.inl rfl) (by unfold verB;exact decide_eq_true hx2)
 have pr:=hrv.rd.plain
 have sr':=rd_shift hrv.rd
 unfold leafV leafE leafR leafD
 unfold sreadV at hsr
 unfold imV at hr ⊢
 generalize treeR (k+r).toNat (prA (rowL k r w L x.1))=RV at *
 generalize rowL k r w L x.1=ps at *
 by_cases hlt:manyN k r c w ps 1 x.2 < k.toNat
 ·rw [if_pos hlt] at hsr
  rw [if_pos hlt,if_neg (by decide)]
  have hz:=fun m=>fzId_two (fzId_val (.slice none 0 0)) (fzId_val (.int .i64 5)) 1 m
  simp only [nilS] at hsr
  replace hz:=Hid.mk hz
  replace hrv:=Hid.mk hrv
  replace hmn:=Hid.mk hmn
  replace hlt:=Hid.mk hlt
  replace hR0:=Hid.mk hR0
  refine ospec_of_body follows Tryz.func83 (by unfold Tryz.f83;rfl) (by unfold Tryz.f83;simp) onceA (by unfold Tryz.f83;simp) (by kernel_rfl) ?_;unfold Tryz.f83
  simp only [↓pre,simprocAttr,parV,sx,tys83,onceA,postU,hf,ho,sr',sr]
  (first | refine call_plain (hr) (by first | rfl | simp only [parV,plQ, *]) ?_ | refine call_pure (hr) (by first | rfl | simp only [parV,plQ, *]) (by intro k;first | rfl | simp only [sq,sr, *]) ?_);simp only [↓pre,simprocAttr,parV,sx,tys83,onceA,postU,hf,ho,sr',sr];(first | refine call_plain (hsr) (by first | rfl | simp only [parV,plQ, *]) ?_ | refine call_pure (hsr) (by first | rfl | simp only [parV,plQ, *]) (by intro k;first | rfl | simp only [sq,sr, *]) ?_);simp only [↓pre,simprocAttr,parV,sx,tys83,onceA,postU,hf,ho,sr',sr]
  exact ⟨1,hz.out _⟩
 ·rw [if_neg hlt] at hsr
  rw [if_neg hlt]
  have hdl:=dataL_len k r c w ps 1 x.2 k.toNat
  have hwc:((k.toNat*c.toNat:Nat):Int)=wI k c:=by unfold wI;rw [Int.natCast_mul,Int.toNat_of_nonneg (by omega),Int.toNat_of_nonneg (by omega)]
  have hdr:=treeR_rd (k.toNat*c.toNat) (bytesA (dataL k r c w ps 1 x.2 k.toNat))
  have hre:=desc_Refs k r c w hm (treeR (k.toNat*c.toNat) (bytesA (dataL k r c w ps 1 x.2 k.toNat))) (dataL k r c w ps 1 x.2 k.toNat) [] (by rw [List.append_nil,hdl];exact hdr) (by rw [hdl];exact hwc) n
  have pd:=hdr.plain
  have sd:=rd_shift hdr
  unfold refsV at hre
  generalize dataL k r c w ps 1 x.2 k.toNat=D at *
  generalize treeR (k.toNat*c.toNat) (bytesA D)=DV at *
  replace hrv:=Hid.mk hrv
  replace hdr:=Hid.mk hdr
  replace hmn:=Hid.mk hmn
  replace hlt:=Hid.mk hlt
  replace hR0:=Hid.mk hR0
  by_cases h0:refsE k c w D n=0
  ·rw [if_pos h0] at hre ⊢
   have hrt:=treeR_rd n.toNat (refsA (refsOf D n.toNat))
   have hz:=fun m=>fzId_two (fzId_rd hrt) (fzId_val (.int .i64 0)) 1 m
   have st:=rd_shift hrt
   generalize treeR n.toNat (refsA (refsOf D n.toNat))=TR at *
   replace hz:=Hid.mk hz
   replace h0:=Hid.mk h0
   replace hrt:=Hid.mk hrt
   refine ospec_of_body follows Tryz.func83 (by unfold Tryz.f83;rfl) (by unfold Tryz.f83;simp) onceA (by unfold Tryz.f83;simp) (by kernel_rfl) ?_;unfold Tryz.f83
   simp only [↓pre,simprocAttr,parV,sx,tys83,onceA,postU,hf,ho,sr',sr]
   (first | refine call_plain (hr) (by first | rfl | simp only [parV,plQ, *]) ?_ | refine call_pure (hr) (by first | rfl | simp only [parV,plQ, *]) (by intro k;first | rfl | simp only [sq,sr, *]) ?_);simp only [↓pre,simprocAttr,parV,sx,tys83,onceA,postU,hf,ho,sr',sd,st,sr];(first | refine call_plain (hsr) (by first | rfl | simp only [parV,plQ, *]) ?_ | refine call_pure (hsr) (by first | rfl | simp only [parV,plQ, *]) (by intro k;first | rfl | simp only [sq,sr, *]) ?_);simp only [↓pre,simprocAttr,parV,sx,tys83,onceA,postU,hf,ho,sr',sd,st,sr];(first | refine call_plain (hre) (by first | rfl | simp only [parV,plQ, *]) ?_ | refine call_pure (hre) (by first | rfl | simp only [parV,plQ, *]) (by intro k;first | rfl | simp only [sq,sr, *]) ?_);simp only [↓pre,simprocAttr,parV,sx,tys83,onceA,postU,hf,ho,sr',sd,st,sr]
   exact ⟨1,hz.out _⟩
  ·rw [if_neg h0] at hre ⊢
   have hz:=fun m=>fzId_two (fzId_val (.slice none 0 0)) (fzId_val (.int .i64 (refsE k c w D n))) 1 m
   generalize refsE k c w D n=E at *
   simp only [nilS] at hre
   replace hz:=Hid.mk hz
   refine ospec_of_body follows Tryz.func83 (by unfold Tryz.f83;rfl) (by unfold Tryz.f83;simp) onceA (by unfold Tryz.f83;simp) (by kernel_rfl) ?_;unfold Tryz.f83
   simp only [↓pre,simprocAttr,parV,sx,tys83,onceA,postU,hf,ho,sr',sr]
   (first | refine call_plain (hr) (by first | rfl | simp only [parV,plQ, *]) ?_ | refine call_pure (hr) (by first | rfl | simp only [parV,plQ, *]) (by intro k;first | rfl | simp only [sq,sr, *]) ?_);simp only [↓pre,simprocAttr,parV,sx,tys83,onceA,postU,hf,ho,sr',sd,sr];(first | refine call_plain (hsr) (by first | rfl | simp only [parV,plQ, *]) ?_ | refine call_pure (hsr) (by first | rfl | simp only [parV,plQ, *]) (by intro k;first | rfl | simp only [sq,sr, *]) ?_);simp only [↓pre,simprocAttr,parV,sx,tys83,onceA,postU,hf,ho,sr',sd,sr];(first | refine call_plain (hre) (by first | rfl | simp only [parV,plQ, *]) ?_ | refine call_pure (hre) (by first | rfl | simp only [parV,plQ, *]) (by intro k;first | rfl | simp only [sq,sr, *]) ?_);simp only [↓pre,simprocAttr,parV,sx,tys83,onceA,postU,hf,ho,sr',sd,sr]
   exact ⟨1,hz.out _⟩
end Go.Proofs.YtgcicholalgbiaaGreat
set_option linter.unusedVariables false
set_option linter.unusedSimpArgs false
set_option maxRecDepth 10000
namespace Go.Tw
open Go
theorem DSpec.mono {P:Program} {f:FuncId} {args:List AV} {m:Mem} {Q Q':AV→Mem→Prop} (h:DSpec P f args m Q) (hq:∀ r m',Q r m'→Q' r m'):DSpec P f args m Q' :=
 ⟨h.1,fun w I ρ vs a b c d=>(h.2 w I ρ vs a b c d).mono fun en u w' ⟨h0,v,r,m',I',ρ',h1,h2,h3⟩=>⟨h0,v,r,m',I',ρ',h1,hq _ _ h2,h3⟩⟩
section
variable {v:Value} {cs:List AV} {a b c d:Nat} {f:Bool} {k:IntKind} {n:Int}
theorem cells_val:(AV.val v).cells=[.val v]:=rfl
theorem cells_agg:(AV.agg cs).cells=cs:=rfl
theorem cells_sl:(AV.sl a b c d f).cells=[.sl a b c d f]:=rfl
theorem cells_tree:(AV.tree a b cs f).cells=[.tree a b cs f]:=rfl
theorem okA_agg:okA (.agg cs)=true:=rfl
theorem okA_int:okA (.val (.int k n))=true:=rfl
theorem okA_bool:okA (.val (.bool f))=true:=rfl
theorem okA_nil:okA (.val (.slice none 0 0))=true:=rfl
theorem okA_sl:okA (.sl a b c d f)=true:=rfl
theorem okA_tree:okA (.tree a b cs f)=true:=rfl
end
theorem cellsR:(type_of% @cells_val)∧(type_of% @cells_agg)∧(type_of% @cells_sl)∧(type_of% @cells_tree)∧(type_of% @okA_agg)∧(type_of% @okA_int)∧(type_of% @okA_bool)∧(type_of% @okA_nil)∧(type_of% @okA_sl)∧(type_of% @okA_tree):=⟨@cells_val,@cells_agg,@cells_sl,@cells_tree,@okA_agg,@okA_int,@okA_bool,@okA_nil,@okA_sl,@okA_tree⟩
end Go.Tw
namespace Go.Proofs.YtgcicholalgbiaaGreat
open Go Go.Tw Go.Proofs Go.Gf
structure ObB (m:Mem) (d0 d1 d2 ve lv sv:AV) (E:Int):Prop where
 d:m.at_ 0=some ⟨[d0,d1,d2],85,.var,true⟩
 v:m.at_ 1=some ⟨[ve],3,.var,true⟩
 l:m.at_ 2=some ⟨[lv],83,.var,true⟩
 s:m.at_ 3=some ⟨[sv],83,.var,true⟩
 e:m.at_ 4=some ⟨[intV E],30,.var,true⟩
theorem obj_ok (m:Mem) {d0 d1 d2 ve lv sv:AV} (h:ObB m d0 d1 d2 ve lv sv 0):DSpec Tryz.prog 78 [.ptr 4 0,.ptr 0 0,.ptr 1 0,.ptr 2 0,.ptr 3 0] m fun _ m'=>m'=m:=by
 have he:=h.e
 refine dspec_of_body follows Tryz.func78 (by unfold Tryz.f78;rfl) (by unfold Tryz.f78;simp) onceA (by unfold Tryz.f78;simp) (by kernel_rfl) ?_;unfold Tryz.f78
 simp only [↓pre,simprocAttr,parV,sx,tys78,onceA,postU,he]
theorem obj_err (m:Mem) {d0 d1 d2 ve lv sv:AV} {E:Int} (h0:E≠0) (h:ObB m d0 d1 d2 ve lv sv E):DSpec Tryz.prog 78 [.ptr 4 0,.ptr 0 0,.ptr 1 0,.ptr 2 0,.ptr 3 0] m fun _ m'=>ObB m' (intV 0) (intV 0) nilS (intV 0) nilS nilS E:=by
 obtain ⟨hd,hv,hl,hs,he⟩:=h
 refine dspec_of_body follows Tryz.func78 (by unfold Tryz.f78;rfl) (by unfold Tryz.f78;simp) onceA (by unfold Tryz.f78;simp) (by kernel_rfl) ?_;unfold Tryz.f78
 simp only [↓pre,simprocAttr,parV,sx,tys78,onceA,postU,storeE,put_at,hd,hv,hl,hs,he,h0,Nat.one_ne_zero]
 refine ⟨?_, ?_, ?_, ?_, ?_⟩ <;> simp [put_at,hd,hv,hl,hs,he,nilS,intV]
def leavesE (k r c w:Int) (L:List (List UInt8)):List RefI→Int→Int
 | [],_=>0
 | x::xs,n=>if leafE k r c w L x (min n (lI k c))=0 then leavesE k r c w L xs (n - min n (lI k c)) else leafE k r c w L x (min n (lI k c))
def leavesR (k r c w:Int) (L:List (List UInt8)):List RefI→Int→List RefI
 | [],_=>[]
 | x::xs,n=>leafR k r c w L x (min n (lI k c))++leavesR k r c w L xs (n - min n (lI k c))
theorem leafR_len (k r c w:Int) (L:List (List UInt8)) (x:RefI) (n:Int):(leafR k r c w L x n).length=n.toNat:=refsOf_len _ _
theorem leaf_ok {k r c w:Int} {L:List (List UInt8)} {x:RefI} {n:Int} (h:leafE k r c w L x n=0):1≤n∧n≤lI k c:=by
 unfold leafE at h
 split at h
 ·omega
 ·unfold refsE at h
  split at h
  ·omega
  ·omega
def objD (k r c w:Int) (L:List (List UInt8)) (row:Int):List UInt8:=comD k r c w (rowL k r w L row)
def objE (k r c w:Int) (L:List (List UInt8)) (row:Int):Int:=if rowE k r c w L row=0 then (if comE k r c w (rowL k r w L row)=0 then (if pDep (objD k r c w L row)=0 then 0 else leavesE k r c w L (pRefs (objD k r c w L row)) (oS k r c w (pLen (objD k r c w L row)))) else comE k r c w (rowL k r w L row)) else rowE k r c w L row
def objL (k r c w:Int) (L:List (List UInt8)) (row:Int):List RefI:=if pDep (objD k r c w L row)=0 then [] else pRefs (objD k r c w L row)
def objS (k r c w:Int) (L:List (List UInt8)) (row:Int):List RefI:=if pDep (objD k r c w L row)=0 then pRefs (objD k r c w L row) else leavesR k r c w L (pRefs (objD k r c w L row)) (oS k r c w (pLen (objD k r c w L row)))
def refsT (l:List RefI):AV:=treeR l.length (refsA l)
def objV (k r c w:Int) (L:List (List UInt8)) (row:Int):AV:=if objE k r c w L row=0 then .tup [descA (pLen (objD k r c w L row)) (pDep (objD k r c w L row)) (pRefs (objD k r c w L row)),intV (winI k r c w (rowL k r w L row)),refsT (objL k r c w L row),refsT (objS k r c w L row),intV 0] else .tup [desc0,intV 0,nilS,nilS,intV (objE k r c w L row)]
theorem fzId_five {a b c d e:AV} (ha:fzId a) (hb:fzId b) (hc:fzId c) (hd:fzId d) (he:fzId e):fzId (.tup [a,b,c,d,e]):=fzId_tup fun x hx=>by
 simp only [List.mem_cons,List.not_mem_nil,or_false] at hx
 rcases hx with rfl | rfl | rfl | rfl | rfl <;> assumption
theorem desc0_fz:fzId desc0:=fzId_agg fun c hc=>by
 simp only [List.mem_cons,List.not_mem_nil,or_false] at hc
 rcases hc with rfl | rfl | rfl <;> exact fzId_val _
theorem com_chk {k r c w:Int} {ps:List PairB} (h:comE k r c w ps=0):chkI k r c w ps=0∧winI k r c w ps≠0∧¬ manyN k r c w ps 2 (winI k r c w ps) < k.toNat∧parseE k r c w (comD k r c w ps)=0:=by
 unfold comE at h
 split at h
 ·rename_i hc
  split at h
  ·contradiction
  ·rename_i h1
   split at h
   ·contradiction
   ·rename_i h2
    exact ⟨hc,h1,h2,h⟩
 ·contradiction
theorem com_desc {k r c w:Int} {ps:List PairB} (h:comE k r c w ps=0):chkD k r c w (pLen (comD k r c w ps)) (pDep (comD k r c w ps)) (pRefs (comD k r c w ps))=0:=by
 obtain ⟨hc,_,_,h3⟩:=com_chk h
 unfold parseE at h3
 split at h3
 ·split at h3
  ·split at h3
   ·rename_i h4
    unfold parseOk at h4
    rw [Bool.and_eq_true,Bool.and_eq_true,decide_eq_true_eq,decide_eq_true_eq] at h4
    exact h4.2.1
   ·contradiction
  ·contradiction
 ·contradiction
theorem desc_oE {k r c w len dep:Int} {l:List RefI} (h:chkD k r c w len dep l=0):oE k r c w len=0∧dep=min (oF k r c w len) 1∧(l.length:Int)=if dep=0 then oS k r c w len else oF k r c w len:=by
 obtain ⟨hm,hd⟩:=desc_fit h
 unfold descOk at hd
 simp only [Bool.and_eq_true,decide_eq_true_eq] at hd
 obtain ⟨h1,h2,h3,h4⟩:=hd
 have hF:=oF_nn (r:=r) (w:=w) (n:=len) hm
 refine ⟨h1,by omega, ?_⟩
 rw [h3]
 by_cases hd0:dep=0
 ·rw [if_neg (by omega),if_pos hd0]
 ·rw [if_pos (by omega),if_neg hd0]
end Go.Proofs.YtgcicholalgbiaaGreat
namespace Go.Proofs.YtgcicholalgbiaaGreat
open Go Go.Tw Go.Proofs Go.Gf
abbrev obR:List ResultVar:=[.cell 4 85,.cell 5 3,.cell 6 83,.cell 7 83,.cell 8 30]
abbrev obC:List AV:=[.ptr 4 0,.ptr 0 0,.ptr 1 0,.ptr 2 0,.ptr 3 0]
structure ObE (e:Env):Prop where
 a:e 4 = .ptr 0 0
 b:e 5 = .ptr 1 0
 c:e 6 = .ptr 2 0
 d:e 7 = .ptr 3 0
 e:e 8 = .ptr 4 0
theorem obj_res {m:Mem} {e:Env} {d0 d1 d2 ve lv sv:AV} {E:Int} (h:ObB m d0 d1 d2 ve lv sv E) (he:ObE e):resultsE Tryz.prog obR e m=some (.tup [.agg [d0,d1,d2],ve,lv,sv,intV E]):=by
 obtain ⟨hd,hv,hl,hs,h4⟩:=h
 obtain ⟨ea,eb,ec,ed,ee⟩:=he
 simp only [resultsE,resEs,resE,loadE,ea,eb,ec,ed,ee,hd,hv,hl,hs,h4,Option.bind_some,if_neg (show ¬ Kind.var=Kind.hole by decide),partE,show aggE Tryz.prog 85=some true by kernel_rfl,show szE Tryz.prog 85=some 3 by kernel_rfl,show aggE Tryz.prog 3=some false by kernel_rfl,show aggE Tryz.prog 83=some false by kernel_rfl,show aggE Tryz.prog 30=some false by kernel_rfl]
 rfl
theorem obj_endE {m:Mem} {e:Env} {d0 d1 d2 ve lv sv:AV} {E:Int} (h0:E≠0) (h:ObB m d0 d1 d2 ve lv sv E) (he:ObE e):endD Tryz.prog obR 78 obC (fun v m=>∃ k,fzT k m v=some (.tup [desc0,intV 0,nilS,nilS,intV E])) .ret e m :=
 (obj_err m h0 h).mono fun _ m' h'=>by
  rw [obj_res h' he]
  exact ⟨1,fzId_five desc0_fz (fzId_val _) (fzId_val _) (fzId_val _) (fzId_val _) 1 m'⟩
theorem obj_endO {m:Mem} {e:Env} {len dep W:Int} {DV lv sv LT ST:AV} {n:Nat} {cs:List AV} (hD:RdSl DV n cs) (h:ObB m (intV len) (intV dep) DV (intV W) lv sv 0) (hl:fzT 1 m lv=some LT) (hs:fzT 1 m sv=some ST) (he:ObE e):endD Tryz.prog obR 78 obC (fun v m=>∃ k,fzT k m v=some (.tup [.agg [intV len,intV dep,DV],intV W,LT,ST,intV 0])) .ret e m :=
 (obj_ok m h).mono fun _ m' h'=>by
  subst h'
  rw [obj_res h he]
  refine ⟨1, ?_⟩
  have h1:fzT 1 m' (.agg [intV len,intV dep,DV])=some (.agg [intV len,intV dep,DV]):=fzId_agg (fun c hc=>by
   simp only [List.mem_cons,List.not_mem_nil,or_false] at hc
   rcases hc with rfl | rfl | rfl
   ·exact fzId_val _
   ·exact fzId_val _
   ·exact fzId_rd hD) 1 m'
  simp only [intV] at h1 ⊢
  simp only [fzT_tup,fzTs_cons,h1,hl,hs,Option.bind_some,fzT_val,fzTs_nil,Option.map_some]
def onceOb:Nat→Bool:=fun d=>d != 4 && d != 5 && d != 6 && d != 7 && d != 8
theorem tree_Object (k r c w row:Int) (v:AV) (L:List (List UInt8)) (cells:List AV) (hv:RowsV v L cells):FSpec Tryz.prog 48 [imV k r c w v,intV row] ⟨objV k r c w L row,[]⟩:=by
 refine fspec_fzT ?_
 have hp:=hv.rd.plain
 have hf:=rd_fz hv.rd
 have ho:=rd_one hv.rd
 have hck:=image_Check k r c w v L cells hv
 have hrw:=image_Row k r c w row v L cells hv
 unfold objV objE
 unfold imV at hck hrw ⊢
 unfold rowVal at hrw
 have hz3:zeroE Tryz.prog 85=some [.int .i64 0,.int .i64 0,.slice none 0 0]:=by kernel_rfl
 by_cases hR:rowE k r c w L row=0
 ·rw [if_pos hR] at hrw ⊢
  obtain ⟨hrb,hm⟩:=row_rowB hR
  have hE:imE k r c w L=0:=by
   unfold rowE at hR
   split at hR
   ·assumption
   ·assumption
  have hrow:¬ row < 0∧¬ w≤row:=by
   unfold rowE at hR
   rw [if_pos hE] at hR
   split at hR
   ·omega
   ·omega
  obtain ⟨h1,h2⟩:=hrow
  rw [hE] at hck
  have hmn:=may_n hm
  have hrv:=row_rowV k r c w L row (by omega)
  have hcr:=commit_Read k r c w _ _ _ hrv
  have hpr:=hrv.rd.plain
  have hsr:=rd_shift hrv.rd
  have hoR:=rd_one hrv.rd
  unfold objL objS objD
  generalize treeR (k+r).toNat (prA (rowL k r w L row))=RV at *
  generalize rowL k r w L row=ps at *
  unfold comV at hcr
  refine ospec_of_defer follows Tryz.func48 (by unfold Tryz.f48;rfl) (by unfold Tryz.f48;simp) onceOb (by unfold Tryz.f48;simp) (by kernel_rfl) (by kernel_rfl) (by unfold Tryz.f48;decide) (by kernel_rfl) ?_
  unfold deferW Tryz.f48
  by_cases hC:comE k r c w ps=0
  ·rw [if_pos hC] at hcr ⊢
   have hD:=com_desc hC
   obtain ⟨hl0,hl1,hdep,hll,hlr⟩:=desc_bounds hD
   obtain ⟨hoE,hdF,hlc⟩:=desc_oE hD
   have hRr:=treeR_rd (pRefs (comD k r c w ps)).length (refsA (pRefs (comD k r c w ps)))
   have hw:=may_w hm
   have hdb:=d_bounds hw.1 hw.2
   have hcl:=clone_refs (pRefs (comD k r c w ps)) (by unfold dI at hll;omega)
   have hst:=layout_stripes k r c w (pLen (comD k r c w ps))
   have hlf:=layout_Leaf k r c w
   simp only [hm,if_true] at hlf
   rw [hoE] at hst
   unfold descA at hcr ⊢
   unfold refsT
   generalize winI k r c w ps=W at *
   generalize pDep (comD k r c w ps)=PD at *
   generalize pLen (comD k r c w ps)=PL at *
   generalize pRefs (comD k r c w ps)=PR at *
   have hfR:=rd_fz hRr
   have hoL:=rd_one hRr
   have hsL:=rd_shift hRr
   have hpL:=hRr.plain
   by_cases hd0:PD=0
   ·rw [if_pos hd0,if_pos hd0,if_pos hd0,if_pos rfl]
    rw [hd0] at hcr ⊢
    replace hd0:=Hid.mk hd0
    have hfin:=fzId_rd hRr
    replace hfin:=Hid.mk hfin
    have hcL:=rd_cells hRr
    have hkL:=rd_okA hRr
    generalize treeR PR.length (refsA PR)=RT at *
    simp only [intV] at hcr hrw
    simp only [↓pre,simprocAttr,parV,sx,tys48,cellsR,onceOb,bne,postU,storeE,allocE,put_at,push_at,put_next,push_next,me0,Nat.one_ne_zero,Nat.zero_ne_one,Nat.reduceEqDiff,hf,ho,sr]
    (first | refine call_plain (hck) (by first | rfl | simp only [parV,plQ, *]) ?_ | refine call_pure (hck) (by first | rfl | simp only [parV,plQ, *]) (by intro k;first | rfl | simp only [sq,sr, *]) ?_);simp only [↓pre,simprocAttr,parV,sx,tys48,cellsR,onceOb,bne,postU,storeE,allocE,put_at,push_at,put_next,push_next,me0,Nat.one_ne_zero,Nat.zero_ne_one,Nat.reduceEqDiff,hf,ho,h1,h2,hoR,hsr,hsL,hoL,hcL,hkL,sr];(first | refine call_plain (hrw) (by first | rfl | simp only [parV,plQ, *]) ?_ | refine call_pure (hrw) (by first | rfl | simp only [parV,plQ, *]) (by intro k;first | rfl | simp only [sq,sr, *]) ?_);simp only [↓pre,simprocAttr,parV,sx,tys48,cellsR,onceOb,bne,postU,storeE,allocE,put_at,push_at,put_next,push_next,me0,Nat.one_ne_zero,Nat.zero_ne_one,Nat.reduceEqDiff,hf,ho,h1,h2,hoR,hsr,hsL,hoL,hcL,hkL,sr];(first | refine call_plain (hcr) (by first | rfl | simp only [parV,plQ, *]) ?_ | refine call_pure (hcr) (by first | rfl | simp only [parV,plQ, *]) (by intro k;first | rfl | simp only [sq,sr, *]) ?_);simp only [↓pre,simprocAttr,parV,sx,tys48,cellsR,onceOb,bne,postU,storeE,allocE,put_at,push_at,put_next,push_next,me0,Nat.one_ne_zero,Nat.zero_ne_one,Nat.reduceEqDiff,hf,ho,h1,h2,hoR,hsr,hsL,hoL,hcL,hkL,sr];(first | refine call_plain (hcl) (by first | rfl | simp only [parV,plQ, *]) ?_ | refine call_pure (hcl) (by first | rfl | simp only [parV,plQ, *]) (by intro k;first | rfl | simp only [sq,sr, *]) ?_);simp only [↓pre,simprocAttr,parV,sx,tys48,cellsR,onceOb,bne,postU,storeE,allocE,put_at,push_at,put_next,push_next,me0,Nat.one_ne_zero,Nat.zero_ne_one,Nat.reduceEqDiff,hf,ho,h1,h2,hoR,hsr,hsL,hoL,hcL,hkL,sr]
    exact obj_endO hRr ⟨rfl,rfl,rfl,rfl,rfl⟩ fzT_val (hfin.out _ _) ⟨rfl,rfl,rfl,rfl,rfl⟩
   ·rw [if_neg hd0,if_neg hd0,if_neg hd0]
    have hPD:PD=1:=by omega
    rw [if_neg hd0] at hlc
    have hos:0≤oS k r c w PL∧oS k r c w PL≤40000:=by
     have:=up_bounds (a:=PL) (b:=wI k c) hl0 hl1 (by unfold wI;omega) (by unfold wI;omega)
     unfold oS
     rw [if_pos hoE]
     unfold sI
     omega
    have hlb:=l_bounds hw.1 hw.2
    have hlfb:5≤lI k c∧lI k c≤128:=hlb
    have hPRl:PR.length≤126:=by unfold dI at hll;omega
    have hlea:=fun (i:Nat) (x:RefI) (hi:PR[i]? = some x) n=>tree_leaf k r c w v L cells hv hE x (by
     have:=hlr x (List.mem_of_getElem? hi)
     unfold refB
     exact decide_eq_true this) n
    have hcells:=fun i x hi=>refsA_at PR [] i x hi
    rw [List.append_nil] at hcells
    unfold imV at hlea
    have hlenRT:=fun t ht=>hRr.len' (P:=Tryz.prog) (t:=t) ht
    have haddRT:=fun t j ht=>hRr.addr' (P:=Tryz.prog) (t:=t) (k:=j) ht
    have hcL:=rd_cells hRr
    have hkL:=rd_okA hRr
    generalize treeR PR.length (refsA PR)=RT at *
    generalize hEE:leavesE k r c w L PR (oS k r c w PL)=EE at *
    generalize hRR:leavesR k r c w L PR (oS k r c w PL)=RR at *
    generalize oS k r c w PL=OS at *
    generalize hLI:lI k c=LI at *
    replace hLI:=Hid.mk hLI
    simp only [intV] at hcr hrw
    generalize hRES:(if EE=0 then AV.tup [AV.agg [intV PL,intV PD,RT],intV W,RT,treeR RR.length (refsA RR),intV 0] else AV.tup [desc0,intV 0,nilS,nilS,intV EE])=RES
    replace hRES:=Hid.mk hRES
    replace hPD:=Hid.mk hPD
    replace hEE:=Hid.mk hEE
    replace hRR:=Hid.mk hRR
    replace hos:=Hid.mk hos
    replace hlr:=Hid.mk hlr
    replace hlea:=Hid.mk hlea
    replace hcells:=Hid.mk hcells
    replace hdF:=Hid.mk hdF
    replace hlc:=Hid.mk hlc
    replace hrv:=Hid.mk hrv
    replace hmn:=Hid.mk hmn
    replace hlfb:=Hid.mk hlfb
    replace hlb:=Hid.mk hlb
    replace hw:=Hid.mk hw
    replace hdb:=Hid.mk hdb
    replace hD:=Hid.mk hD
    simp only [↓pre,simprocAttr,parV,sx,tys48,cellsR,onceOb,bne,postU,storeE,allocE,put_at,push_at,put_next,push_next,me0,Nat.one_ne_zero,Nat.zero_ne_one,Nat.reduceEqDiff,hf,ho,sr]
    (first | refine call_plain (hck) (by first | rfl | simp only [parV,plQ, *]) ?_ | refine call_pure (hck) (by first | rfl | simp only [parV,plQ, *]) (by intro k;first | rfl | simp only [sq,sr, *]) ?_);simp only [↓pre,simprocAttr,parV,sx,tys48,cellsR,onceOb,bne,postU,storeE,allocE,put_at,push_at,put_next,push_next,me0,Nat.one_ne_zero,Nat.zero_ne_one,Nat.reduceEqDiff,hf,ho,h1,h2,hoR,hsr,hsL,hoL,hcL,hkL,hd0,hlenRT,sr];(first | refine call_plain (hrw) (by first | rfl | simp only [parV,plQ, *]) ?_ | refine call_pure (hrw) (by first | rfl | simp only [parV,plQ, *]) (by intro k;first | rfl | simp only [sq,sr, *]) ?_);simp only [↓pre,simprocAttr,parV,sx,tys48,cellsR,onceOb,bne,postU,storeE,allocE,put_at,push_at,put_next,push_next,me0,Nat.one_ne_zero,Nat.zero_ne_one,Nat.reduceEqDiff,hf,ho,h1,h2,hoR,hsr,hsL,hoL,hcL,hkL,hd0,hlenRT,sr];(first | refine call_plain (hcr) (by first | rfl | simp only [parV,plQ, *]) ?_ | refine call_pure (hcr) (by first | rfl | simp only [parV,plQ, *]) (by intro k;first | rfl | simp only [sq,sr, *]) ?_);simp only [↓pre,simprocAttr,parV,sx,tys48,cellsR,onceOb,bne,postU,storeE,allocE,put_at,push_at,put_next,push_next,me0,Nat.one_ne_zero,Nat.zero_ne_one,Nat.reduceEqDiff,hf,ho,h1,h2,hoR,hsr,hsL,hoL,hcL,hkL,hd0,hlenRT,sr];(first | refine call_plain (hcl) (by first | rfl | simp only [parV,plQ, *]) ?_ | refine call_pure (hcl) (by first | rfl | simp only [parV,plQ, *]) (by intro k;first | rfl | simp only [sq,sr, *]) ?_);simp only [↓pre,simprocAttr,parV,sx,tys48,cellsR,onceOb,bne,postU,storeE,allocE,put_at,push_at,put_next,push_next,me0,Nat.one_ne_zero,Nat.zero_ne_one,Nat.reduceEqDiff,hf,ho,h1,h2,hoR,hsr,hsL,hoL,hcL,hkL,hd0,hlenRT,sr];(first | refine call_plain (hst) (by first | rfl | simp only [parV,plQ, *]) ?_ | refine call_pure (hst) (by first | rfl | simp only [parV,plQ, *]) (by intro k;first | rfl | simp only [sq,sr, *]) ?_);simp only [↓pre,simprocAttr,parV,sx,tys48,cellsR,onceOb,bne,postU,storeE,allocE,put_at,push_at,put_next,push_next,me0,Nat.one_ne_zero,Nat.zero_ne_one,Nat.reduceEqDiff,hf,ho,h1,h2,hoR,hsr,hsL,hoL,hcL,hkL,hd0,hlenRT,sr];(first | refine call_plain (hlf) (by first | rfl | simp only [parV,plQ, *]) ?_ | refine call_pure (hlf) (by first | rfl | simp only [parV,plQ, *]) (by intro k;first | rfl | simp only [sq,sr, *]) ?_);simp only [↓pre,simprocAttr,parV,sx,tys48,cellsR,onceOb,bne,postU,storeE,allocE,put_at,push_at,put_next,push_next,me0,Nat.one_ne_zero,Nat.zero_ne_one,Nat.reduceEqDiff,hf,ho,h1,h2,hoR,hsr,hsL,hoL,hcL,hkL,hd0,hlenRT,sr]
    rw [codeW_loop]
    refine loop_intro (fun q e m=>∃ i left acc lv,q+i=PR.length∧ObE e∧e 2 = .tptr 0 [intV k,intV r,intV c,intV w,v]∧e 10=intV left∧e 11=intV LI∧e 74=RT∧e 75=intV (PR.length:Nat)∧e 76=intV (i:Nat)∧Hid ((0≤left∧left≤40000)∧ObB m (intV PL) (intV PD) RT (intV W) RT lv 0∧4 < m.next∧Own m 90 2 lv acc.length (refsA acc)∧(∀ j,blkOf lv=some j→4 < j)∧leavesE k r c w L (PR.drop i) left=EE∧acc++leavesR k r c w L (PR.drop i) left=RR∧acc.length≤i*128)) PR.length ⟨0,OS,[],nilS,by omega,⟨rfl,rfl,rfl,rfl,rfl⟩,rfl,rfl,rfl,rfl,rfl,rfl,⟨hos.out,⟨rfl,rfl,rfl,rfl,rfl⟩,by simp [put_next,push_next,me0],own_nil,fun j h=>by simp [blkOf,nilS] at h,hEE.out,hRR.out,by simp⟩⟩ ?_
    rintro q e m ⟨i,left,acc,lv,hq,he,e2,e10,e11,e74,e75,e76,hJ⟩
    replace hq:=Hid.mk hq
    obtain ⟨hleft,hB,hnx,hown,hblk,hLE,hLR,hacc⟩:=hJ.out
    clear hJ
    obtain ⟨e4,e5,e6,e7,e8⟩:=he
    obtain ⟨b0,b1,b2,b3,b4⟩:=hB
    have g0:¬ (0=m.next):=by omega
    have g1:¬ (1=m.next):=by omega
    have g2:¬ (2=m.next):=by omega
    have g3:¬ (3=m.next):=by omega
    have g4:¬ (4=m.next):=by omega
    by_cases hlt:i < PR.length
    ·have hlt':((i:Nat):Int) < ((PR.length:Nat):Int):=by omega
     have wi:=wrap_succ (n:=i) (by omega)
     obtain ⟨x,hx⟩:∃ x,PR[i]? = some x:=⟨_,List.getElem?_eq_getElem hlt⟩
     obtain ⟨ha,hb⟩:=hcells.out i x hx
     obtain ⟨ht,htl⟩:=take2 ha hb
     have hdrop:PR.drop i=x::PR.drop (i+1):=by
      rw [List.drop_eq_getElem_cons hlt]
      congr 1
      rw [List.getElem?_eq_getElem hlt] at hx
      exact Option.some.inj hx
     have hlf2:=hlea.out i x hx (min left LI)
     rw [hdrop] at hLE hLR
     simp only [leavesE,leavesR,hLI.out] at hLE hLR
     unfold leafV at hlf2
     replace hdrop:=Hid.mk hdrop
     replace hx:=Hid.mk hx
     have hlL:=leafR_len k r c w L x (min left LI)
     have hok:=leaf_ok (k:=k) (r:=r) (c:=c) (w:=w) (L:=L) (x:=x) (n:=min left LI)
     by_cases hE0:leafE k r c w L x (min left LI)=0
     ·rw [if_pos hE0] at hLE hlf2
      obtain ⟨hn1,hn2⟩:=hok hE0
      obtain ⟨N,hN⟩:∃ N:Nat,min left LI=(N:Int):=⟨(min left LI).toNat,by omega⟩
      rw [hN] at hLE hlf2 hLR hlL hn1 hn2
      rw [Int.toNat_natCast] at hlf2 hlL
      generalize leafR k r c w L x ↑N=LR at *
      have hTr:=treeR_rd N (refsA LR)
      have pT:=hTr.plain
      have sT:=rd_shift hTr
      have lT:=fun t ht=>hTr.len' (P:=Tryz.prog) (t:=t) ht
      have hsrc:=fun m=>hTr.src (P:=Tryz.prog) (m:=m) (el:=90) (sz:=2) (by rw [refsA_len];omega)
      rw [show (refsA LR).take (N*2)=refsA LR from List.take_of_length_le (by rw [refsA_len];omega)] at hsrc
      generalize treeR N (refsA LR)=TR at *
      have hNl:N≤128:=by have:=hlfb.out;omega
      have wl:IntKind.i64.wrap (left - (N:Int))=left - (N:Int):=wrap_id (by omega) (by omega)
      replace hlL:=Hid.mk hlL
      replace hLE:=Hid.mk hLE
      replace hLR:=Hid.mk hLR
      replace hown:=Hid.mk hown
      replace hblk:=Hid.mk hblk
      replace hacc:=Hid.mk hacc
      replace hok:=Hid.mk hok
      replace hTr:=Hid.mk hTr
      replace hsrc:=Hid.mk hsrc
      replace hE0:=Hid.mk hE0
      have hne:4 < m.next:=hnx
      simp only [↓pre,simprocAttr,parV,sx,tys48,cellsR,onceOb,bne,postU,storeE,allocE,put_at,push_at,put_next,push_next,me0,Nat.one_ne_zero,Nat.zero_ne_one,Nat.reduceEqDiff,hf,ho,e2,e4,e5,e6,e7,e8,e10,e11,e74,e75,e76,b0,b1,b2,b3,b4,g0,g1,g2,g3,g4,hoL,hcL,hkL,postV,hlt',hlt,haddRT,ht,htl,hN,sr]
      (first | refine call_plain (hlf2) (by first | rfl | simp only [parV,plQ, *]) ?_ | refine call_pure (hlf2) (by first | rfl | simp only [parV,plQ, *]) (by intro k;first | rfl | simp only [sq,sr, *]) ?_);simp only [↓pre,simprocAttr,parV,sx,tys48,cellsR,onceOb,bne,postU,storeE,allocE,put_at,push_at,put_next,push_next,me0,Nat.one_ne_zero,Nat.zero_ne_one,Nat.reduceEqDiff,hf,ho,e2,e4,e5,e6,e7,e8,e10,e11,e74,e75,e76,b0,b1,b2,b3,b4,g0,g1,g2,g3,g4,hoL,hcL,hkL,postV,hN,sT,sr]
      generalize hm3:Mem.put (Mem.put (Mem.push m _) _ _) _ _=m3
      have c0:m3.at_ 0=some ⟨[intV PL,intV PD,RT],85,.var,true⟩:=by rw [←hm3];simp [put_at,push_at,b0,g0]
      have c1:m3.at_ 1=some ⟨[intV W],3,.var,true⟩:=by rw [←hm3];simp [put_at,push_at,b1,g1]
      have c2:m3.at_ 2=some ⟨[RT],83,.var,true⟩:=by rw [←hm3];simp [put_at,push_at,b2,g2]
      have c3:m3.at_ 3=some ⟨[lv],83,.var,true⟩:=by rw [←hm3];simp [put_at,push_at,b3,g3]
      have c4:m3.at_ 4=some ⟨[intV 0],30,.var,true⟩:=by rw [←hm3];simp [put_at,push_at,intV]
      have cn:4 < m3.next:=by rw [←hm3];simp only [put_next,push_next];omega
      have co:Own m3 90 2 lv acc.length (refsA acc):=hown.out.keep (by rw [←hm3];simp only [put_next,push_next];omega) fun j kk hj hk=>by
       have h4:=hblk.out j hj
       have hjl:j < m.next:=by
        rcases hown.out.form with ⟨rfl,_⟩ | ⟨b,rfl,_,hb,_⟩
        ·simp [blkOf,nilS] at hj
        ·simp only [blkOf,Option.some.injEq] at hj;omega
       rw [←hm3,put_at,if_neg (by omega),put_at,if_neg (by omega),push_at,if_neg (by omega)]
       exact hk
      clear hm3 hown
      have hacc2:=hacc.out
      have hNb:N≤1000000:=by omega
      refine app_keep (kd := .flat) (y:=16) (zl:=[.int .i64 0,.int .i64 0]) (by kernel_rfl) co (by kernel_rfl) (by kernel_rfl) (by kernel_rfl) rfl (hsrc.out m3) (by rw [refsA_len];have:=hlL.out;omega) (by omega) (by omega) ?_
      intro lv' m4 ho' hn' hkp hbk
      have hnb:∀ j,j≤4→blkOf lv≠some j:=fun j h1 h2=>by have:=hblk.out j h2;omega
      have d0:=hkp 0 _ c0 (by omega) (hnb 0 (by omega))
      have d1:=hkp 1 _ c1 (by omega) (hnb 1 (by omega))
      have d2:=hkp 2 _ c2 (by omega) (hnb 2 (by omega))
      have d3:=hkp 3 _ c3 (by omega) (hnb 3 (by omega))
      have d4:=hkp 4 _ c4 (by omega) (hnb 4 (by omega))
      have hbk':∀ j,blkOf lv'=some j→4 < j:=fun j hj=>by
       rcases hbk j hj with h | h
       ·omega
       ·exact hblk.out j h
      have ocl:lv'.cells=[lv']∧okA lv'=true:=by
       rcases ho'.form with ⟨rfl,_⟩ | ⟨b,rfl,_⟩
       ·exact ⟨rfl,rfl⟩
       ·exact ⟨rfl,rfl⟩
      obtain ⟨ok1,ok2⟩:=ocl
      replace hkp:=Hid.mk hkp
      replace hbk:=Hid.mk hbk
      replace hbk':=Hid.mk hbk'
      replace hnb:=Hid.mk hnb
      replace ho':=Hid.mk ho'
      replace hacc2:=Hid.mk hacc2
      simp only [↓pre,simprocAttr,parV,sx,tys48,cellsR,onceOb,bne,postU,storeE,allocE,put_at,push_at,put_next,push_next,me0,Nat.one_ne_zero,Nat.zero_ne_one,Nat.reduceEqDiff,hf,ho,e2,e4,e5,e6,e7,e8,e10,e11,e74,e75,e76,d3,ok1,ok2,lT,wl,wi,sr]
      refine ⟨q - 1,by have:=hq.out;omega,i+1,left - N,acc++LR,lv',by have:=hq.out;omega,⟨e4,e5,e6,e7,e8⟩,rfl,rfl,⟨⟨by omega,by omega⟩,⟨?_, ?_, ?_, ?_, ?_⟩,by omega, ?_,hbk'.out,hLE.out,by rw [List.append_assoc];exact hLR.out,by rw [List.length_append];have:=hlL.out;have:=hacc2.out;omega⟩⟩
      ·rw [put_at,if_neg (by decide)];exact d0
      ·rw [put_at,if_neg (by decide)];exact d1
      ·rw [put_at,if_neg (by decide)];exact d2
      ·rw [put_at,if_pos rfl]
      ·rw [put_at,if_neg (by decide)];exact d4
      ·rw [refsA_append,List.length_append,hlL.out]
       exact ho'.out.keep (by rw [put_next];exact Nat.le_refl _) fun j kk hj hk=>by
        have:=hbk'.out j hj
        rw [put_at,if_neg (by omega)]
        exact hk
     ·rw [if_neg hE0] at hLE hlf2
      have hres:=hRES.out
      rw [←hLE,if_neg hE0] at hres
      generalize leafE k r c w L x (min left LI)=E at *
      replace hres:=Hid.mk hres
      replace hLE:=Hid.mk hLE
      replace hown:=Hid.mk hown
      replace hok:=Hid.mk hok
      unfold nilS at hlf2
      simp only [↓pre,simprocAttr,parV,sx,tys48,cellsR,onceOb,bne,postU,storeE,allocE,put_at,push_at,put_next,push_next,me0,Nat.one_ne_zero,Nat.zero_ne_one,Nat.reduceEqDiff,hf,ho,e2,e4,e5,e6,e7,e8,e10,e11,e74,e75,e76,b0,b1,b2,b3,b4,g0,g1,g2,g3,g4,hoL,hcL,hkL,hlt',hlt,haddRT,ht,htl,sr]
      (first | refine call_plain (hlf2) (by first | rfl | simp only [parV,plQ, *]) ?_ | refine call_pure (hlf2) (by first | rfl | simp only [parV,plQ, *]) (by intro k;first | rfl | simp only [sq,sr, *]) ?_);simp only [↓pre,simprocAttr,parV,sx,tys48,cellsR,onceOb,bne,postU,storeE,allocE,put_at,push_at,put_next,push_next,me0,Nat.one_ne_zero,Nat.zero_ne_one,Nat.reduceEqDiff,hf,ho,e2,e4,e5,e6,e7,e8,e10,e11,e74,e75,e76,b0,b1,b2,b3,b4,g0,g1,g2,g3,g4,hoL,hcL,hkL,hE0,sr]
      rw [←hres.out]
      refine obj_endE (d0:=intV PL) (d1:=intV PD) (d2:=RT) (ve:=intV W) (lv:=RT) (sv:=lv) hE0 ⟨?_, ?_, ?_, ?_, ?_⟩ ⟨e4,e5,e6,e7,e8⟩
      all_goals simp [put_at,push_at,b0,b1,b2,b3,b4,g0,g1,g2,g3,g4,intV]
    ·have hlt':¬ ((i:Nat):Int) < ((PR.length:Nat):Int):=by omega
     rw [List.drop_of_length_le (by omega)] at hLE hLR
     simp only [leavesE,leavesR,List.append_nil] at hLE hLR
     have hres:=hRES.out
     rw [←hLE,if_pos rfl] at hres
     replace hres:=Hid.mk hres
     replace hLE:=Hid.mk hLE
     replace hLR:=Hid.mk hLR
     replace hown:=Hid.mk hown
     simp only [↓pre,simprocAttr,parV,sx,tys48,cellsR,onceOb,bne,postU,storeE,allocE,put_at,push_at,put_next,push_next,me0,Nat.one_ne_zero,Nat.zero_ne_one,Nat.reduceEqDiff,hf,ho,e2,e4,e5,e6,e7,e8,e10,e11,e74,e75,e76,b0,b1,b2,b3,b4,g0,g1,g2,g3,g4,hoL,hcL,hkL,hlt',sr]
     rw [←hres.out,←hLR.out]
     exact obj_endO hRr ⟨b0,b1,b2,b3,b4⟩ (fzT_rd hRr) (own_fzT hown.out 1) ⟨e4,e5,e6,e7,e8⟩
  ·rw [if_neg hC] at hcr
   rw [if_neg hC,if_neg hC]
   unfold desc0 nilS at hcr
   simp only [intV] at hcr hrw
   replace hrv:=Hid.mk hrv
   replace hmn:=Hid.mk hmn
   replace hR:=Hid.mk hR
   generalize comE k r c w ps=E at *
   simp only [↓pre,simprocAttr,parV,sx,tys48,cellsR,onceOb,bne,postU,storeE,allocE,put_at,push_at,put_next,push_next,me0,Nat.one_ne_zero,Nat.zero_ne_one,Nat.reduceEqDiff,hf,ho,sr]
   (first | refine call_plain (hck) (by first | rfl | simp only [parV,plQ, *]) ?_ | refine call_pure (hck) (by first | rfl | simp only [parV,plQ, *]) (by intro k;first | rfl | simp only [sq,sr, *]) ?_);simp only [↓pre,simprocAttr,parV,sx,tys48,cellsR,onceOb,bne,postU,storeE,allocE,put_at,push_at,put_next,push_next,me0,Nat.one_ne_zero,Nat.zero_ne_one,Nat.reduceEqDiff,hf,ho,h1,h2,hoR,hsr,hC,sr];(first | refine call_plain (hrw) (by first | rfl | simp only [parV,plQ, *]) ?_ | refine call_pure (hrw) (by first | rfl | simp only [parV,plQ, *]) (by intro k;first | rfl | simp only [sq,sr, *]) ?_);simp only [↓pre,simprocAttr,parV,sx,tys48,cellsR,onceOb,bne,postU,storeE,allocE,put_at,push_at,put_next,push_next,me0,Nat.one_ne_zero,Nat.zero_ne_one,Nat.reduceEqDiff,hf,ho,h1,h2,hoR,hsr,hC,sr];(first | refine call_plain (hcr) (by first | rfl | simp only [parV,plQ, *]) ?_ | refine call_pure (hcr) (by first | rfl | simp only [parV,plQ, *]) (by intro k;first | rfl | simp only [sq,sr, *]) ?_);simp only [↓pre,simprocAttr,parV,sx,tys48,cellsR,onceOb,bne,postU,storeE,allocE,put_at,push_at,put_next,push_next,me0,Nat.one_ne_zero,Nat.zero_ne_one,Nat.reduceEqDiff,hf,ho,h1,h2,hoR,hsr,hC,sr]
   exact obj_endE hC ⟨rfl,rfl,rfl,rfl,rfl⟩ ⟨rfl,rfl,rfl,rfl,rfl⟩
 ·have hRE:rowE k r c w L row=if imE k r c w L=0 then (if row < 0∨w≤row then 2 else 0) else imE k r c w L:=rfl
  rw [if_neg hR,if_neg hR]
  refine ospec_of_defer follows Tryz.func48 (by unfold Tryz.f48;rfl) (by unfold Tryz.f48;simp) onceOb (by unfold Tryz.f48;simp) (by kernel_rfl) (by kernel_rfl) (by unfold Tryz.f48;decide) (by kernel_rfl) ?_
  unfold deferW Tryz.f48
  by_cases hE:imE k r c w L=0
  ·rw [if_pos hE] at hRE
   rw [hE] at hck
   have hrow:row < 0∨w≤row:=by
    by_cases h:row < 0∨w≤row
    ·exact h
    ·rw [if_neg h] at hRE;exact absurd hRE hR
   rw [if_pos hrow] at hRE
   rw [hRE] at *
   by_cases h1:row < 0
   ·simp only [↓pre,simprocAttr,parV,sx,tys48,cellsR,onceOb,bne,postU,storeE,allocE,put_at,push_at,put_next,push_next,me0,Nat.one_ne_zero,Nat.zero_ne_one,Nat.reduceEqDiff,hf,ho,sr]
    (first | refine call_plain (hck) (by first | rfl | simp only [parV,plQ, *]) ?_ | refine call_pure (hck) (by first | rfl | simp only [parV,plQ, *]) (by intro k;first | rfl | simp only [sq,sr, *]) ?_);simp only [↓pre,simprocAttr,parV,sx,tys48,cellsR,onceOb,bne,postU,storeE,allocE,put_at,push_at,put_next,push_next,me0,Nat.one_ne_zero,Nat.zero_ne_one,Nat.reduceEqDiff,hf,ho,h1,sr]
    exact obj_endE (E:=2) (by decide) ⟨rfl,rfl,rfl,rfl,rfl⟩ ⟨rfl,rfl,rfl,rfl,rfl⟩
   ·have h2:w≤row:=by omega
    simp only [↓pre,simprocAttr,parV,sx,tys48,cellsR,onceOb,bne,postU,storeE,allocE,put_at,push_at,put_next,push_next,me0,Nat.one_ne_zero,Nat.zero_ne_one,Nat.reduceEqDiff,hf,ho,sr]
    (first | refine call_plain (hck) (by first | rfl | simp only [parV,plQ, *]) ?_ | refine call_pure (hck) (by first | rfl | simp only [parV,plQ, *]) (by intro k;first | rfl | simp only [sq,sr, *]) ?_);simp only [↓pre,simprocAttr,parV,sx,tys48,cellsR,onceOb,bne,postU,storeE,allocE,put_at,push_at,put_next,push_next,me0,Nat.one_ne_zero,Nat.zero_ne_one,Nat.reduceEqDiff,hf,ho,h1,h2,sr]
    exact obj_endE (E:=2) (by decide) ⟨rfl,rfl,rfl,rfl,rfl⟩ ⟨rfl,rfl,rfl,rfl,rfl⟩
  ·rw [if_neg hE] at hRE
   rw [hRE]
   simp only [↓pre,simprocAttr,parV,sx,tys48,cellsR,onceOb,bne,postU,storeE,allocE,put_at,push_at,put_next,push_next,me0,Nat.one_ne_zero,Nat.zero_ne_one,Nat.reduceEqDiff,hf,ho,sr]
   (first | refine call_plain (hck) (by first | rfl | simp only [parV,plQ, *]) ?_ | refine call_pure (hck) (by first | rfl | simp only [parV,plQ, *]) (by intro k;first | rfl | simp only [sq,sr, *]) ?_);simp only [↓pre,simprocAttr,parV,sx,tys48,cellsR,onceOb,bne,postU,storeE,allocE,put_at,push_at,put_next,push_next,me0,Nat.one_ne_zero,Nat.zero_ne_one,Nat.reduceEqDiff,hf,ho,hE,sr]
   exact obj_endE hE ⟨rfl,rfl,rfl,rfl,rfl⟩ ⟨rfl,rfl,rfl,rfl,rfl⟩
end Go.Proofs.YtgcicholalgbiaaGreat