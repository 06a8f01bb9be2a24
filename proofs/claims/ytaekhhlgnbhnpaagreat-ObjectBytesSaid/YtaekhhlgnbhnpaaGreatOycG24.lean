import Derived.Test.YtaekhhlgnbhnpaaGreatOycG23
set_option linter.unusedVariables false
set_option linter.unusedSimpArgs false
set_option maxRecDepth 10000
namespace Go.Proofs.YtaekhhlgnbhnpaaGreat
open Go Go.Tw Go.Proofs Go.Gf
structure oV (m:aH) (a:AV) (bs:List UInt8):Prop where
 form:(a = .val (.slice none 0 0)∧bs=[])∨∃ b,a = .sl b 0 bs.length bs.length true∧bs.length≠0∧b < m.next∧m.at_ b=some ⟨aQ bs,5,.flat,true⟩
theorem zD.own {m m1:aH} {a:AV} {bs:List UInt8} (h:zD m m1 a bs):oV m1 a bs:=by
 rcases h.form with ⟨h1,h2,_⟩ | ⟨h1,h2,rfl⟩
 ·exact ⟨.inl ⟨h1,h2⟩⟩
 ·exact ⟨.inr ⟨_,h1,h2,by rw [bO];omega,by rw [aG,if_pos rfl]⟩⟩
theorem zD.keep {m m1:aH} {a c:AV} {bs cs:List UInt8} (h:zD m m1 a bs) (hc:oV m c cs):oV m1 c cs∧∀ b,cP a=some b→cP c≠some b:=by
 rcases h.form with ⟨rfl,_,rfl⟩ | ⟨rfl,_,rfl⟩
 ·exact ⟨hc,fun b h=>by cases h⟩
 ·rcases hc.form with ⟨rfl,h2⟩ | ⟨b,rfl,h2,h3,h4⟩
  ·exact ⟨⟨.inl ⟨rfl,h2⟩⟩,fun b _ h=>by cases h⟩
  ·refine ⟨⟨.inr ⟨b,rfl,h2,by rw [bO];omega,by rw [aG,if_neg (by omega)];exact h4⟩⟩,fun b' h h' => ?_⟩
   cases h
   cases h'
   omega
theorem oV.len {m:aH} {a:AV} {bs:List UInt8} (h:oV m a bs):jT Tryz.prog 52 a=some (.val (.int .i64 (bs.length:Nat))):=by
 have h1:bZ Tryz.prog 52=some 5:=by kernel_rfl
 rcases h.form with ⟨rfl,rfl⟩ | ⟨b,rfl,_⟩
 ·show jT Tryz.prog 52 (.val (.slice none 0 0))=some (.val (.int .i64 0))
  kernel_rfl
 ·simp [jT,h1,vH,aE]
theorem auH {m:aH} {b:Nat} {f:Bool} {bs:List UInt8} {el:TypeId} {wr:Bool} (hb:m.at_ b=some ⟨aQ bs,el,.flat,wr⟩):lG Tryz.prog m 52 9 (.sl b 0 bs.length bs.length f)=some ⟨kG bs,m,none⟩:=by
 have h1:bZ Tryz.prog 9=none:=by kernel_rfl
 have h2:mQ Tryz.prog 9=true:=by kernel_rfl
 have h3:bZ Tryz.prog 52=some 5:=by kernel_rfl
 have h4:p7 Tryz.prog 5=true:=by kernel_rfl
 have e:(aQ bs).take bs.length=bs.map aU:=by rw [List.take_of_length_le (by rw [gH];exact Nat.le_refl _)];rfl
 have e2:bs.length≤(aQ bs).length:=by rw [gH];exact Nat.le_refl _
 simp only [lG,h1,h2,h3,h4,d6,hb,if_true,Option.bind_some,List.drop_zero]
 rw [if_pos e2,e,afw]
 rfl
theorem oV.conv {m:aH} {a:AV} {bs:List UInt8} (h:oV m a bs) (c:Bool):mU Tryz.prog false c m 52 9 a=some ⟨kG bs,m,none⟩:=by
 rcases h.form with ⟨rfl,rfl⟩ | ⟨b,rfl,h2,h3,h4⟩
 ·exact rI (bs:=[]) (x:=[]) ⟨.inl ⟨rfl,rfl⟩⟩
 ·rw [afo (by kernel_rfl)]
  exact auH h4
theorem oV.set {m:aH} {a:AV} {bs:List UInt8} (h:oV m a bs) {i:Nat} (hi:i < bs.length) (x:UInt8):∃ b,a = .sl b 0 bs.length bs.length true∧m.at_ b=some ⟨aQ bs,5,.flat,true⟩∧i+1≤(aQ bs).length∧List.take i (aQ bs)++[AV.val (.int .u8 (x.toNat:Int))]++List.drop (i+1) (aQ bs)=aQ (bs.set i x)∧oV (m.put b (some ⟨aQ (bs.set i x),5,.flat,true⟩)) a (bs.set i x)∧∀ c cs,oV m c cs→(∀ b,cP a=some b→cP c≠some b)→oV (m.put b (some ⟨aQ (bs.set i x),5,.flat,true⟩)) c cs:=by
 rcases h.form with ⟨_,rfl⟩ | ⟨b,rfl,h2,h3,h4⟩
 ·simp at hi
 ·refine ⟨b,rfl,h4,by rw [gH];omega, ?_,⟨.inr ⟨b,by rw [List.length_set],by rw [List.length_set];exact h2,h3,by rw [aF,if_pos rfl]⟩⟩,fun c cs hc hne => ?_⟩
  ·unfold aQ
   rw [←List.map_take,←List.map_drop,List.set_eq_take_append_cons_drop,if_pos hi,List.map_append,List.map_cons,List.append_assoc]
   rfl
  ·rcases hc.form with ⟨rfl,h5⟩ | ⟨b',rfl,h5,h6,h7⟩
   ·exact ⟨.inl ⟨rfl,h5⟩⟩
   ·refine ⟨.inr ⟨b',rfl,h5,h6, ?_⟩⟩
    rw [aF,if_neg (fun e=>hne b rfl (by rw [e];rfl))]
    exact h7
section
variable (k r c w:Int) (L:List (List UInt8)) (row off n:Int)
theorem ag6 (l:List b9) (fr to:Nat):∃ a,xJ k r c w L l fr to = .tup [a,.val (.int .i64 (iG k r c w L l fr to))]∧bD a (qP k r c w L l fr to).length (aQ (qP k r c w L l fr to)++[]):=by
 unfold xJ qP
 by_cases h:iG k r c w L l fr to=0
 ·rw [if_pos h,if_pos h,h]
  refine ⟨_,rfl, ?_⟩
  have hl:(kN k r c w L l fr to).length=to - fr:=by unfold kN;rw [pL]
  rw [hl,List.append_nil]
  exact dH _ _
 ·rw [if_neg h,if_neg h]
  exact ⟨_,rfl,⟨.inl ⟨rfl,rfl⟩⟩⟩
theorem auI:∃ a,xK k r c w L row = .tup [a,.val (.int .i64 (acy k r c w L row))]∧bD a (xL k r c w L row).length (aQ (xL k r c w L row)++[]):=by
 unfold xK xL acy
 by_cases h:iM k r c w L row=0
 ·rw [if_pos h,if_pos h,if_pos h]
  exact ag6 _ _ _ _ _ _ _ _
 ·rw [if_neg h,if_neg h,if_neg h]
  exact ⟨_,rfl,⟨.inl ⟨rfl,rfl⟩⟩⟩
theorem auJ:∃ a,aew k r c w L row off n = .tup [a,.val (.int .i64 (acz k r c w L row off n))]∧bD a (xM k r c w L row off n).length (aQ (xM k r c w L row off n)++[]):=by
 unfold aew xM acz
 by_cases h:s7 k r c w L row off n=0
 ·rw [if_pos h,if_pos h,if_pos h]
  have h2:(¬ (off < 0∨n < 0))∧iM k r c w L row=0:=by
   unfold s7 at h
   by_cases q1:eY k r c w L row=0
   ·rw [if_pos q1] at h
    by_cases q2:off < 0∨n < 0
    ·rw [if_pos q2] at h
     contradiction
    ·rw [if_neg q2] at h
     split at h
     ·contradiction
     ·exact ⟨q2,h⟩
   ·rw [if_neg q1] at h
    exact absurd h q1
  obtain ⟨_,_,_,_,_,hl0,_⟩:=xF h2.2
  by_cases ho:off≤b6 (cB k r c w L row)
  ·rw [show min off (b6 (cB k r c w L row))=off by omega]
   exact ag6 _ _ _ _ _ _ _ _
  ·obtain ⟨a,g1,g2⟩:=ag6 k r c w L (dS k r c w L row) (min off (b6 (cB k r c w L row))).toNat (min (off+n) (b6 (cB k r c w L row))).toNat
   rw [aex (by omega)] at g1
   rw [ag5 (by omega)] at g2
   rw [aex (show (min (off+n) (b6 (cB k r c w L row))).toNat≤off.toNat by omega),ag5 (show (min (off+n) (b6 (cB k r c w L row))).toNat≤off.toNat by omega)]
   exact ⟨a,g1,g2⟩
 ·rw [if_neg h,if_neg h,if_neg h]
  exact ⟨_,rfl,⟨.inl ⟨rfl,rfl⟩⟩⟩
theorem anE (l:List b9) (fr to:Nat):(qP k r c w L l fr to).length≤to:=by
 unfold qP kN
 split
 ·rw [pL];omega
 ·exact Nat.zero_le _
theorem auK:(xL k r c w L row).length≤32768:=by
 unfold xL
 by_cases h:iM k r c w L row=0
 ·rw [if_pos h]
  obtain ⟨_,_,_,_,_,hl0,hl1⟩:=xF h
  have:=anE k r c w L (dS k r c w L row) 0 (b6 (cB k r c w L row)).toNat
  omega
 ·rw [if_neg h]
  exact Nat.zero_le _
theorem auL:(xM k r c w L row off n).length≤32768:=by
 unfold xM
 by_cases h:s7 k r c w L row off n=0
 ·rw [if_pos h]
  have h2:iM k r c w L row=0:=by
   unfold s7 at h
   split at h
   ·split at h
    ·contradiction
    ·split at h
     ·contradiction
     ·exact h
   ·contradiction
  obtain ⟨_,_,_,_,_,hl0,hl1⟩:=xF h2
  have:=anE k r c w L (dS k r c w L row) off.toNat (min (off+n) (b6 (cB k r c w L row))).toNat
  omega
 ·rw [if_neg h]
  exact Nat.zero_le _
end
set_option maxHeartbeats 2000000 in
theorem auM (k r c w row off n:Int) (v:AV) (L:List (List UInt8)) (cells:List AV) (hv:fT v L cells) (hn:L.length*24≤140737488355328):aY Tryz.prog 4 [dD k r c w v,aE row,aE off,aE n] ⟨bC true,[]⟩:=by
 have hp:=hv.rd.plain
 have hf:=cA hv.rd
 have ho:=bP hv.rd
 have haw:=atw
 have hbi:=atx k r c w v L cells hv
 unfold dD at hbi ⊢
 cases hb:bL k r c w && decide (400 < (k+r)*w) with
 | true =>
  rw [hb] at hbi
  refine bB follows Tryz.func4 (by unfold Tryz.f4;rfl) (by unfold Tryz.f4;simp) aD (by unfold Tryz.f4;simp) (by kernel_rfl) ?_;unfold Tryz.f4
  simp only [↓pre,simprocAttr,aA,sx,lZ,aD,aC,aI,hf,ho,aJ,aK,aF,aG,sr]
  refine aL (haw) (by rfl) ?_;simp only [↓pre,simprocAttr,aA,sx,lZ,aD,aC,aI,hf,ho,aJ,aK,aF,aG,sr];refine aL (hbi) (by simp only [aA,aO, *]) ?_;simp only [↓pre,simprocAttr,aA,sx,lZ,aD,aC,aI,hf,ho,aJ,aK,aF,aG,sr]
 | false =>
  rw [hb] at hbi
  clear hb
  have htw:=auC k r c w v L cells hv hn
  have hin:=auB L
  generalize L.map fE=cin at *
  generalize bE L.length cin=vin at *
  have hl1:=am3 k r c w row vin L cin hin
  have hl2:=auu k r c w row v L cells hv
  have hb1:=auF k r c w row vin L cin hin
  have hb2:=auy k r c w row v L cells hv
  have hp1:=auG k r c w row off n vin L cin hin
  have hp2:=auz k r c w row off n v L cells hv
  have hsm:=auE k r c w vin v L cin cells hin hv hn
  obtain ⟨a2,e2,r2⟩:=auI k r c w L row
  obtain ⟨c2,e3,r3⟩:=auJ k r c w L row off n
  rw [e2] at hb2
  rw [e3] at hp2
  clear e2 e3
  have hI:=hin.rd.plain
  have hIf:=cA hin.rd
  have hIo:=bP hin.rd
  have hIs:=cK hin.rd
  have sa:=cK r2
  have sc:=cK r3
  have xa:=fun (d c:Bool) (m:aH)=>rI (d:=d) (c:=c) (m:=m) r2
  have xc:=fun (d c:Bool) (m:aH)=>rI (d:=d) (c:=c) (m:=m) r3
  have hBl:=auK k r c w L row
  have hCl:=auL k r c w L row off n
  generalize vC k r c w L row=E1 at *
  generalize (if E1=0 then b6 (cB k r c w L row) else 0)=LN at *
  generalize xL k r c w L row=B at *
  generalize acy k r c w L row=BE at *
  generalize xM k r c w L row off n=C at *
  generalize acz k r c w L row off n=CE at *
  unfold dD at htw hl1 hl2 hb1 hb2 hp1 hp2 hsm
  simp only [aE] at htw hl1 hl2 hb1 hb2 hp1 hp2 hsm
  have heq:∀ x y (z:List UInt8),dP Tryz.prog .eql 9 x y (kG z) (kG z)=some (.val (.bool true)):=fun x y z=>by rw [atv,decide_eq_true rfl]
  replace hin:=aB.mk hin
  replace r2:=aB.mk r2
  replace r3:=aB.mk r3
  replace hn:=aB.mk hn
  replace hBl:=aB.mk hBl
  replace hCl:=aB.mk hCl
  refine bB follows Tryz.func4 (by unfold Tryz.f4;rfl) (by unfold Tryz.f4;simp) aD (by unfold Tryz.f4;simp) (by kernel_rfl) ?_;unfold Tryz.f4
  simp only [↓pre,simprocAttr,aA,sx,lZ,aD,aC,aI,hf,ho,aJ,aK,aF,aG,sr]
  refine aL (haw) (by rfl) ?_;simp only [↓pre,simprocAttr,aA,sx,lZ,aD,aC,aI,hf,ho,aJ,aK,aF,aG,hIf,hIo,hIs,sa,sc,sr];refine aL (hbi) (by simp only [aA,aO, *]) ?_;simp only [↓pre,simprocAttr,aA,sx,lZ,aD,aC,aI,hf,ho,aJ,aK,aF,aG,hIf,hIo,hIs,sa,sc,sr];refine aL (htw) (by simp only [aA,aO, *]) ?_;simp only [↓pre,simprocAttr,aA,sx,lZ,aD,aC,aI,hf,ho,aJ,aK,aF,aG,hIf,hIo,hIs,sa,sc,sr];refine aL (hl1) (by simp only [aA,aO, *]) ?_;simp only [↓pre,simprocAttr,aA,sx,lZ,aD,aC,aI,hf,ho,aJ,aK,aF,aG,hIf,hIo,hIs,sa,sc,sr];refine aL (hl2) (by simp only [aA,aO, *]) ?_;simp only [↓pre,simprocAttr,aA,sx,lZ,aD,aC,aI,hf,ho,aJ,aK,aF,aG,hIf,hIo,hIs,sa,sc,sr]
  refine acx hb1 (by simp [dX,plain,hI]) fun a m1 hN1 => ?_
  replace hN1:=aB.mk hN1
  simp only [↓pre,simprocAttr,aA,sx,lZ,aD,aC,aI,hf,ho,aJ,aK,aF,aG,hIf,hIo,hIs,sa,sc,sr]
  refine aL (hb2) (by simp only [aA,aO, *]) ?_;simp only [↓pre,simprocAttr,aA,sx,lZ,aD,aC,aI,hf,ho,aJ,aK,aF,aG,hIf,hIo,hIs,sa,sc,sr]
  refine acx hp1 (by simp [dX,plain,hI]) fun cc m2 hN2 => ?_
  have oc:=hN2.own
  obtain ⟨oa,hdj⟩:=hN2.keep hN1.out.own
  have va:=oa.conv
  have vc:=oc.conv
  replace hN2:=aB.mk hN2
  replace oa:=aB.mk oa
  replace oc:=aB.mk oc
  replace hdj:=aB.mk hdj
  simp only [↓pre,simprocAttr,aA,sx,lZ,aD,aC,aI,hf,ho,aJ,aK,aF,aG,hIf,hIo,hIs,sa,sc,sr]
  refine aL (hp2) (by simp only [aA,aO, *]) ?_;simp only [↓pre,simprocAttr,aA,sx,lZ,aD,aC,aI,hf,ho,aJ,aK,aF,aG,hIf,hIo,hIs,sa,sc,va,vc,xa,xc,heq,sr]
  rw [b7]
  refine b8 (fun q e mm=>∃ i bs,q+i=B.length∧e 1=aE row∧e 4 = .tptr 0 [aE k,aE r,aE c,aE w,v]∧e 10 = .tptr 0 [aE k,aE r,aE c,aE w,vin]∧e 15=a∧e 17=a2∧e 19=cc∧e 23=bC true∧e 24=aE (i:Nat)∧aB (bs.length=B.length∧oV mm a bs∧oV mm cc C)) B.length ⟨0,B,by omega,rfl,rfl,rfl,rfl,rfl,rfl,rfl,rfl,⟨rfl,oa.out,oc.out⟩⟩ ?_
  rintro q e mm ⟨i,bs,hq,e1,e4,e10,e15,e17,e19,e23,e24,hJ⟩
  replace hq:=aB.mk hq
  obtain ⟨hbl,ob1,oc1⟩:=hJ.out
  clear hJ va vc
  by_cases hlt:i < bs.length
  ·have hlt':((i:Nat):Int) < ((bs.length:Nat):Int):=by omega
   have wi:=cF (n:=i) (by have:=hBl.out;omega)
   obtain ⟨b,ha,hb,hl1',hput0,o1,o2⟩:=ob1.set hlt 99
   have o3:=o2 cc C oc1 fun b h1 h2=>hdj.out b h2 h1
   have hput:List.take i (aQ bs)++[AV.val (.int .u8 99)]++List.drop (i+1) (aQ bs)=aQ (bs.set i 99):=hput0
   have hsl:(bs.set i 99).length=bs.length:=List.length_set
   have hla:=ob1.len
   rw [ha] at e15 hla
   replace o1:=aB.mk o1
   replace o3:=aB.mk o3
   replace hput0:=aB.mk hput0
   replace hsl:=aB.mk hsl
   replace hbl:=aB.mk hbl
   replace ob1:=aB.mk ob1
   replace oc1:=aB.mk oc1
   clear o2
   have ha2:=aB.mk ha
   clear ha
   simp only [↓pre,simprocAttr,aA,sx,lZ,aD,aC,aI,hf,ho,aJ,aK,aF,aG,e1,e4,e10,e15,e17,e19,e23,e24,hla,hlt',hlt,hb,hl1',hput,wi,sr]
   exact ⟨q - 1,by have:=hq.out;have:=hbl.out;omega,i+1,bs.set i 99,by have:=hq.out;have:=hbl.out;omega,ha2.out.symm,rfl,⟨hsl.out.trans hbl.out,o1.out,o3.out⟩⟩
  ·have hlt':¬ ((i:Nat):Int) < ((bs.length:Nat):Int):=by omega
   have hla:=ob1.len
   replace hbl:=aB.mk hbl
   replace ob1:=aB.mk ob1
   replace oc1:=aB.mk oc1
   simp only [↓pre,simprocAttr,aA,sx,lZ,aD,aC,aI,hf,ho,aJ,aK,aF,aG,e1,e4,e10,e15,e17,e19,e23,e24,hla,hlt',sr]
   rw [b7]
   refine b8 (fun q e mm=>∃ i cs,q+i=C.length∧e 1=aE row∧e 4 = .tptr 0 [aE k,aE r,aE c,aE w,v]∧e 10 = .tptr 0 [aE k,aE r,aE c,aE w,vin]∧e 17=a2∧e 19=cc∧e 23=bC true∧e 25=aE (i:Nat)∧aB (cs.length=C.length∧oV mm cc cs)) C.length ⟨0,C,by omega,e1,e4,e10,e17,e19,e23,rfl,⟨rfl,oc1.out⟩⟩ ?_
   clear e1 e4 e10 e15 e17 e19 e23 e24 hla hlt hlt'
   rintro q e mm ⟨i,cs,hq,e1,e4,e10,e17,e19,e23,e25,hJ⟩
   replace hq:=aB.mk hq
   obtain ⟨hcl,oc2⟩:=hJ.out
   clear hJ
   by_cases hlt:i < cs.length
   ·have hlt':((i:Nat):Int) < ((cs.length:Nat):Int):=by omega
    have wi:=cF (n:=i) (by have:=hCl.out;omega)
    obtain ⟨b,ha,hb,hl1',hput0,o1,o2⟩:=oc2.set hlt 98
    have hput:List.take i (aQ cs)++[AV.val (.int .u8 98)]++List.drop (i+1) (aQ cs)=aQ (cs.set i 98):=hput0
    have hsl:(cs.set i 98).length=cs.length:=List.length_set
    have hla:=oc2.len
    rw [ha] at e19 hla
    replace o1:=aB.mk o1
    replace hput0:=aB.mk hput0
    replace hsl:=aB.mk hsl
    replace hcl:=aB.mk hcl
    replace oc2:=aB.mk oc2
    clear o2
    have ha2:=aB.mk ha
    clear ha
    simp only [↓pre,simprocAttr,aA,sx,lZ,aD,aC,aI,hf,ho,aJ,aK,aF,aG,e1,e4,e10,e17,e19,e23,e25,hla,hlt',hlt,hb,hl1',hput,wi,sr]
    exact ⟨q - 1,by have:=hq.out;have:=hcl.out;omega,i+1,cs.set i 98,by have:=hq.out;have:=hcl.out;omega,ha2.out.symm,rfl,⟨hsl.out.trans hcl.out,o1.out⟩⟩
   ·have hlt':¬ ((i:Nat):Int) < ((cs.length:Nat):Int):=by omega
    have hla:=oc2.len
    replace hcl:=aB.mk hcl
    replace oc2:=aB.mk oc2
    simp only [↓pre,simprocAttr,aA,sx,lZ,aD,aC,aI,hf,ho,aJ,aK,aF,aG,hIf,hIo,hIs,sa,sc,e1,e4,e10,e17,e19,e23,e25,hla,hlt',sr]
    refine acx hb1 (by simp [dX,plain,hI]) fun a' m3 hN3 => ?_
    have vx:=hN3.own.conv
    replace hN3:=aB.mk hN3
    simp only [↓pre,simprocAttr,aA,sx,lZ,aD,aC,aI,hf,ho,aJ,aK,aF,aG,hIf,hIo,hIs,sa,sc,e1,e4,e10,e17,e19,e23,e25,vx,xa,heq,sr]
    refine aL (hsm) (by simp only [aA,aO, *]) ?_;simp only [↓pre,simprocAttr,aA,sx,lZ,aD,aC,aI,hf,ho,aJ,aK,aF,aG,hIf,hIo,hIs,sa,sc,sr]
end Go.Proofs.YtaekhhlgnbhnpaaGreat