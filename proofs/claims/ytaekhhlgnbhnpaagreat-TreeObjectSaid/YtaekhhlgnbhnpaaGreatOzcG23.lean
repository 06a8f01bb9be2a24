import Derived.Test.YtaekhhlgnbhnpaaGreatOzcG22
import Derived.Test.YtaekhhlgnbhnpaaGreatOzcG18
import Derived.Test.YtaekhhlgnbhnpaaGreatOzcG21
import Derived.Test.YtaekhhlgnbhnpaaGreatOzcG12
import Derived.Test.YtaekhhlgnbhnpaaGreatOzcG20
set_option linter.unusedVariables false
set_option linter.unusedSimpArgs false
set_option maxRecDepth 10000
namespace Go.Proofs.YtaekhhlgnbhnpaaGreat
open Go Go.Tw Go.Proofs Go.Gf
def jX:Nat→Bool:=fun d=>d != 4
theorem avD (k r c w:Int) (v:AV) (ps:List bX) (cells:List AV) (hv:fR v ps cells):aX Tryz.prog 39 [aA k r c w,v] ⟨abD k r c w ps,[]⟩:=by
 refine eA ?_
 have h1:=arQ k r c w v ps cells hv
 have hvc:=uW hv.rd
 have hvo:=uX hv.rd
 have f1:=cM hv.rd
 have q1:=b6 hv.rd
 have hp:=hv.rd.plain
 have hz:iP k r c w ps≠0→∀ m,fzT 0 m (.tup [.agg [.val (.int .i64 0),.val (.int .i64 0),.val (.slice none 0 0)],.val (.int .i64 0),.val (.int .i64 (iP k r c w ps))])=some (abD k r c w ps):=fun h m=>by
  unfold abD
  rw [if_neg h]
  exact acR (fun x hx=>by
   simp only [List.mem_cons,List.not_mem_nil,or_false] at hx
   rcases hx with rfl | rfl | rfl
   ·exact wH fun c hc=>by
     simp only [List.mem_cons,List.not_mem_nil,or_false] at hc
     rcases hc with rfl | rfl | rfl <;> exact b8 _
   ·exact b8 _
   ·exact b8 _) 0 m
 by_cases hc:eK k r c w ps=0
 ·obtain ⟨hm,hr⟩:=anD hc
  have hE:iP k r c w ps=if eV k r c w ps=0 then 5 else if jU k r c w ps 2 (eV k r c w ps) < k.toNat then 5 else mJ k r c w (fV k r c w ps):=by unfold iP;rw [if_pos hc]
  have h0:=asL k r c w v ps cells hv hc
  rw [hc] at h1
  rw [show (jJ k r c w ps).getD 0 0=eV k r c w ps from rfl,show (jJ k r c w ps).getD 1 0=anC k r c w ps from rfl] at h0
  generalize anC k r c w ps=RU at *
  have hver:=anE hc
  have hrd:=aom k r c w 2 (eV k r c w ps) v ps cells hv hm hr
  have hcv:iP k r c w ps=0→abD k r c w ps = .tup [rA (dK (fV k r c w ps)) (dQ (fV k r c w ps)) (cS (fV k r c w ps)),aD (eV k r c w ps),aD 0]:=fun h=>by unfold abD;rw [if_pos h]
  have hdl:=anF (ps:=ps) hm
  have hcD:fV k r c w ps=nK k r c w ps 2 (eV k r c w ps) k.toNat:=rfl
  unfold wL at hrd
  rw [←hcD] at hrd
  clear hcD
  generalize eV k r c w ps=W at *
  generalize fV k r c w ps=D at *
  by_cases hW:W=0
  ·subst hW
   rw [if_pos rfl] at hE
   have hz:=hz (by rw [hE];decide)
   rw [hE] at hz
   replace hz:=aB.mk hz
   replace hE:=aB.mk hE
   clear hrd hver hcv
   refine bZ follows Tryz.func39 (by unfold Tryz.f39;rfl) (by unfold Tryz.f39;simp) jX (by unfold Tryz.f39;simp) (by kernel_rfl) ?_;unfold Tryz.f39
   simp only [↓pre,simprocAttr,aA,sx,mA,jX,bne,aC,bQ,aJ,aK,aG,aH,aQ,f1,q1,Nat.one_ne_zero,Nat.zero_ne_one,↓hvc,↓hvo,sr]
   refine aM (h1) (by simp only [aA,aV, *]) ?_;simp only [↓pre,simprocAttr,aA,sx,mA,jX,bne,aC,bQ,aJ,aK,aG,aH,aQ,f1,q1,Nat.one_ne_zero,Nat.zero_ne_one,↓hvc,↓hvo,sr];refine aM (h0) (by simp only [aA,aV, *]) ?_;simp only [↓pre,simprocAttr,aA,sx,mA,jX,bne,aC,bQ,aJ,aK,aG,aH,aQ,f1,q1,Nat.one_ne_zero,Nat.zero_ne_one,↓hvc,↓hvo,sr]
   exact ⟨0,hz.out _⟩
  ·rw [if_neg hW] at hE
   clear hver
   by_cases hlt:jU k r c w ps 2 W < k.toNat
   ·rw [if_pos hlt] at hE hrd
    have hz:=hz (by rw [hE];decide)
    rw [hE] at hz
    replace hz:=aB.mk hz
    replace hE:=aB.mk hE
    clear hcv
    simp only [aO] at hrd
    refine bZ follows Tryz.func39 (by unfold Tryz.f39;rfl) (by unfold Tryz.f39;simp) jX (by unfold Tryz.f39;simp) (by kernel_rfl) ?_;unfold Tryz.f39
    simp only [↓pre,simprocAttr,aA,sx,mA,jX,bne,aC,bQ,aJ,aK,aG,aH,aQ,f1,q1,Nat.one_ne_zero,Nat.zero_ne_one,↓hvc,↓hvo,sr]
    refine aM (h1) (by simp only [aA,aV, *]) ?_;simp only [↓pre,simprocAttr,aA,sx,mA,jX,bne,aC,bQ,aJ,aK,aG,aH,aQ,f1,q1,Nat.one_ne_zero,Nat.zero_ne_one,↓hvc,↓hvo,hW,sr];refine aM (h0) (by simp only [aA,aV, *]) ?_;simp only [↓pre,simprocAttr,aA,sx,mA,jX,bne,aC,bQ,aJ,aK,aG,aH,aQ,f1,q1,Nat.one_ne_zero,Nat.zero_ne_one,↓hvc,↓hvo,hW,sr];refine aM (hrd) (by simp only [aA,aV, *]) ?_;simp only [↓pre,simprocAttr,aA,sx,mA,jX,bne,aC,bQ,aJ,aK,aG,aH,aQ,f1,q1,Nat.one_ne_zero,Nat.zero_ne_one,↓hvc,↓hvo,hW,sr]
    exact ⟨0,hz.out _⟩
   ·rw [if_neg hlt] at hE hrd
    have hpa:=avB k r c w hm (bJ (k.toNat*c.toNat) (aT D)) D [] (ahn D _ hdl) (by rw [hdl];unfold wI;have:=jN.1 hm;rw [Int.natCast_mul,Int.toNat_of_nonneg (by omega),Int.toNat_of_nonneg (by omega)])
    unfold abC at hpa
    have pt:=(dX (k.toNat*c.toNat) (aT D)).plain
    rw [←hE] at hpa
    replace hlt:=aB.mk hlt
    by_cases he:iP k r c w ps=0
    ·rw [he,if_pos rfl] at hpa
     have hcv:=hcv he
     have hf:=fun m=>acR (fun x (hx:x∈[rA (dK D) (dQ D) (cS D),aD W,aD 0])=>by
      simp only [List.mem_cons,List.not_mem_nil,or_false] at hx
      rcases hx with rfl | rfl | rfl
      ·exact anB _ _ _
      ·exact b8 _
      ·exact b8 _) 0 m
     rw [←hcv] at hf
     unfold rA at hpa
     rw [hcv] at hf
     unfold rA at hf
     rw [hcv]
     unfold rA
     replace hcv:=aB.mk hcv
     replace hE:=aB.mk hE
     replace hz:=aB.mk hz
     generalize dK D=pl at *
     generalize dQ D=pd at *
     generalize cS D=pr at *
     have hTRf:bJ pr.length (bI pr) = .val (.slice none 0 0)∨bJ pr.length (bI pr) = .tree pr.length pr.length (bI pr) false:=by unfold bJ;split;exact .inl rfl;exact .inr rfl
     rcases hTRf with hT | hT
     all_goals rw [hT] at hpa hf ⊢
     all_goals replace hT:=aB.mk hT
     all_goals replace hf:=aB.mk hf
     all_goals (
      refine bZ follows Tryz.func39 (by unfold Tryz.f39;rfl) (by unfold Tryz.f39;simp) jX (by unfold Tryz.f39;simp) (by kernel_rfl) ?_;unfold Tryz.f39
      simp only [↓pre,simprocAttr,aA,sx,mA,jX,bne,aC,bQ,aJ,aK,aG,aH,aQ,f1,q1,Nat.one_ne_zero,Nat.zero_ne_one,↓hvc,↓hvo,sr]
      refine aM (h1) (by simp only [aA,aV, *]) ?_;simp only [↓pre,simprocAttr,aA,sx,mA,jX,bne,aC,bQ,aJ,aK,aG,aH,aQ,f1,q1,Nat.one_ne_zero,Nat.zero_ne_one,↓hvc,↓hvo,hW,sr];refine aM (h0) (by simp only [aA,aV, *]) ?_;simp only [↓pre,simprocAttr,aA,sx,mA,jX,bne,aC,bQ,aJ,aK,aG,aH,aQ,f1,q1,Nat.one_ne_zero,Nat.zero_ne_one,↓hvc,↓hvo,hW,sr];refine aM (hrd) (by simp only [aA,aV, *]) ?_;simp only [↓pre,simprocAttr,aA,sx,mA,jX,bne,aC,bQ,aJ,aK,aG,aH,aQ,f1,q1,Nat.one_ne_zero,Nat.zero_ne_one,↓hvc,↓hvo,hW,sr];refine aM (hpa) (by simp only [aA,aV, *]) ?_;simp only [↓pre,simprocAttr,aA,sx,mA,jX,bne,aC,bQ,aJ,aK,aG,aH,aQ,f1,q1,Nat.one_ne_zero,Nat.zero_ne_one,↓hvc,↓hvo,hW,sr]
      exact ⟨0,hf.out _⟩
     )
    ·rw [if_neg he] at hpa
     have hz:=hz he
     replace hz:=aB.mk hz
     replace hE:=aB.mk hE
     replace hcv:=aB.mk hcv
     generalize iP k r c w ps=CE at *
     unfold oJ aO at hpa
     refine bZ follows Tryz.func39 (by unfold Tryz.f39;rfl) (by unfold Tryz.f39;simp) jX (by unfold Tryz.f39;simp) (by kernel_rfl) ?_;unfold Tryz.f39
     simp only [↓pre,simprocAttr,aA,sx,mA,jX,bne,aC,bQ,aJ,aK,aG,aH,aQ,f1,q1,Nat.one_ne_zero,Nat.zero_ne_one,↓hvc,↓hvo,sr]
     refine aM (h1) (by simp only [aA,aV, *]) ?_;simp only [↓pre,simprocAttr,aA,sx,mA,jX,bne,aC,bQ,aJ,aK,aG,aH,aQ,f1,q1,Nat.one_ne_zero,Nat.zero_ne_one,↓hvc,↓hvo,hW,he,sr];refine aM (h0) (by simp only [aA,aV, *]) ?_;simp only [↓pre,simprocAttr,aA,sx,mA,jX,bne,aC,bQ,aJ,aK,aG,aH,aQ,f1,q1,Nat.one_ne_zero,Nat.zero_ne_one,↓hvc,↓hvo,hW,he,sr];refine aM (hrd) (by simp only [aA,aV, *]) ?_;simp only [↓pre,simprocAttr,aA,sx,mA,jX,bne,aC,bQ,aJ,aK,aG,aH,aQ,f1,q1,Nat.one_ne_zero,Nat.zero_ne_one,↓hvc,↓hvo,hW,he,sr];refine aM (hpa) (by simp only [aA,aV, *]) ?_;simp only [↓pre,simprocAttr,aA,sx,mA,jX,bne,aC,bQ,aJ,aK,aG,aH,aQ,f1,q1,Nat.one_ne_zero,Nat.zero_ne_one,↓hvc,↓hvo,hW,he,sr]
     exact ⟨0,hz.out _⟩
 ·have hE:iP k r c w ps=eK k r c w ps:=by unfold iP;rw [if_neg hc]
  have hz:=hz (by rw [hE];exact hc)
  rw [hE] at hz
  replace hz:=aB.mk hz
  replace hE:=aB.mk hE
  refine bZ follows Tryz.func39 (by unfold Tryz.f39;rfl) (by unfold Tryz.f39;simp) jX (by unfold Tryz.f39;simp) (by kernel_rfl) ?_;unfold Tryz.f39
  simp only [↓pre,simprocAttr,aA,sx,mA,jX,bne,aC,bQ,aJ,aK,aG,aH,aQ,f1,q1,Nat.one_ne_zero,Nat.zero_ne_one,↓hvc,↓hvo,sr]
  refine aM (h1) (by simp only [aA,aV, *]) ?_;simp only [↓pre,simprocAttr,aA,sx,mA,jX,bne,aC,bQ,aJ,aK,aG,aH,aQ,f1,q1,Nat.one_ne_zero,Nat.zero_ne_one,↓hvc,↓hvo,hc,sr]
  exact ⟨0,hz.out _⟩
theorem avE (k r c w:Int) (v:AV) (L:List (List UInt8)) (cells:List AV) (hv:gI v L cells):aX Tryz.prog 122 [d5 k r c w v] ⟨aD (kH k r c w L),[]⟩:=by
 have hp:=hv.rd.plain
 have hf:=cM hv.rd
 have ho:=b6 hv.rd
 have hd:=abe k r c w
 unfold kH d5
 cases hm:bU k r c w with
 | false =>
  rw [hm] at hd
  simp only [Bool.false_eq_true,if_false]
  refine bE follows Tryz.func122 (by unfold Tryz.f122;rfl) (by unfold Tryz.f122;simp) aE (by unfold Tryz.f122;simp) (by kernel_rfl) ?_;unfold Tryz.f122
  simp only [↓pre,simprocAttr,aA,sx,p7,aE,aC,hf,ho]
  refine aM (hd) (by rfl) ?_;simp only [↓pre,simprocAttr,aA,sx,p7,aE,aC,bB,dH,cW]
 | true =>
  rw [hm] at hd
  simp only [if_true]
  have hmn:=g7 hm
  have hb:=ahp hm
  have hn6:=uP k r c w hm
  have hs:=abg k r c w hm
  have w1:IntKind.i64.wrap ((k+r)*w)=(k+r)*w:=eD (by omega) (by omega)
  have w2:IntKind.i64.wrap ((k+r)*w*2)=(k+r)*w*2:=eD (by omega) (by omega)
  by_cases hl:(L.length:Int)=(k+r)*w*2
  ·generalize hres:(if sQ k r c w L=true then (0:Int) else 90)=E
   have hno:∀ b:List UInt8,b∈L→eS k r c b.length=false→E=90:=fun b hb h=>by
    rw [←hres,if_neg]
    intro h2
    unfold sQ at h2
    rw [Bool.and_eq_true,List.all_eq_true] at h2
    rw [h2.2 b hb] at h
    cases h
   have hyes:(∀ b∈L,eS k r c b.length=true)→E=0:=fun h=>by
    rw [←hres,if_pos]
    unfold sQ
    rw [decide_eq_true hl,Bool.true_and,List.all_eq_true]
    exact h
   have hln:∀ n:Nat,eS k r c n=(decide ((n:Int)=0) || decide ((n:Int)=d7 k r c)):=fun _=>rfl
   obtain ⟨N,hN⟩:∃ N:Nat,L.length=N:=⟨_,rfl⟩
   have hN2:N≤8192:=by omega
   replace hmn:=aB.mk hmn
   replace hb:=aB.mk hb
   replace hres:=aB.mk hres
   replace hno:=aB.mk hno
   replace hyes:=aB.mk hyes
   replace hN:=aB.mk hN
   have hN':=hN.out
   refine bE follows Tryz.func122 (by unfold Tryz.f122;rfl) (by unfold Tryz.f122;simp) aE (by unfold Tryz.f122;simp) (by kernel_rfl) ?_;unfold Tryz.f122
   simp only [↓pre,simprocAttr,aA,sx,p7,aE,aC,aI,hf,ho,hv.rd.len',w1,w2,sr]
   refine aM (hd) (by rfl) ?_;simp only [↓pre,simprocAttr,aA,sx,p7,aE,aC,aI,hf,ho,hv.rd.len',w1,w2,hl,sr];(refine cE (hn6) (by rfl) (by intro k;rfl) ?_);simp only [↓pre,simprocAttr,aA,sx,p7,aE,aC,aI,hf,ho,hv.rd.len',w1,w2,hl,sr]
   rw [b9]
   refine cA (fun q e m=>∃ i,q+i=N∧e 1 = .tptr 0 [aD k,aD r,aD c,aD w,v]∧e 3=aD (i:Nat)∧aB (∀ j b,j < i→L[j]? = some b→eS k r c b.length=true)) N ⟨0,by omega,rfl,rfl,⟨fun j b h=>by omega⟩⟩ ?_
   rintro q e m ⟨i,hq,e1,e3,hJ⟩
   replace hq:=aB.mk hq
   by_cases hlt:i < N
   ·have hlt':((i:Nat):Int) < (k+r)*w*2:=by omega
    have wi:=cI (n:=i) (by omega)
    obtain ⟨b,hbi⟩:∃ b,L[i]? = some b:=⟨_,List.getElem?_eq_getElem (by omega)⟩
    obtain ⟨a,x,ha,hra⟩:=hv.at_ i b hbi
    have hil:i < L.length:=by omega
    have fa:=cM hra
    have oa:=b6 hra
    have step:eS k r c b.length=true→∀ j b',j < i+1→L[j]? = some b'→eS k r c b'.length=true:=fun h j b' hj hb'=>by
     by_cases hji:j=i
     ·subst hji
      rw [hbi] at hb'
      cases hb'
      exact h
     ·exact hJ.out j b' (by omega) hb'
    replace step:=aB.mk step
    by_cases h1:(b.length:Int)=0
    ·simp only [↓pre,simprocAttr,aA,sx,p7,aE,aC,aI,hf,ho,hv.rd.len',w1,w2,e1,e3,hl,hlt',hv.rd.addr',hil,ha,oa,hra.len',h1,wi,sr]
     exact ⟨q - 1,by have:=hq.out;omega,i+1,by have:=hq.out;omega,rfl,⟨step.out (by rw [hln,decide_eq_true h1];rfl)⟩⟩
    ·by_cases h2:(b.length:Int)=d7 k r c
     ·have hz:¬ d7 k r c=0:=fun h=>h1 (h2.trans h)
      simp only [↓pre,simprocAttr,aA,sx,p7,aE,aC,aI,hf,ho,hv.rd.len',w1,w2,e1,e3,hl,hlt',hv.rd.addr',hil,ha,oa,hra.len',h2,hz,sr]
      (refine cE (hs) (by rfl) (by intro k;rfl) ?_);simp only [↓pre,simprocAttr,aA,sx,p7,aE,aC,aI,hf,ho,hv.rd.len',w1,w2,e1,e3,wi,sr]
      exact ⟨q - 1,by have:=hq.out;omega,i+1,by have:=hq.out;omega,rfl,⟨step.out (by rw [hln,decide_eq_true h2,Bool.or_true])⟩⟩
     ·have hE:=hno.out b (List.mem_of_getElem? hbi) (by rw [hln,decide_eq_false h1,decide_eq_false h2];rfl)
      subst hE
      simp only [↓pre,simprocAttr,aA,sx,p7,aE,aC,aI,hf,ho,hv.rd.len',w1,w2,e1,e3,hl,hlt',hv.rd.addr',hil,ha,oa,hra.len',h1,h2,sr]
      (refine cE (hs) (by rfl) (by intro k;rfl) ?_);simp only [↓pre,simprocAttr,aA,sx,p7,aE,aC,aI,hf,ho,hv.rd.len',w1,w2,e1,e3,h2,sr]
   ·have hlt':¬ ((i:Nat):Int) < (k+r)*w*2:=by omega
    have hE:=hyes.out fun b hb=>by
     obtain ⟨j,hj⟩:=List.getElem?_of_mem hb
     have:=(List.getElem?_eq_some_iff.1 hj).1
     exact hJ.out j b (by omega) hj
    subst hE
    simp only [↓pre,simprocAttr,aA,sx,p7,aE,aC,aI,hf,ho,hv.rd.len',w1,w2,e1,e3,hl,hlt',sr]
  ·have hB:sQ k r c w L=false:=by unfold sQ;rw [decide_eq_false hl];rfl
   rw [hB,if_neg (by decide)]
   replace hmn:=aB.mk hmn
   replace hb:=aB.mk hb
   refine bE follows Tryz.func122 (by unfold Tryz.f122;rfl) (by unfold Tryz.f122;simp) aE (by unfold Tryz.f122;simp) (by kernel_rfl) ?_;unfold Tryz.f122
   simp only [↓pre,simprocAttr,aA,sx,p7,aE,aC,aI,hf,ho,hv.rd.len',w1,w2,sr]
   refine aM (hd) (by rfl) ?_;simp only [↓pre,simprocAttr,aA,sx,p7,aE,aC,aI,hf,ho,hv.rd.len',w1,w2,hl,sr];(refine cE (hn6) (by rfl) (by intro k;rfl) ?_);simp only [↓pre,simprocAttr,aA,sx,p7,aE,aC,aI,hf,ho,hv.rd.len',w1,w2,hl,sr]
theorem avF (k r c w:Int) (hm:bU k r c w=true) (d ro s W:Nat) (hW:w=(W:Int)) (hd:((d:Nat):Int) < k+r) (hro:ro < W) (hs:s≤1):aX Tryz.prog 181 [aA k r c w,aD (d:Nat),aD (ro:Nat),aD (s:Nat)] ⟨aD (((d*W+ro)*2+s:Nat):Int),[]⟩:=by
 have hn:=uP k r c w hm
 have hmn:=g7 hm
 have hml:=jN.1 hm
 have hdW:d*W≤16*256:=Nat.mul_le_mul (by omega) (by omega)
 have k1:¬ ((d:Nat):Int) < 0:=by omega
 have k2:¬ k+r≤((d:Nat):Int):=by omega
 have k3:¬ ((ro:Nat):Int) < 0:=by omega
 have k4:¬ w≤((ro:Nat):Int):=by omega
 have k5:¬ ((s:Nat):Int) < 0:=by omega
 have k6:¬ (1:Int) < ((s:Nat):Int):=by omega
 have w1:IntKind.i64.wrap (((d:Nat):Int)*w)=((d*W:Nat):Int):=by rw [hW,show ((d:Nat):Int)*(W:Int)=((d*W:Nat):Int) by simp];exact dT (by omega)
 have w2:IntKind.i64.wrap (((d*W:Nat):Int)+((ro:Nat):Int))=((d*W+ro:Nat):Int):=by rw [show ((d*W:Nat):Int)+(ro:Int)=((d*W+ro:Nat):Int) by simp];exact dT (by omega)
 have w3:IntKind.i64.wrap (((d*W+ro:Nat):Int)*2)=(((d*W+ro)*2:Nat):Int):=by rw [show ((d*W+ro:Nat):Int)*2=(((d*W+ro)*2:Nat):Int) by simp];exact dT (by omega)
 have w4:IntKind.i64.wrap ((((d*W+ro)*2:Nat):Int)+((s:Nat):Int))=(((d*W+ro)*2+s:Nat):Int):=by rw [show ((((d*W+ro)*2:Nat):Int)+((s:Nat):Int))=(((d*W+ro)*2+s:Nat):Int) by simp];exact dT (by omega)
 replace hmn:=aB.mk hmn
 replace hml:=aB.mk hml
 replace hW:=aB.mk hW
 refine bE follows Tryz.func181 (by unfold Tryz.f181;rfl) (by unfold Tryz.f181;simp) aE (by unfold Tryz.f181;simp) (by kernel_rfl) ?_;unfold Tryz.f181
 simp only [↓pre,simprocAttr,aA,sx,alo,aE,aC,k1,k2,k3,k4,k5,k6,w1,w2,w3,w4,sr]
 refine aM (hn) (by rfl) ?_;simp only [↓pre,simprocAttr,aA,sx,alo,aE,aC,k1,k2,k3,k4,k5,k6,w1,w2,w3,w4,sr]
def qJ (cells:List AV) (W ro n:Nat):List AV:=(List.range n).flatMap fun i=>[cells.getD ((i*W+ro)*2) aO,cells.getD ((i*W+ro)*2+1) aO]
theorem ahC (cells:List AV) (W ro n:Nat):qJ cells W ro (n+1)=qJ cells W ro n++[cells.getD ((n*W+ro)*2) aO,cells.getD ((n*W+ro)*2+1) aO]:=by
 unfold qJ
 rw [List.range_succ,List.flatMap_append]
 rfl
theorem ahD (cells:List AV) (W ro:Nat):∀ n,(qJ cells W ro n).length=n*2
 | 0=>rfl
 | n+1=>by rw [ahC,List.length_append,ahD cells W ro n];simp;omega
theorem aot (cells:List AV) (W ro:Nat):∀ (n i:Nat),i < n→(qJ cells W ro n)[i*2]? = some (cells.getD ((i*W+ro)*2) aO)∧(qJ cells W ro n)[i*2+1]? = some (cells.getD ((i*W+ro)*2+1) aO)
 | n+1,i,h=>by
  have hl:=ahD cells W ro n
  rw [ahC]
  by_cases e:i < n
  ·obtain ⟨h1,h2⟩:=aot cells W ro n i e
   exact ⟨by rw [List.getElem?_append_left (by omega)];exact h1,by rw [List.getElem?_append_left (by omega)];exact h2⟩
  ·obtain rfl:i=n:=by omega
   exact ⟨by rw [List.getElem?_append_right (by omega),hl,Nat.sub_self];rfl,by rw [List.getElem?_append_right (by omega),hl,show i*2+1 - i*2=1 by omega];rfl⟩
theorem avG {k r c w row:Int} {L:List (List UInt8)} (hR:iM k r c w L row=0):bU k r c w=true∧(∃ W ro N:Nat,w=(W:Int)∧row=(ro:Int)∧k+r=(N:Int)∧ro < W∧eW k r w L row=sR L W ro N∧(k+r).toNat=N∧∀ i,i < N→(i*W+ro)*2+2≤L.length):=by
 have hI:kH k r c w L=0:=by
  unfold iM at hR
  split at hR
  ·assumption
  ·assumption
 obtain ⟨hm,hl,hlen⟩:=ahq hI
 have hmn:=g7 hm
 have hml:=jN.1 hm
 have hrow:0≤row∧row < w:=by
  unfold iM at hR
  rw [if_pos hI] at hR
  split at hR
  ·omega
  ·omega
 obtain ⟨N,hN⟩:∃ N:Nat,k+r=(N:Int):=⟨(k+r).toNat,by omega⟩
 obtain ⟨W,hW⟩:∃ W:Nat,w=(W:Int):=⟨w.toNat,by omega⟩
 obtain ⟨ro,hro⟩:∃ ro:Nat,row=(ro:Int):=⟨row.toNat,by omega⟩
 refine ⟨hm,W,ro,N,hW,hro,hN,by omega, ?_,by omega,fun i hi=>anK hW hN (row:=ro) (by omega) hi hl⟩
 unfold eW
 rw [show (k+r).toNat=N by omega,show w.toNat=W by omega,show row.toNat=ro by omega]
theorem abI {v:AV} {L:List (List UInt8)} {cells:List AV} (hv:gI v L cells) {j:Nat} (hj:j < L.length):∃ x,cells[j]? = some (cells.getD j aO)∧bC (cells.getD j aO) (L.getD j []).length (aT (L.getD j [])++x):=by
 have hb:L[j]? = some (L.getD j []):=by rw [List.getD_eq_getElem?_getD,List.getElem?_eq_getElem hj];rfl
 obtain ⟨a,x,ha,hr⟩:=hv.at_ _ _ hb
 have:cells.getD j aO=a:=by rw [List.getD_eq_getElem?_getD,ha];rfl
 rw [this]
 exact ⟨x,ha,hr⟩
theorem avH {v:AV} {L:List (List UInt8)} {cells:List AV} (hv:gI v L cells) {W ro N:Nat} (hix:∀ i,i < N→(i*W+ro)*2+2≤L.length):fR (bJ N (qJ cells W ro N)) (sR L W ro N) (qJ cells W ro N):=⟨by rw [acX];exact dX _ _,fun i p hp=>by
 have hi:i < N:=by have:=(List.getElem?_eq_some_iff.1 hp).1;rw [acX] at this;exact this
 rw [auy hi] at hp
 cases hp
 obtain ⟨h1,h2⟩:=aot cells W ro N i hi
 have:=hix i hi
 obtain ⟨x,_,hx⟩:=abI hv (j:=(i*W+ro)*2) (by omega)
 obtain ⟨y,_,hy⟩:=abI hv (j:=(i*W+ro)*2+1) (by omega)
 exact ⟨_,_,x,y,h1,h2,hx,hy⟩⟩
theorem aou (k r c w row:Int) (v:AV) (L:List (List UInt8)) (cells:List AV) (hv:gI v L cells) (hR:iM k r c w L row=0):∃ rv cs,aX Tryz.prog 102 [d5 k r c w v,aD row] ⟨rv,[]⟩∧fR rv (eW k r w L row) cs:=by
 obtain ⟨hm,W,ro,N,hW,hro,hN,hrW,hrl,_,hix⟩:=avG hR
 refine ⟨bJ N (qJ cells W ro N),qJ cells W ro N, ?_,by rw [hrl];exact avH hv hix⟩
 refine eA ?_
 have hp:=hv.rd.plain
 have hf:=cM hv.rd
 have ho:=b6 hv.rd
 have hn6:=uP k r c w hm
 have hmn:=g7 hm
 have hth:=fun i (hi:i < N)=>avF k r c w hm i ro 0 W hW (by omega) hrW (by omega)
 have hps:=ahC cells W ro
 have hpl:=ahD cells W ro
 have hid:∀ x∈qJ cells W ro N,fE x:=fun x hx=>by
  unfold qJ at hx
  obtain ⟨i,hi,hx⟩:=List.mem_flatMap.1 hx
  have:=hix i (List.mem_range.1 hi)
  obtain ⟨_,_,h1⟩:=abI hv (j:=(i*W+ro)*2) (by omega)
  obtain ⟨_,_,h2⟩:=abI hv (j:=(i*W+ro)*2+1) (by omega)
  simp only [List.mem_cons,List.not_mem_nil,or_false] at hx
  rcases hx with rfl | rfl
  ·exact kD h1
  ·exact kD h2
 have hp0:qJ cells W ro 0=[]:=rfl
 rw [hN] at hn6
 subst hro
 generalize hRP:qJ cells W ro=RP at *
 unfold d5
 replace hmn:=aB.mk hmn
 replace hix:=aB.mk hix
 replace hps:=aB.mk hps
 replace hpl:=aB.mk hpl
 replace hth:=aB.mk hth
 replace hN:=aB.mk hN
 replace hW:=aB.mk hW
 replace hrl:=aB.mk hrl
 replace hid:=aB.mk hid
 replace hRP:=aB.mk hRP
 refine bZ follows Tryz.func102 (by unfold Tryz.f102;rfl) (by unfold Tryz.f102;simp) aE (by unfold Tryz.f102;simp) (by kernel_rfl) ?_;unfold Tryz.f102
 simp only [↓pre,simprocAttr,aA,sx,y8,aE,aC,aI,aL,hf,ho,sr]
 rw [b9]
 refine cA (fun q e m=>∃ i lv,q+i=N∧e 1=aD (ro:Nat)∧e 2 = .tptr 0 [aD k,aD r,aD c,aD w,v]∧e 5=lv∧e 6=aD (i:Nat)∧aB (cO .var m 131 2 lv i (RP i))) N ⟨0,aO,by omega,rfl,rfl,rfl,rfl,⟨by rw [hp0];exact fB⟩⟩ ?_
 rintro q e m ⟨i,lv,hq,e1,e2,e5,e6,hJ⟩
 replace hq:=aB.mk hq
 by_cases hlt:i < N
 ·have hlt':((i:Nat):Int) < ((N:Nat):Int):=by omega
  have wi:=cI (n:=i) (by have:=hmn.out;have:=hN.out;omega)
  have hx:=hix.out i hlt
  have hT:=hth.out i hlt
  have hN16:N≤16:=by have:=hmn.out;have:=hN.out;omega
  have hWl:W≤256:=by have:=jN.1 hm;have:=hW.out;omega
  have hiW:i*W≤16*256:=Nat.mul_le_mul (by omega) hWl
  rw [Nat.add_zero] at hT
  have hps:=hps.out i
  obtain ⟨x0,ha0,ra0⟩:=abI hv (j:=(i*W+ro)*2) (by omega)
  obtain ⟨x1,ha1,ra1⟩:=abI hv (j:=(i*W+ro)*2+1) (by omega)
  have wp:IntKind.i64.wrap ((((i*W+ro)*2:Nat):Int)+1)=(((i*W+ro)*2+1:Nat):Int):=cI (by omega)
  have l0:(i*W+ro)*2 < L.length:=by omega
  have l1:(i*W+ro)*2+1 < L.length:=by omega
  generalize hat:(i*W+ro)*2=at_ at *
  generalize cells.getD at_ aO=T0 at *
  generalize cells.getD (at_+1) aO=T1 at *
  have o0:=b6 ra0
  have o1:=b6 ra1
  have k0:=uX ra0
  have k1:=uX ra1
  have c0:=uW ra0
  have c1:=uW ra1
  have hbt:∀ m,eY Tryz.prog m 24 1 [(0,.agg [T0,T1])]=some ⟨.tree 1 1 [T0,T1] true,m,none⟩:=fun m=>tI (el:=131) (sz:=2) (z:=[.val (.slice none 0 0),.val (.slice none 0 0)]) (by kernel_rfl) (by kernel_rfl) (by kernel_rfl) rfl (by simp [jG,aad ra0,aad ra1]) (by decide)
  simp only [aD] at hT
  replace hps:=aB.mk hps
  replace hat:=aB.mk hat
  replace hx:=aB.mk hx
  simp only [↓pre,simprocAttr,aA,sx,y8,aE,aC,aI,aL,hf,ho,e1,e2,e5,e6,hv.rd.addr',l0,l1,ha0,ha1,wp,o0,o1,↓k0,↓k1,↓c0,↓c1,hbt,Nat.zero_mul,Nat.one_mul,sr]
  refine aM (hn6) (by rfl) ?_;simp only [↓pre,simprocAttr,aA,sx,y8,aE,aC,aI,aL,hf,ho,e1,e2,e5,e6,hv.rd.addr',l0,l1,ha0,ha1,wp,o0,o1,↓k0,↓k1,↓c0,↓c1,hbt,Nat.zero_mul,Nat.one_mul,hlt',sr];refine aM (hT) (by rfl) ?_;simp only [↓pre,simprocAttr,aA,sx,y8,aE,aC,aI,aL,hf,ho,e1,e2,e5,e6,hv.rd.addr',l0,l1,ha0,ha1,wp,o0,o1,↓k0,↓k1,↓c0,↓c1,hbt,Nat.zero_mul,Nat.one_mul,hlt',sr]
  refine oT (sz:=2) (y:=48) (zl:=[.slice none 0 0,.slice none 0 0]) (by kernel_rfl) hJ.out (by kernel_rfl) (by kernel_rfl) (by kernel_rfl) rfl acg rfl (by omega) (by omega) ?_
  intro lv' m' ho' hn'
  refine dJ (by kernel_rfl) ?_
  simp only [↓pre,simprocAttr,aA,sx,y8,aE,aC,aI,aL,hf,ho,e1,e2,e6,wi,sr]
  refine ⟨q - 1,by have:=hq.out;omega,i+1,lv',by have:=hq.out;omega,rfl,rfl,⟨?_⟩⟩
  rw [hps.out]
  exact ho'
 ·have hlt':¬ ((i:Nat):Int) < ((N:Nat):Int):=by omega
  have hi:i=N:=by have:=hq.out;omega
  subst hi
  have hfin:=fun k=>aeG hJ.out hid.out k
  replace hfin:=aB.mk hfin
  simp only [↓pre,simprocAttr,aA,sx,y8,aE,aC,aI,aL,hf,ho,e1,e2,e5,e6,sr]
  refine aM (hn6) (by rfl) ?_;simp only [↓pre,simprocAttr,aA,sx,y8,aE,aC,aI,aL,hf,ho,e1,e2,e5,e6,hlt',sr]
  exact ⟨1,hfin.out _⟩
theorem avI (k r c w row:Int) (v:AV) (L:List (List UInt8)) (cells:List AV) (hv:gI v L cells):aX Tryz.prog 101 [d5 k r c w v,aD row] ⟨aD (iM k r c w L row),[]⟩:=by
 have hp:=hv.rd.plain
 have hf:=cM hv.rd
 have ho:=b6 hv.rd
 have hck:=avE k r c w v L cells hv
 unfold iM
 unfold d5 at hck ⊢
 by_cases hE:kH k r c w L=0
 ·rw [hE] at hck ⊢
  rw [if_pos rfl]
  clear hE
  by_cases h1:row < 0
  ·rw [if_pos (Or.inl h1)]
   refine bE follows Tryz.func101 (by unfold Tryz.f101;rfl) (by unfold Tryz.f101;simp) aE (by unfold Tryz.f101;simp) (by kernel_rfl) ?_;unfold Tryz.f101
   simp only [↓pre,simprocAttr,aA,sx,xM,aE,aC,hf,ho,sr]
   refine aM (hck) (by simp only [aA,aV, *]) ?_;simp only [↓pre,simprocAttr,aA,sx,xM,aE,aC,hf,ho,h1,sr]
  ·by_cases h2:w≤row
   ·rw [if_pos (Or.inr h2)]
    refine bE follows Tryz.func101 (by unfold Tryz.f101;rfl) (by unfold Tryz.f101;simp) aE (by unfold Tryz.f101;simp) (by kernel_rfl) ?_;unfold Tryz.f101
    simp only [↓pre,simprocAttr,aA,sx,xM,aE,aC,hf,ho,sr]
    refine aM (hck) (by simp only [aA,aV, *]) ?_;simp only [↓pre,simprocAttr,aA,sx,xM,aE,aC,hf,ho,h1,h2,sr]
   ·rw [if_neg (by omega)]
    refine bE follows Tryz.func101 (by unfold Tryz.f101;rfl) (by unfold Tryz.f101;simp) aE (by unfold Tryz.f101;simp) (by kernel_rfl) ?_;unfold Tryz.f101
    simp only [↓pre,simprocAttr,aA,sx,xM,aE,aC,hf,ho,sr]
    refine aM (hck) (by simp only [aA,aV, *]) ?_;simp only [↓pre,simprocAttr,aA,sx,xM,aE,aC,hf,ho,h1,h2,sr]
 ·rw [if_neg hE]
  refine bE follows Tryz.func101 (by unfold Tryz.f101;rfl) (by unfold Tryz.f101;simp) aE (by unfold Tryz.f101;simp) (by kernel_rfl) ?_;unfold Tryz.f101
  simp only [↓pre,simprocAttr,aA,sx,xM,aE,aC,hf,ho,sr]
  refine aM (hck) (by simp only [aA,aV, *]) ?_;simp only [↓pre,simprocAttr,aA,sx,xM,aE,aC,hf,ho,hE,sr]
def t6 (d0 d1 d2 ve lv sv:AV):AV := .agg [d0,d1,d2,ve,lv,sv]
def aag:AV:=t6 (aD 0) (aD 0) aO (aD 0) aO aO
def yH (k r c w:Int) (L:List (List UInt8)) (row:Int):AV:=if gM k r c w L row=0 then .tup [t6 (aD (dK (dU k r c w L row))) (aD (dQ (dU k r c w L row))) (sW (cS (dU k r c w L row))) (aD (eV k r c w (eW k r w L row))) (sW (g9 k r c w L row)) (sW (hU k r c w L row)),aD 0] else .tup [aag,aD (gM k r c w L row)]
theorem abJ {a b c d e f:AV} {n:Int} (ha:fE a) (hb:fE b) (hc:fE c) (hd:fE d) (he:fE e) (hf:fE f):fE (.tup [.agg [a,b,c,d,e,f],.val (.int .i64 n)]):=iI (wH fun x hx=>by
 simp only [List.mem_cons,List.not_mem_nil,or_false] at hx
 rcases hx with rfl | rfl | rfl | rfl | rfl | rfl <;> assumption) (b8 _)
theorem avJ {a b d lv c LT:AV} {w n:Int} {m:aF} (ha:fE a) (hb:fE b) (hc:fE c) (hl:fzT 1 m lv=some LT):fzT 1 m (.tup [.agg [a,b,c,.val (.int .i64 w),c,lv],.val (.int .i64 n)])=some (.tup [.agg [a,b,c,.val (.int .i64 w),c,LT],.val (.int .i64 n)]):=by
 rw [j6,dY,aaO,dY,ha,Option.bind_some,dY,hb,Option.bind_some,dY,hc,Option.bind_some,dY,fZ,Option.bind_some,dY,hc,Option.bind_some,dY,hl,i7]
 simp [dY,i7,fZ]
def gN:Nat→Bool:=fun d=>d != 4 && d != 6 && d != 9 && d != 64 && d != 71
set_option maxHeartbeats 2000000 in
theorem avK (k r c w row:Int) (v:AV) (L:List (List UInt8)) (cells:List AV) (hv:gI v L cells) (hR:iM k r c w L row=0):aX Tryz.prog 107 [d5 k r c w v,aD row] ⟨yH k r c w L row,[]⟩:=by
 refine eA ?_
 have hp:=hv.rd.plain
 have hf:=cM hv.rd
 have ho:=b6 hv.rd
 obtain ⟨hrb,hm⟩:=yB hR
 have hE:kH k r c w L=0:=by
  unfold iM at hR
  split at hR
  ·assumption
  ·assumption
 obtain ⟨RV,rcs,hrw,hrv⟩:=aou k r c w row v L cells hv hR
 have hcr:=avD k r c w _ _ _ hrv
 have hpr:=hrv.rd.plain
 have hsr:=cQ hrv.rd
 unfold yH gM
 rw [if_pos hR]
 unfold g9 hU dU sW
 generalize eW k r w L row=ps at *
 unfold abD at hcr
 unfold d5 at hrw ⊢
 by_cases hC:iP k r c w ps=0
 ·rw [if_pos hC] at hcr ⊢
  have hD:=abH hC
  obtain ⟨hl0,hl1,hdep,hll,hlr⟩:=wM hD
  obtain ⟨hoE,hdF,hlc⟩:=anZ hD
  have hRr:=dX (cS (fV k r c w ps)).length (bI (cS (fV k r c w ps)))
  have hw:=gZ hm
  have hdb:=vX hw.1 hw.2
  have hob:=aej k r c w (dK (fV k r c w ps)) hm hl0 (ae1 hoE).2.2
  have hsO:oS k r c w (dK (fV k r c w ps))=sI k c (dK (fV k r c w ps)):=by unfold oS;rw [if_pos hoE]
  have hl6:=aeh k r c w hm
  unfold rA at hcr
  generalize eV k r c w ps=W at *
  generalize dQ (fV k r c w ps)=PD at *
  generalize dK (fV k r c w ps)=PL at *
  generalize cS (fV k r c w ps)=PR at *
  have hfR:=cM hRr
  have hoL:=b6 hRr
  have hsL:=cQ hRr
  have hcL:=uW hRr
  have hkL:=uX hRr
  by_cases hd0:PD=0
  ·rw [if_pos hd0,if_pos rfl,if_pos hd0,if_pos hd0]
   rw [hd0] at hcr ⊢
   replace hd0:=aB.mk hd0
   have hfin:=fun m=>abJ (a:=aD PL) (b:=aD 0) (c:=bJ PR.length (bI PR)) (d:=aD W) (e:=aO) (f:=bJ PR.length (bI PR)) (n:=0) (b8 _) (b8 _) (kD hRr) (b8 _) (b8 _) (kD hRr) 1 m
   replace hfin:=aB.mk hfin
   generalize bJ PR.length (bI PR)=RT at *
   simp only [aD] at hcr hrw
   replace hD:=aB.mk hD
   replace hlr:=aB.mk hlr
   replace hdF:=aB.mk hdF
   replace hlc:=aB.mk hlc
   replace hrv:=aB.mk hrv
   replace hw:=aB.mk hw
   replace hdb:=aB.mk hdb
   replace hR:=aB.mk hR
   replace hsO:=aB.mk hsO
   replace hC:=aB.mk hC
   refine bZ follows Tryz.func107 (by unfold Tryz.f107;rfl) (by unfold Tryz.f107;simp) gN (by unfold Tryz.f107;simp) (by kernel_rfl) ?_;unfold Tryz.f107
   simp only [↓pre,simprocAttr,aA,sx,gY,b7,gN,bne,aC,aJ,aK,aG,aH,aZ,aW,aQ,Nat.one_ne_zero,Nat.zero_ne_one,Nat.reduceEqDiff,hf,ho,aO,sr]
   (refine cE (hrw) (by simp only [aA,aV, *]) (by intro k;simp only [sq,sr, *]) ?_);simp only [↓pre,simprocAttr,aA,sx,gY,b7,gN,bne,aC,aJ,aK,aG,aH,aZ,aW,aQ,Nat.one_ne_zero,Nat.zero_ne_one,Nat.reduceEqDiff,hf,ho,aO,hsr,hsL,hoL,hfR,↓hcL,↓hkL,sr];(refine cE (hcr) (by simp only [aA,aV, *]) (by intro k;simp only [sq,sr, *]) ?_);simp only [↓pre,simprocAttr,aA,sx,gY,b7,gN,bne,aC,aJ,aK,aG,aH,aZ,aW,aQ,Nat.one_ne_zero,Nat.zero_ne_one,Nat.reduceEqDiff,hf,ho,aO,hsr,hsL,hoL,hfR,↓hcL,↓hkL,sr]
   refine nT (by kernel_rfl) ?_
   simp only [↓pre,simprocAttr,aA,sx,gY,b7,gN,bne,aC,aJ,aK,aG,aH,aZ,aW,aQ,Nat.one_ne_zero,Nat.zero_ne_one,Nat.reduceEqDiff,hf,ho,aO,hsr,hsL,hoL,hfR,↓hcL,↓hkL,sr]
   refine dJ (by kernel_rfl) ?_
   simp only [↓pre,simprocAttr,aA,sx,gY,b7,gN,bne,aC,aJ,aK,aG,aH,aZ,aW,aQ,Nat.one_ne_zero,Nat.zero_ne_one,Nat.reduceEqDiff,hf,ho,aO,hsr,hsL,hoL,hfR,↓hcL,↓hkL,sr]
   exact ⟨1,hfin.out _⟩
  ·rw [if_neg hd0,if_neg hd0,if_neg hd0]
   have hPD:PD=1:=by omega
   rw [if_neg hd0] at hlc
   have hos:0≤oS k r c w PL∧oS k r c w PL≤40000:=by
    have:=acF (a:=PL) (b:=wI k c) hl0 hl1 (by unfold wI;omega) (by unfold wI;omega)
    rw [hsO]
    unfold sI
    omega
   have hlb:=tN hw.1 hw.2
   have hlfb:5≤lI k c∧lI k c≤128:=hlb
   have hPRl:PR.length≤126:=by unfold dI at hll;omega
   have hwc:((k.toNat*c.toNat:Nat):Int)=wI k c:=by unfold wI;have:=jN.1 hm;rw [Int.natCast_mul,Int.toNat_of_nonneg (by omega),Int.toNat_of_nonneg (by omega)]
   have hlea:∀ (i:Nat) (x:bP),PR[i]? = some x→∃ rv cs,aX Tryz.prog 102 [d5 k r c w v,aD x.1] ⟨rv,[]⟩∧fR rv (eW k r w L x.1) cs∧aX Tryz.prog 116 [aA k r c w,rv,.val (.int .u8 1),aD x.2] ⟨wL k r c w (eW k r w L x.1) 1 x.2,[]⟩:=fun i x hx=>by
    have h1:=hlr x (List.mem_of_getElem? hx)
    have hR0:=anO (k:=k) (r:=r) (c:=c) hE h1.1
    obtain ⟨rv,cs,g1,g2⟩:=aou k r c w x.1 v L cells hv hR0
    exact ⟨rv,cs,g1,g2,aom k r c w 1 x.2 rv _ cs g2 hm (yB hR0).1⟩
   have hrefs:=fun (x:bP) n=>avC k r c w hm (bJ (k.toNat*c.toNat) (aT (uZ k r c w L x))) (uZ k r c w L x) [] (ahn _ _ (aaa _ _ _ _ _ _ _ _)) (by unfold uZ;rw [aaa];exact hwc) n
   have hdr:=fun (x:bP)=>dX (k.toNat*c.toNat) (aT (uZ k r c w L x))
   unfold wL at hlea
   have hcells:=fun i x hi=>qX PR [] i x hi
   rw [List.append_nil] at hcells
   unfold d5 at hlea
   have hlenRT:=fun t ht=>hRr.len' (P:=Tryz.prog) (t:=t) ht
   have haddRT:=fun t j ht=>hRr.addr' (P:=Tryz.prog) (t:=t) (k:=j) ht
   generalize hRT:bJ PR.length (bI PR)=RT at *
   generalize hEE:sV k r c w L PR (oS k r c w PL)=EE at *
   generalize hRR:pC k r c w L PR (oS k r c w PL)=RR at *
   rw [←hsO] at hob
   generalize oS k r c w PL=OS at *
   generalize hLI:lI k c=LI at *
   simp only [aD] at hcr hrw
   have hid:=kD hRr
   generalize hRES:(if EE=0 then AV.tup [t6 (aD PL) (aD PD) RT (aD W) RT (bJ RR.length (bI RR)),aD 0] else AV.tup [aag,aD EE])=RES
   replace hRES:=aB.mk hRES
   replace hPD:=aB.mk hPD
   replace hEE:=aB.mk hEE
   replace hRR:=aB.mk hRR
   replace hRT:=aB.mk hRT
   replace hLI:=aB.mk hLI
   replace hos:=aB.mk hos
   replace hlr:=aB.mk hlr
   replace hlea:=aB.mk hlea
   replace hrefs:=aB.mk hrefs
   replace hdr:=aB.mk hdr
   replace hcells:=aB.mk hcells
   replace hdF:=aB.mk hdF
   replace hlc:=aB.mk hlc
   replace hrv:=aB.mk hrv
   replace hlfb:=aB.mk hlfb
   replace hlb:=aB.mk hlb
   replace hw:=aB.mk hw
   replace hdb:=aB.mk hdb
   replace hD:=aB.mk hD
   replace hR:=aB.mk hR
   replace hC:=aB.mk hC
   replace hsO:=aB.mk hsO
   replace hwc:=aB.mk hwc
   replace hid:=aB.mk hid
   replace hl0:=aB.mk hl0
   replace hl1:=aB.mk hl1
   replace hPRl:=aB.mk hPRl
   refine bZ follows Tryz.func107 (by unfold Tryz.f107;rfl) (by unfold Tryz.f107;simp) gN (by unfold Tryz.f107;simp) (by kernel_rfl) ?_;unfold Tryz.f107
   simp only [↓pre,simprocAttr,aA,sx,gY,b7,gN,bne,aC,aJ,aK,aG,aH,aZ,aW,aQ,Nat.one_ne_zero,Nat.zero_ne_one,Nat.reduceEqDiff,hf,ho,aO,sr]
   (refine cE (hrw) (by simp only [aA,aV, *]) (by intro k;simp only [sq,sr, *]) ?_);simp only [↓pre,simprocAttr,aA,sx,gY,b7,gN,bne,aC,aJ,aK,aG,aH,aZ,aW,aQ,Nat.one_ne_zero,Nat.zero_ne_one,Nat.reduceEqDiff,hf,ho,aO,hsr,hsL,hoL,hfR,↓hcL,↓hkL,sr];(refine cE (hcr) (by simp only [aA,aV, *]) (by intro k;simp only [sq,sr, *]) ?_);simp only [↓pre,simprocAttr,aA,sx,gY,b7,gN,bne,aC,aJ,aK,aG,aH,aZ,aW,aQ,Nat.one_ne_zero,Nat.zero_ne_one,Nat.reduceEqDiff,hf,ho,aO,hsr,hsL,hoL,hfR,↓hcL,↓hkL,sr]
   refine nT (by kernel_rfl) ?_
   simp only [↓pre,simprocAttr,aA,sx,gY,b7,gN,bne,aC,aJ,aK,aG,aH,aZ,aW,aQ,Nat.one_ne_zero,Nat.zero_ne_one,Nat.reduceEqDiff,hf,ho,aO,hsr,hsL,hoL,hfR,↓hcL,↓hkL,sr]
   refine dJ (by kernel_rfl) ?_
   simp only [↓pre,simprocAttr,aA,sx,gY,b7,gN,bne,aC,aJ,aK,aG,aH,aZ,aW,aQ,Nat.one_ne_zero,Nat.zero_ne_one,Nat.reduceEqDiff,hf,ho,aO,hsr,hsL,hoL,hfR,↓hcL,↓hkL,hd0,sr]
   refine aM (hob) (by rfl) ?_;simp only [↓pre,simprocAttr,aA,sx,gY,b7,gN,bne,aC,aJ,aK,aG,aH,aZ,aW,aQ,Nat.one_ne_zero,Nat.zero_ne_one,Nat.reduceEqDiff,hf,ho,aO,hsr,hsL,hoL,hfR,↓hcL,↓hkL,sr]
   rw [b9]
   refine cA (fun q e m=>∃ i left acc lv,q+i=PR.length∧e 2 = .tptr 0 [aD k,aD r,aD c,aD w,v]∧e 4 = .ptr 0 0∧e 6 = .ptr 1 0∧e 9 = .ptr 2 0∧e 10=aD left∧e 12=aD (i:Nat)∧aB ((0≤left∧left≤40000)∧m.at_ 0=some ⟨[aD 0,aD 0,aO,aD 0,aO,aO],92,.var,true⟩∧m.at_ 1=some ⟨[aD PL,aD PD,RT],33,.var,true⟩∧m.at_ 2=some ⟨[aD PL,aD PD,RT,aD W,RT,lv],92,.var,true⟩∧2 < m.next∧cY m 67 2 lv acc.length (bI acc)∧(∀ j,cF lv=some j→2 < j)∧sV k r c w L (PR.drop i) left=EE∧acc++pC k r c w L (PR.drop i) left=RR∧acc.length≤i*128)) PR.length ⟨0,OS,[],aO,by omega,rfl,rfl,rfl,rfl,rfl,rfl,⟨hos.out,rfl,rfl,rfl,by simp [aZ,aW,aQ],fB,fun j h=>by simp [cF,aO] at h,hEE.out,hRR.out,by simp⟩⟩ ?_
   rintro q e m ⟨i,left,acc,lv,hq,e2,e4,e6,e9,e10,e12,hJ⟩
   replace hq:=aB.mk hq
   obtain ⟨hleft,b0,b1,b2,hnx,hown,hblk,hLE,hLR,hacc⟩:=hJ.out
   clear hJ
   have g0:¬ (0=m.next):=by omega
   have g1:¬ (1=m.next):=by omega
   have g2:¬ (2=m.next):=by omega
   have hok0:=hown.ok
   have hon0:=hown.one
   have hce0:=hown.cells
   by_cases hlt:i < PR.length
   ·have hlt':((i:Nat):Int) < ((PR.length:Nat):Int):=by omega
    have wi:=cI (n:=i) (by have:=hPRl.out;omega)
    obtain ⟨x,hx⟩:∃ x,PR[i]? = some x:=⟨_,List.getElem?_eq_getElem hlt⟩
    obtain ⟨ha,hb⟩:=hcells.out i x hx
    have hdrop:PR.drop i=x::PR.drop (i+1):=by
     rw [List.drop_eq_getElem_cons hlt]
     congr 1
     rw [List.getElem?_eq_getElem hlt] at hx
     exact Option.some.inj hx
    obtain ⟨rv,rcs2,hrow2,hrv2,hdat⟩:=hlea.out i x hx
    have pr2:=hrv2.rd.plain
    have sr2:=cQ hrv2.rd
    have hdrx:=hdr.out x
    have hrf:=hrefs.out x (min left LI)
    rw [hdrop] at hLE hLR
    simp only [sV,pC,hLI.out] at hLE hLR
    have hlL:=aht k r c w L x (min left LI)
    have hok:=ahu (k:=k) (r:=r) (c:=c) (w:=w) (L:=L) (x:=x) (n:=min left LI)
    have hlE:sU k r c w L x (min left LI)=if jU k r c w (eW k r w L x.1) 1 x.2 < k.toNat then 5 else rE k c w (uZ k r c w L x) (min left LI):=rfl
    have hLD:nK k r c w (eW k r w L x.1) 1 x.2 k.toNat=uZ k r c w L x:=rfl
    rw [hLD] at hdat
    have hbad:∀ E,sU k r c w L x (min left LI)=E→E≠0→RES = .tup [aag,aD E]:=fun E h0 h1=>by
     rw [←hRES.out,←hLE,h0,if_neg h1,if_neg h1]
    have hf0:=fun (n:Int) m=>abJ (a:=aD 0) (b:=aD 0) (c:=aO) (d:=aD 0) (e:=aO) (f:=aO) (n:=n) (b8 _) (b8 _) (b8 _) (b8 _) (b8 _) (b8 _) 1 m
    have w2x:x.2=x.2:=rfl
    simp only [aD] at hrow2 hdat ha hb
    replace hdrop:=aB.mk hdrop
    replace hx:=aB.mk hx
    replace hbad:=aB.mk hbad
    replace hf0:=aB.mk hf0
    replace hrv2:=aB.mk hrv2
    replace hok:=aB.mk hok
    clear w2x hLD
    by_cases hmn:jU k r c w (eW k r w L x.1) 1 x.2 < k.toNat
    ·rw [if_pos hmn] at hdat hlE
     have hres:=hbad.out 5 hlE (by decide)
     replace hmn:=aB.mk hmn
     replace hlE:=aB.mk hlE
     replace hLE:=aB.mk hLE
     replace hLR:=aB.mk hLR
     replace hown:=aB.mk hown
     replace hlL:=aB.mk hlL
     subst hres
     unfold aO at hdat
     simp only [↓pre,simprocAttr,aA,sx,gY,b7,gN,bne,aC,aJ,aK,aG,aH,aZ,aW,aQ,Nat.one_ne_zero,Nat.zero_ne_one,Nat.reduceEqDiff,hf,ho,aO,e2,e4,e6,e9,e10,e12,b0,b1,b2,g0,g1,g2,hoL,↓hcL,↓hkL,hok0,hon0,hce0,hlenRT,hlt',hlt,haddRT,ha,hb,sr]
     (refine cE (hrow2) (by simp only [aA,aV, *]) (by intro k;simp only [sq,sr, *]) ?_);simp only [↓pre,simprocAttr,aA,sx,gY,b7,gN,bne,aC,aJ,aK,aG,aH,aZ,aW,aQ,Nat.one_ne_zero,Nat.zero_ne_one,Nat.reduceEqDiff,hf,ho,aO,e2,e4,e6,e9,e10,e12,b0,b1,b2,g0,g1,g2,hoL,↓hcL,↓hkL,hok0,hon0,hce0,sr2,hlenRT,hlt,haddRT,ha,hb,sr];(refine cE (hdat) (by simp only [aA,aV, *]) (by intro k;rfl) ?_);simp only [↓pre,simprocAttr,aA,sx,gY,b7,gN,bne,aC,aJ,aK,aG,aH,aZ,aW,aQ,Nat.one_ne_zero,Nat.zero_ne_one,Nat.reduceEqDiff,hf,ho,aO,e2,e4,e6,e9,e10,e12,b0,b1,b2,g0,g1,g2,hoL,↓hcL,↓hkL,hok0,hon0,hce0,sr2,hlenRT,hlt,haddRT,ha,hb,sr]
     exact ⟨1,hf0.out _ _⟩
    ·rw [if_neg hmn] at hdat hlE
     generalize hLDg:uZ k r c w L x=LD at *
     have pd:=hdrx.plain
     have sd:=cQ hdrx
     generalize bJ (k.toNat*c.toNat) (aT LD)=DT at *
     unfold abG at hrf
     by_cases hE0:rE k c w LD (min left LI)=0
     ·rw [if_pos hE0] at hrf
      rw [hE0] at hlE
      obtain ⟨hn1,hn2⟩:=hok.out hlE
      have hLR2:dP LD (min left LI).toNat=yC k r c w L x (min left LI):=by unfold yC;rw [hLDg]
      rw [if_pos hlE] at hLE
      obtain ⟨N,hN⟩:∃ N:Nat,min left LI=(N:Int):=⟨(min left LI).toNat,by omega⟩
      rw [hLR2] at hrf
      rw [hN] at hLE hrf hLR hlL hn1 hn2
      rw [Int.toNat_natCast] at hrf hlL
      generalize yC k r c w L x ↑N=LR at *
      have hTr:=dX N (bI LR)
      have sT:=cQ hTr
      have hsrc:=fun m=>hTr.src (P:=Tryz.prog) (m:=m) (el:=67) (sz:=2) (by rw [lW];omega)
      rw [show (bI LR).take (N*2)=bI LR from List.take_of_length_le (by rw [lW];omega)] at hsrc
      generalize bJ N (bI LR)=TR at *
      have hNl:N≤128:=by have:=hlfb.out;have:=hLI.out;omega
      have wl:IntKind.i64.wrap (left - (N:Int))=left - (N:Int):=eD (by omega) (by omega)
      have hPR2:=hPRl.out
      simp only [aD] at hrf
      replace hlL:=aB.mk hlL
      replace hLE:=aB.mk hLE
      replace hLR:=aB.mk hLR
      replace hLR2:=aB.mk hLR2
      replace hacc:=aB.mk hacc
      replace hTr:=aB.mk hTr
      replace hsrc:=aB.mk hsrc
      replace hE0:=aB.mk hE0
      replace hlE:=aB.mk hlE
      replace hown:=aB.mk hown
      replace hblk:=aB.mk hblk
      replace hmn:=aB.mk hmn
      replace hLDg:=aB.mk hLDg
      simp only [↓pre,simprocAttr,aA,sx,gY,b7,gN,bne,aC,aJ,aK,aG,aH,aZ,aW,aQ,Nat.one_ne_zero,Nat.zero_ne_one,Nat.reduceEqDiff,hf,ho,aO,e2,e4,e6,e9,e10,e12,b0,b1,b2,g0,g1,g2,hoL,↓hcL,↓hkL,hok0,hon0,hce0,hlenRT,hlt',hlt,haddRT,ha,hb,sr]
      (refine cE (hrow2) (by simp only [aA,aV, *]) (by intro k;simp only [sq,sr, *]) ?_);simp only [↓pre,simprocAttr,aA,sx,gY,b7,gN,bne,aC,aJ,aK,aG,aH,aZ,aW,aQ,Nat.one_ne_zero,Nat.zero_ne_one,Nat.reduceEqDiff,hf,ho,aO,e2,e4,e6,e9,e10,e12,b0,b1,b2,g0,g1,g2,hoL,↓hcL,↓hkL,hok0,hon0,hce0,sr2,sd,sT,aL,hN,hlenRT,hlt,haddRT,ha,hb,sr];(refine cE (hdat) (by simp only [aA,aV, *]) (by intro k;simp only [sq,sr, *]) ?_);simp only [↓pre,simprocAttr,aA,sx,gY,b7,gN,bne,aC,aJ,aK,aG,aH,aZ,aW,aQ,Nat.one_ne_zero,Nat.zero_ne_one,Nat.reduceEqDiff,hf,ho,aO,e2,e4,e6,e9,e10,e12,b0,b1,b2,g0,g1,g2,hoL,↓hcL,↓hkL,hok0,hon0,hce0,sr2,sd,sT,aL,hN,hlenRT,hlt,haddRT,ha,hb,sr];refine aM (hl6) (by rfl) ?_;simp only [↓pre,simprocAttr,aA,sx,gY,b7,gN,bne,aC,aJ,aK,aG,aH,aZ,aW,aQ,Nat.one_ne_zero,Nat.zero_ne_one,Nat.reduceEqDiff,hf,ho,aO,e2,e4,e6,e9,e10,e12,b0,b1,b2,g0,g1,g2,hoL,↓hcL,↓hkL,hok0,hon0,hce0,sr2,sd,sT,aL,hN,hlenRT,hlt,haddRT,ha,hb,sr];refine aM (hrf) (by simp only [aA,aV, *]) ?_;simp only [↓pre,simprocAttr,aA,sx,gY,b7,gN,bne,aC,aJ,aK,aG,aH,aZ,aW,aQ,Nat.one_ne_zero,Nat.zero_ne_one,Nat.reduceEqDiff,hf,ho,aO,e2,e4,e6,e9,e10,e12,b0,b1,b2,g0,g1,g2,hoL,↓hcL,↓hkL,hok0,hon0,hce0,sr2,sd,sT,aL,hN,hlenRT,hlt,haddRT,ha,hb,sr]
      have hacc2:=hacc.out
      refine uF (kd := .flat) (sz:=2) (y:=16) (zl:=[.int .i64 0,.int .i64 0]) (by kernel_rfl) hown.out (by kernel_rfl) (by kernel_rfl) (by kernel_rfl) rfl (hsrc.out m) (by rw [lW];have:=hlL.out;omega) (by omega) (by omega) fun lv' m4 ho' hn' hkp hbk _ => ?_
      have hnb:∀ j,j≤2→cF lv≠some j:=fun j h1 h2=>by have:=hblk.out j h2;omega
      have d0:=hkp 0 _ b0 (by omega) (hnb 0 (by omega))
      have d1:=hkp 1 _ b1 (by omega) (hnb 1 (by omega))
      have d2:=hkp 2 _ b2 (by omega) (hnb 2 (by omega))
      have hbk':∀ j,cF lv'=some j→2 < j:=fun j hj=>by
       rcases hbk j hj with h | h
       ·omega
       ·exact hblk.out j h
      have ok1:=ho'.ok
      have ok2:=ho'.one
      have ok3:=ho'.cells
      replace hkp:=aB.mk hkp
      replace hbk:=aB.mk hbk
      replace hbk':=aB.mk hbk'
      replace hnb:=aB.mk hnb
      replace ho':=aB.mk ho'
      replace hacc2:=aB.mk hacc2
      simp only [↓pre,simprocAttr,aA,sx,gY,b7,gN,bne,aC,aJ,aK,aG,aH,aZ,aW,aQ,Nat.one_ne_zero,Nat.zero_ne_one,Nat.reduceEqDiff,hf,ho,aO,e2,e4,e6,e9,e10,e12,d2,ok1,ok2,ok3,wl,wi,sr]
      refine ⟨q - 1,by have:=hq.out;omega,i+1,left - N,acc++LR,lv',by have:=hq.out;omega,rfl,rfl,⟨⟨by omega,by omega⟩, ?_, ?_, ?_,by omega, ?_,hbk'.out,hLE.out,by rw [List.append_assoc];exact hLR.out,by rw [List.length_append];have:=hlL.out;have:=hacc2.out;omega⟩⟩
      ·exact d0
      ·exact d1
      ·rfl
      ·rw [acT,List.length_append,hlL.out]
       exact ho'.out.keep (by rw [aZ];exact Nat.le_refl _) fun j kk hj hk=>by
        have:=hbk'.out j hj
        rw [aG,if_neg (by omega)]
        exact hk
     ·rw [if_neg hE0] at hrf
      have hres:=hbad.out _ hlE hE0
      generalize rE k c w LD (min left LI)=E at *
      replace hmn:=aB.mk hmn
      replace hlE:=aB.mk hlE
      replace hLE:=aB.mk hLE
      replace hLR:=aB.mk hLR
      replace hown:=aB.mk hown
      replace hlL:=aB.mk hlL
      replace hLDg:=aB.mk hLDg
      subst hres
      unfold aO at hrf
      simp only [aD] at hrf
      simp only [↓pre,simprocAttr,aA,sx,gY,b7,gN,bne,aC,aJ,aK,aG,aH,aZ,aW,aQ,Nat.one_ne_zero,Nat.zero_ne_one,Nat.reduceEqDiff,hf,ho,aO,e2,e4,e6,e9,e10,e12,b0,b1,b2,g0,g1,g2,hoL,↓hcL,↓hkL,hok0,hon0,hce0,hlenRT,hlt',hlt,haddRT,ha,hb,sr]
      (refine cE (hrow2) (by simp only [aA,aV, *]) (by intro k;simp only [sq,sr, *]) ?_);simp only [↓pre,simprocAttr,aA,sx,gY,b7,gN,bne,aC,aJ,aK,aG,aH,aZ,aW,aQ,Nat.one_ne_zero,Nat.zero_ne_one,Nat.reduceEqDiff,hf,ho,aO,e2,e4,e6,e9,e10,e12,b0,b1,b2,g0,g1,g2,hoL,↓hcL,↓hkL,hok0,hon0,hce0,sr2,sd,aL,hE0,hlenRT,hlt,haddRT,ha,hb,sr];(refine cE (hdat) (by simp only [aA,aV, *]) (by intro k;simp only [sq,sr, *]) ?_);simp only [↓pre,simprocAttr,aA,sx,gY,b7,gN,bne,aC,aJ,aK,aG,aH,aZ,aW,aQ,Nat.one_ne_zero,Nat.zero_ne_one,Nat.reduceEqDiff,hf,ho,aO,e2,e4,e6,e9,e10,e12,b0,b1,b2,g0,g1,g2,hoL,↓hcL,↓hkL,hok0,hon0,hce0,sr2,sd,aL,hE0,hlenRT,hlt,haddRT,ha,hb,sr];refine aM (hl6) (by rfl) ?_;simp only [↓pre,simprocAttr,aA,sx,gY,b7,gN,bne,aC,aJ,aK,aG,aH,aZ,aW,aQ,Nat.one_ne_zero,Nat.zero_ne_one,Nat.reduceEqDiff,hf,ho,aO,e2,e4,e6,e9,e10,e12,b0,b1,b2,g0,g1,g2,hoL,↓hcL,↓hkL,hok0,hon0,hce0,sr2,sd,aL,hE0,hlenRT,hlt,haddRT,ha,hb,sr];refine aM (hrf) (by simp only [aA,aV, *]) ?_;simp only [↓pre,simprocAttr,aA,sx,gY,b7,gN,bne,aC,aJ,aK,aG,aH,aZ,aW,aQ,Nat.one_ne_zero,Nat.zero_ne_one,Nat.reduceEqDiff,hf,ho,aO,e2,e4,e6,e9,e10,e12,b0,b1,b2,g0,g1,g2,hoL,↓hcL,↓hkL,hok0,hon0,hce0,sr2,sd,aL,hE0,hlenRT,hlt,haddRT,ha,hb,sr]
      exact ⟨1,hf0.out _ _⟩
   ·have hlt':¬ ((i:Nat):Int) < ((PR.length:Nat):Int):=by omega
    rw [List.drop_of_length_le (by omega)] at hLE hLR
    simp only [sV,pC,List.append_nil] at hLE hLR
    have hres:=hRES.out
    rw [←hLE,if_pos rfl,←hLR] at hres
    have hne0:cF lv≠some 0:=fun h=>by have:=hblk 0 h;omega
    have hfin:=fun x=>avJ (a:=aD PL) (b:=aD PD) (c:=RT) (d:=aO) (w:=W) (n:=0) (b8 _) (b8 _) hid.out (tY (hown.put_ne (x:=x) hne0) 1)
    replace hne0:=aB.mk hne0
    replace hres:=aB.mk hres
    replace hLE:=aB.mk hLE
    replace hLR:=aB.mk hLR
    replace hown:=aB.mk hown
    replace hfin:=aB.mk hfin
    simp only [↓pre,simprocAttr,aA,sx,gY,b7,gN,bne,aC,aJ,aK,aG,aH,aZ,aW,aQ,Nat.one_ne_zero,Nat.zero_ne_one,Nat.reduceEqDiff,hf,ho,aO,e2,e4,e6,e9,e10,e12,b0,b1,b2,g0,g1,g2,hoL,↓hcL,↓hkL,hok0,hon0,hce0,hlenRT,hlt',sr]
    rw [←hres.out]
    exact ⟨1,hfin.out _⟩
 ·rw [if_neg hC] at hcr
  rw [if_neg hC]
  have hf0:=fun m=>abJ (a:=aD 0) (b:=aD 0) (c:=aO) (d:=aD 0) (e:=aO) (f:=aO) (n:=iP k r c w ps) (b8 _) (b8 _) (b8 _) (b8 _) (b8 _) (b8 _) 1 m
  rw [if_neg hC]
  unfold oJ aO at hcr
  simp only [aD] at hcr hrw
  replace hrv:=aB.mk hrv
  replace hR:=aB.mk hR
  replace hf0:=aB.mk hf0
  generalize iP k r c w ps=E at *
  refine bZ follows Tryz.func107 (by unfold Tryz.f107;rfl) (by unfold Tryz.f107;simp) gN (by unfold Tryz.f107;simp) (by kernel_rfl) ?_;unfold Tryz.f107
  simp only [↓pre,simprocAttr,aA,sx,gY,b7,gN,bne,aC,aJ,aK,aG,aH,aZ,aW,aQ,Nat.one_ne_zero,Nat.zero_ne_one,Nat.reduceEqDiff,hf,ho,aO,sr]
  (refine cE (hrw) (by simp only [aA,aV, *]) (by intro k;simp only [sq,sr, *]) ?_);simp only [↓pre,simprocAttr,aA,sx,gY,b7,gN,bne,aC,aJ,aK,aG,aH,aZ,aW,aQ,Nat.one_ne_zero,Nat.zero_ne_one,Nat.reduceEqDiff,hf,ho,aO,hsr,sr];(refine cE (hcr) (by simp only [aA,aV, *]) (by intro k;rfl) ?_);simp only [↓pre,simprocAttr,aA,sx,gY,b7,gN,bne,aC,aJ,aK,aG,aH,aZ,aW,aQ,Nat.one_ne_zero,Nat.zero_ne_one,Nat.reduceEqDiff,hf,ho,aO,hsr,sr]
  refine nT (by kernel_rfl) ?_
  simp only [↓pre,simprocAttr,aA,sx,gY,b7,gN,bne,aC,aJ,aK,aG,aH,aZ,aW,aQ,Nat.one_ne_zero,Nat.zero_ne_one,Nat.reduceEqDiff,hf,ho,aO,sr]
  refine dJ (by kernel_rfl) ?_
  simp only [↓pre,simprocAttr,aA,sx,gY,b7,gN,bne,aC,aJ,aK,aG,aH,aZ,aW,aQ,Nat.one_ne_zero,Nat.zero_ne_one,Nat.reduceEqDiff,hf,ho,aO,hC,sr]
  exact ⟨1,hf0.out _⟩
theorem avL (v:AV) (bs:List UInt8) (x:List AV) (hv:bC v bs.length (aT bs++x)):aX Tryz.prog 99 [v] ⟨fQ bs,[]⟩:=by
 refine eA ?_
 have hp:=hv.plain
 have hx:=fun (d c:Bool) (m:aF)=>wC (d:=d) (c:=c) (m:=m) hv
 unfold fQ
 by_cases h:bs.length=0
 ·rw [if_pos h]
  have h':((bs.length:Nat):Int)=0:=by omega
  refine bZ follows Tryz.func99 (by unfold Tryz.f99;rfl) (by unfold Tryz.f99;simp) aE (by unfold Tryz.f99;simp) (by kernel_rfl) ?_;unfold Tryz.f99
  simp only [↓pre,simprocAttr,aA,sx,alf,aE,aC,dH,cW,eq_self,hv.len',h']
  exact ⟨0,fZ⟩
 ·rw [if_neg h]
  have h':¬ ((bs.length:Nat):Int)=0:=by omega
  refine bZ follows Tryz.func99 (by unfold Tryz.f99;rfl) (by unfold Tryz.f99;simp) aE (by unfold Tryz.f99;simp) (by kernel_rfl) ?_;unfold Tryz.f99
  simp only [↓pre,simprocAttr,aA,sx,alf,aE,aC,dH,cW,eq_self,hv.len',h',hx,asN]
  exact ⟨0,vO⟩
theorem avM (L:List (List UInt8)):gI (bJ L.length (L.map fQ)) L (L.map fQ):=⟨dX _ _,fun i b hb=>⟨_,[],by rw [List.getElem?_map,hb];rfl,abx b⟩⟩
def aah:Nat→Bool:=fun d=>d != 2 && d != 3 && d != 16
theorem avN (k r c w:Int) (v:AV) (L:List (List UInt8)) (cells:List AV) (hv:gI v L cells) (hn:L.length*24≤140737488355328):aX Tryz.prog 26 [d5 k r c w v] ⟨d5 k r c w (bJ L.length (L.map fQ)),[]⟩:=by
 refine eA ?_
 have hp:=hv.rd.plain
 have hf:=cM hv.rd
 have ho:=b6 hv.rd
 have hby:=fun (i:Nat) (b:List UInt8) (hb:L[i]? = some b)=>hv.at_ i b hb
 have hid:∀ x∈L.map fQ,fE x:=fun x hx=>by
  obtain ⟨b,_,rfl⟩:=List.mem_map.1 hx
  exact kD (abx b)
 unfold d5
 replace hby:=aB.mk hby
 replace hid:=aB.mk hid
 replace hn:=aB.mk hn
 refine bZ follows Tryz.func26 (by unfold Tryz.f26;rfl) (by unfold Tryz.f26;simp) aah (by unfold Tryz.f26;simp) (by kernel_rfl) ?_;unfold Tryz.f26
 simp only [↓pre,simprocAttr,aA,sx,aa0,b7,aah,bne,aC,aI,aL,aJ,aK,aG,aH,aZ,aW,aQ,Nat.one_ne_zero,Nat.zero_ne_one,Nat.reduceEqDiff,hf,ho,hv.rd.len',sr]
 rw [b9]
 refine cA (fun q e m=>∃ i lv,q+i=L.length∧e 1 = .tptr 0 [aD k,aD r,aD c,aD w,v]∧e 2 = .ptr 0 0∧e 3 = .ptr 1 0∧e 4=aD (i:Nat)∧aB (m.at_ 0=some ⟨[aD 0,aD 0,aD 0,aD 0,aO],47,.var,true⟩∧m.at_ 1=some ⟨[aD k,aD r,aD c,aD w,lv],47,.var,true⟩∧1 < m.next∧cO .var m 52 1 lv i ((L.take i).map fQ)∧(∀ j,cF lv=some j→1 < j))) L.length ⟨0,aO,by omega,rfl,rfl,rfl,rfl,⟨rfl,rfl,by simp [aZ,aW,aQ],fB,fun j h=>by simp [cF,aO] at h⟩⟩ ?_
 rintro q e m ⟨i,lv,hq,e1,e2,e3,e4,hJ⟩
 replace hq:=aB.mk hq
 obtain ⟨b0,b1,hnx,hown,hblk⟩:=hJ.out
 clear hJ
 have hok0:=hown.ok
 have hon0:=hown.one
 have hce0:=hown.cells
 by_cases hlt:i < L.length
 ·have hlt':((i:Nat):Int) < ((L.length:Nat):Int):=by omega
  have wi:=cI (n:=i) (by have:=hn.out;omega)
  obtain ⟨b,hb⟩:∃ b,L[i]? = some b:=⟨_,List.getElem?_eq_getElem hlt⟩
  obtain ⟨a,x,hca,hra⟩:=hby.out i b hb
  have h1:=avL a b x hra
  have htk:L.take (i+1)=L.take i++[b]:=by rw [List.take_add_one,hb];rfl
  have hbr:=abx b
  have ob:=b6 hbr
  have sb':=cQ hbr
  have kb:=uX hbr
  have cb:=uW hbr
  have pa:=hra.plain
  have hbt:∀ m,eY Tryz.prog m 45 1 [(0,fQ b)]=some ⟨.tree 1 1 [fQ b] true,m,none⟩:=fun m=>tI (el:=52) (sz:=1) (z:=[.val (.slice none 0 0)]) (by kernel_rfl) (by kernel_rfl) (by kernel_rfl) (by simp [fX,cN,cb,kb,ob]) (by simp [jG,aad hbr]) (by decide)
  have hm2:(L.take (i+1)).map fQ=(L.take i).map fQ++[fQ b]:=by rw [htk,List.map_append];rfl
  generalize fQ b=BV at *
  replace htk:=aB.mk htk
  replace hb:=aB.mk hb
  replace hown:=aB.mk hown
  replace hblk:=aB.mk hblk
  replace hbr:=aB.mk hbr
  replace hm2:=aB.mk hm2
  simp only [↓pre,simprocAttr,aA,sx,aa0,b7,aah,bne,aC,aI,aL,aJ,aK,aG,aH,aZ,aW,aQ,Nat.one_ne_zero,Nat.zero_ne_one,Nat.reduceEqDiff,hf,ho,hv.rd.len',e1,e2,e3,e4,b0,b1,hok0,hon0,hce0,hlt',hv.rd.addr',hlt,hca,ob,↓kb,↓cb,hbt,sr]
  (refine cE (h1) (by simp only [aA,aV, *]) (by intro k;simp only [sq,sr, *]) ?_);simp only [↓pre,simprocAttr,aA,sx,aa0,b7,aah,bne,aC,aI,aL,aJ,aK,aG,aH,aZ,aW,aQ,Nat.one_ne_zero,Nat.zero_ne_one,Nat.reduceEqDiff,hf,ho,hv.rd.len',e1,e2,e3,e4,b0,b1,hok0,hon0,hce0,sb',ob,↓kb,↓cb,hbt,sr]
  refine uF (kd := .var) (sz:=1) (y:=24) (zl:=[.slice none 0 0]) (by kernel_rfl) hown.out (by kernel_rfl) (by kernel_rfl) (by kernel_rfl) rfl l8 rfl (by have:=hn.out;omega) (by have:=hn.out;omega) fun lv' m4 ho' hn' hkp hbk _ => ?_
  have hnb:∀ j,j≤1→cF lv≠some j:=fun j h1 h2=>by have:=hblk.out j h2;omega
  have d0:=hkp 0 _ b0 (by omega) (hnb 0 (by omega))
  have d1:=hkp 1 _ b1 (by omega) (hnb 1 (by omega))
  have hbk':∀ j,cF lv'=some j→1 < j:=fun j hj=>by
   rcases hbk j hj with h | h
   ·omega
   ·exact hblk.out j h
  have ok1:=ho'.ok
  have ok2:=ho'.one
  have ok3:=ho'.cells
  replace hkp:=aB.mk hkp
  replace hbk:=aB.mk hbk
  replace hbk':=aB.mk hbk'
  replace hnb:=aB.mk hnb
  replace ho':=aB.mk ho'
  refine dJ (by kernel_rfl) ?_
  simp only [↓pre,simprocAttr,aA,sx,aa0,b7,aah,bne,aC,aI,aL,aJ,aK,aG,aH,aZ,aW,aQ,Nat.one_ne_zero,Nat.zero_ne_one,Nat.reduceEqDiff,hf,ho,hv.rd.len',e1,e2,e3,e4,d1,ok1,ok2,ok3,sr]
  refine dJ (by kernel_rfl) ?_
  simp only [↓pre,simprocAttr,aA,sx,aa0,b7,aah,bne,aC,aI,aL,aJ,aK,aG,aH,aZ,aW,aQ,Nat.one_ne_zero,Nat.zero_ne_one,Nat.reduceEqDiff,hf,ho,hv.rd.len',e1,e2,e3,e4,wi,sr]
  refine ⟨q - 1,by have:=hq.out;omega,i+1,lv',by have:=hq.out;omega,rfl,⟨d0,rfl,by omega, ?_,hbk'.out⟩⟩
  rw [hm2.out]
  exact ho'.out.put_ne (fun h=>by have:=hbk'.out 1 h;omega)
 ·have hlt':¬ ((i:Nat):Int) < ((L.length:Nat):Int):=by omega
  have hi:i=L.length:=by have:=hq.out;omega
  rw [hi,List.take_length] at hown
  have hne0:cF lv≠some 0:=fun h=>by have:=hblk 0 h;omega
  have hfin:=fun x=>aeG (hown.put_ne (x:=x) hne0) hid.out 1
  replace hfin:=aB.mk hfin
  replace hne0:=aB.mk hne0
  replace hown:=aB.mk hown
  simp only [↓pre,simprocAttr,aA,sx,aa0,b7,aah,bne,aC,aI,aL,aJ,aK,aG,aH,aZ,aW,aQ,Nat.one_ne_zero,Nat.zero_ne_one,Nat.reduceEqDiff,hf,ho,hv.rd.len',e1,e2,e3,e4,b0,b1,hok0,hon0,hce0,hlt',sr]
  exact ⟨2,by rw [aaO,dY,fZ,Option.bind_some,dY,fZ,Option.bind_some,dY,fZ,Option.bind_some,dY,fZ,Option.bind_some,dY,hfin.out,Option.bind_some,i7];rfl⟩
theorem avO (k r c w:Int) (x y:Operand):dV Tryz.prog .neq 23 x y (.agg [.val (.int .i64 k),.val (.int .i64 r),.val (.int .i64 c),.val (.int .i64 w)]) (.agg [.val (.int .i64 k),.val (.int .i64 r),.val (.int .i64 c),.val (.int .i64 w)])=some (.val (.bool false)):=by
 have h:tJ Tryz.prog #[.int .i64 k,.int .i64 r,.int .i64 c,.int .i64 w] #[.int .i64 k,.int .i64 r,.int .i64 c,.int .i64 w] (xF Tryz.prog 23)=if k=k then (if r=r then (if c=c then (if w=w then some true else some false) else some false) else some false) else some false:=by kernel_rfl
 rw [if_pos rfl,if_pos rfl,if_pos rfl,if_pos rfl] at h
 exact (agc (a:=[.val (.int .i64 k),.val (.int .i64 r),.val (.int .i64 c),.val (.int .i64 w)]) (b:=[.val (.int .i64 k),.val (.int .i64 r),.val (.int .i64 c),.val (.int .i64 w)]) (u:=[.int .i64 k,.int .i64 r,.int .i64 c,.int .i64 w]) (v:=[.int .i64 k,.int .i64 r,.int .i64 c,.int .i64 w]) rfl rfl (by kernel_rfl) (by kernel_rfl) (by kernel_rfl) h).2
theorem avP (k r c w:Int) (v v':AV) (L:List (List UInt8)) (cells cells':List AV) (hv:gI v L cells) (hv':gI v' L cells') (hn:L.length*24≤140737488355328):aX Tryz.prog 33 [d5 k r c w v,d5 k r c w v'] ⟨bB true,[]⟩:=by
 have hp:=hv.rd.plain
 have hf:=cM hv.rd
 have ho:=b6 hv.rd
 have hp':=hv'.rd.plain
 have hf':=cM hv'.rd
 have ho':=b6 hv'.rd
 have hpn:=avO k r c w
 have hat:=fun (i:Nat) (b:List UInt8) (hb:L[i]? = some b)=>hv.at_ i b hb
 have hat':=fun (i:Nat) (b:List UInt8) (hb:L[i]? = some b)=>hv'.at_ i b hb
 unfold d5
 replace hat:=aB.mk hat
 replace hat':=aB.mk hat'
 replace hn:=aB.mk hn
 refine bE follows Tryz.func33 (by unfold Tryz.f33;rfl) (by unfold Tryz.f33;simp) aE (by unfold Tryz.f33;simp) (by kernel_rfl) ?_;unfold Tryz.f33
 simp only [↓pre,simprocAttr,aA,sx,agf,aE,aC,aI,aL,hf,ho,hf',ho',hv.rd.len',hv'.rd.len',hpn,sr]
 rw [b9]
 refine cA (fun q e m=>∃ i,q+i=L.length∧e 2 = .tptr 0 [aD k,aD r,aD c,aD w,v]∧e 3 = .tptr 0 [aD k,aD r,aD c,aD w,v']∧e 5=aD (i:Nat)) L.length ⟨0,by omega,rfl,rfl,rfl⟩ ?_
 rintro q e m ⟨i,hq,e2,e3,e5⟩
 replace hq:=aB.mk hq
 by_cases hlt:i < L.length
 ·have hlt':((i:Nat):Int) < ((L.length:Nat):Int):=by omega
  have wi:=cI (n:=i) (by have:=hn.out;omega)
  obtain ⟨b,hb⟩:∃ b,L[i]? = some b:=⟨_,List.getElem?_eq_getElem hlt⟩
  obtain ⟨a,x,hca,hra⟩:=hat.out i b hb
  obtain ⟨a',x',hca',hra'⟩:=hat'.out i b hb
  have hx1:=fun (d c:Bool) (m:aF)=>wC (d:=d) (c:=c) (m:=m) (x:=x) hra
  have hx2:=fun (d c:Bool) (m:aF)=>wC (d:=d) (c:=c) (m:=m) (x:=x') hra'
  have hne:∀ x y,dV Tryz.prog .neq 9 x y (n9 b) (n9 b)=some (.val (.bool false)):=fun x y=>by rw [acZ,decide_eq_true rfl];rfl
  replace hb:=aB.mk hb
  simp only [↓pre,simprocAttr,aA,sx,agf,aE,aC,aI,aL,hf,ho,hf',ho',hv.rd.len',hv'.rd.len',hpn,e2,e3,e5,hlt',hv.rd.addr',hv'.rd.addr',hlt,hca,hca',hx1,hx2,hne,wi,sr]
  exact ⟨q - 1,by have:=hq.out;omega,i+1,by have:=hq.out;omega,rfl⟩
 ·have hlt':¬ ((i:Nat):Int) < ((L.length:Nat):Int):=by omega
  simp only [↓pre,simprocAttr,aA,sx,agf,aE,aC,aI,aL,hf,ho,hf',ho',hv.rd.len',hv'.rd.len',hpn,e2,e3,e5,hlt',sr]
theorem avQ {P:Program} {m:aF} {t t2 ty:TypeId} {s x:AV} (h2:uA P t2=false) (h3:yL P t2=true):oO P m #[t,t2] ty [s,x] .append=(cD P t).bind fun el=>(iA x).bind fun n=>yN P el m s n:=by simp [oO,h2,h3]
theorem aov {P:Program} {m:aF} {t ty:TypeId} {x:AV}:oO P m #[t] ty [x] .cap=(cD P t).bind fun _=>eQ (abO x) m:=rfl
def aai (n:Nat):List AV:=rM [.int .i64 0,.int .i64 0] (n*2)
theorem avR (n:Nat):(aai n).length=n*2:=by simp [aai,rM]
def ac2 (m:aF) (n:Nat):aF:=if n=0 then m else m.push ⟨aai n,67,.flat,true⟩
def ac3 (m:aF) (n:Nat):AV:=if n=0 then aO else .sl m.next 0 0 n false
theorem avS (m:aF) (n:Nat) (hn:n≤100000):fA Tryz.prog 220 [aO,aD (n:Nat)] m fun r m'=>r=ac3 m n∧m'=ac2 m n:=by
 have g0:¬ ((n:Nat):Int) < 0:=by omega
 have w1:IntKind.i64.wrap ((n:Nat):Int)=((n:Nat):Int):=dT (by omega)
 have hcap:abO aO=some (.val (.int .i64 0)):=rfl
 have hlen:lenE Tryz.prog 31 aO=some (.val (.int .i64 0)):=by kernel_rfl
 have hsl:kI Tryz.prog 31 none (some 0) none aO=some aO:=by kernel_rfl
 have hso:slOk Tryz.prog m 31 aO=true:=rfl
 have hno:uA Tryz.prog 3=false:=by kernel_rfl
 have hin:yL Tryz.prog 3=true:=by kernel_rfl
 have n0:iA (.val (.int .i64 0))=some 0:=rfl
 have w0:IntKind.i64.wrap 0=0:=by decide
 have w2:IntKind.i64.wrap (((n:Nat):Int) - 0)=((n:Nat):Int):=by rw [Int.sub_zero];exact w1
 unfold aO at hcap hlen hsl hso
 by_cases h0:n=0
 ·subst h0
  refine bZ follows Tryz.func220 (by unfold Tryz.f220;rfl) (by unfold Tryz.f220;simp) aE (by unfold Tryz.f220;simp) (by kernel_rfl) ?_;unfold Tryz.f220
  simp only [↓pre,simprocAttr,aA,sx,alv,aE,aC,aL,aov,hcap,hlen,hsl,hso,w0,w1,w2,g0,bH,Option.map_some,Option.map_none,n0,aO,Int.natCast_zero,Int.cast_ofNat_Int,sr]
  exact ⟨rfl,rfl⟩
 ·have h0':(0:Int) < ((n:Nat):Int):=by omega
  have haz:yN Tryz.prog 67 m (.val (.slice none 0 0)) n=some ⟨.sl m.next 0 n n false,m.push ⟨aai n,67,.flat,true⟩,none⟩:=by
   have h1:cH Tryz.prog 67=some 2:=by kernel_rfl
   have h2:hY Tryz.prog 67=some 16:=by kernel_rfl
   have h3:eX Tryz.prog 67=some [.int .i64 0,.int .i64 0]:=by kernel_rfl
   have h4:bW Tryz.prog 67 = .flat:=by kernel_rfl
   simp only [yN,h1,h2,h3,h4,dR,Option.bind_some]
   rw [if_pos ⟨by omega,by omega,rfl,h0,.inl trivial,by simp⟩]
   simp [bO,aai]
  have hsl2:kI Tryz.prog 31 none (some 0) none (.sl m.next 0 n n false)=some (.sl m.next 0 0 n false):=by
   have h3:cD Tryz.prog 31=some 67:=by kernel_rfl
   have h4:cH Tryz.prog 67=some 2:=by kernel_rfl
   simp [kI,h3,h4,Tw.cutE]
  have hso2:slOk Tryz.prog (m.push ⟨aai n,67,.flat,true⟩) 31 (.sl m.next 0 n n false)=true:=by
   have:cD Tryz.prog 31=some 67:=by kernel_rfl
   simp [slOk,aH,this]
  have nn:iA (.val (.int .i64 ((n:Nat):Int)))=some n:=ace
  have haz2:=avQ (P:=Tryz.prog) (m:=m) (t:=31) (t2:=3) (ty:=31) (s := .val (.slice none 0 0)) (x := .val (.int .i64 ((n:Nat):Int))) hno hin
  refine bZ follows Tryz.func220 (by unfold Tryz.f220;rfl) (by unfold Tryz.f220;simp) aE (by unfold Tryz.f220;simp) (by kernel_rfl) ?_;unfold Tryz.f220
  simp only [↓pre,simprocAttr,aA,sx,alv,aE,aC,aL,aov,hcap,hlen,hsl,hso,w0,w1,w2,g0,bH,Option.map_some,Option.map_none,n0,aO,h0',haz2,nn,haz,hsl2,hso2,sr]
  exact ⟨by unfold ac3;rw [if_neg h0],by unfold ac2;rw [if_neg h0]⟩
structure ac4 (m:aF) (v:AV) (N:Nat) (pre:List bP):Prop where
 ex:∃ j rest,v = .sl j 0 pre.length N false∧m.at_ j=some ⟨bI pre++rest,67,.flat,true⟩∧j < m.next∧(bI pre++rest).length=N*2
theorem aow {m:aF} {v x:AV} {N:Nat} {pre l:List bP} {K:bY→Prop} (h:ac4 m v N pre) (hN:N≤100000) (hfit:pre.length+l.length≤N) (hsrc:eZ Tryz.prog 67 2 m x=some (bI l,l.length)) (hK:∀ v' m',ac4 m' v' N (pre++l)→K ⟨v',m',none⟩):eG (dW Tryz.prog 67 m v x) K:=by
 obtain ⟨j,rest,rfl,hb,hj,hlen⟩:=h.ex
 have h1:cH Tryz.prog 67=some 2:=by kernel_rfl
 have h2:hY Tryz.prog 67=some 16:=by kernel_rfl
 have h3:eX Tryz.prog 67=some [.int .i64 0,.int .i64 0]:=by kernel_rfl
 have h4:bW Tryz.prog 67 = .flat:=by kernel_rfl
 have hpl:=lW pre
 have hll:=lW l
 by_cases hf:pre.length*2=(bI pre++rest).length
 ·have hl0:l=[]:=List.eq_nil_of_length_eq_zero (by omega)
  subst hl0
  have:dW Tryz.prog 67 m (.sl j 0 pre.length N false) x=some ⟨.sl m.next 0 pre.length pre.length false,(m.put j none).push ⟨bI pre++rest,67,.flat,true⟩,none⟩:=by
   simp only [dW,h1,h2,h3,h4,hsrc,dR,hb,Option.bind_some,if_true]
   rw [if_pos ⟨by simp;omega,by simp;omega,rfl⟩]
   have ht:Go.Tw.vA (.sl j 0 pre.length N false) ([]:List bP).length=false:=rfl
   simp only [Bool.false_and,Bool.false_eq_true,if_false,ht,hb,Option.bind_some,List.drop_zero,Nat.zero_add]
   rw [if_pos ⟨trivial,trivial,hf⟩]
   simp [bO,bI]
  rw [this]
  have hn:N=pre.length:=by omega
  refine hK _ _ ⟨m.next,rest,by rw [List.append_nil,hn],by rw [aH,if_pos (by rw [aZ]),List.append_nil],by rw [aW,aZ];omega,by rw [List.append_nil];exact hlen⟩
 ·have:dW Tryz.prog 67 m (.sl j 0 pre.length N false) x=some ⟨.sl j 0 (pre.length+l.length) N false,m.put j (some ⟨cN (bI pre++rest) (pre.length*2) (bI l),67,.flat,true⟩),none⟩:=by
   simp only [dW,h1,h2,h3,h4,hsrc,dR,hb,Option.bind_some,if_true]
   rw [if_pos ⟨by omega,by omega,rfl⟩]
   have hf':¬ (pre.length*2=(bI pre).length+rest.length):=by rw [List.length_append] at hf;exact hf
   rw [List.length_append] at hlen
   have hc:(pre.length+l.length)*2≤(bI pre).length+rest.length:=by omega
   have ht:Go.Tw.vA (.sl j 0 pre.length N false) l.length=false:=rfl
   simp only [Bool.false_and,Bool.false_eq_true,if_false,ht,hb,Option.bind_some,List.drop_zero,Nat.zero_add,List.length_append]
   rw [if_neg (fun h=>hf' h.2.2),if_pos ⟨trivial,trivial,hfit,hc⟩]
   rfl
  rw [this]
  have hsp:cN (bI pre++rest) (pre.length*2) (bI l)=bI (pre++l)++rest.drop (l.length*2):=by
   unfold cN
   rw [acT,←hpl,List.take_left]
   congr 1
   rw [List.drop_append,List.drop_eq_nil_of_le (by omega),List.nil_append]
   congr 1
   omega
  rw [hsp]
  refine hK _ _ ⟨j,rest.drop (l.length*2),by rw [List.length_append],by rw [aG,if_pos rfl],by rw [aZ];exact hj, ?_⟩
  rw [←hsp,ah1 _ _ _ (by omega)]
  exact hlen
theorem avT {m:aF} {v:AV} {N:Nat} {pre:List bP} (h:ac4 m v N pre) (hN:pre.length=N) (h0:N≠0) (k:Nat):fzT k m v=some (bJ N (bI pre)):=by
 obtain ⟨j,rest,rfl,hb,hj,hlen⟩:=h.ex
 have hpl:=lW pre
 have hr:rest=[]:=List.eq_nil_of_length_eq_zero (by rw [List.length_append] at hlen;omega)
 subst hr
 rw [rU hb,List.drop_zero,List.append_nil]
 unfold bJ
 rw [if_neg h0,hN]
theorem aox {m:aF} {x:AV} (hsrc:eZ Tryz.prog 67 2 m x=some ([],0)):dW Tryz.prog 67 m (.val (.slice none 0 0)) x=some ⟨.val (.slice none 0 0),m,none⟩:=by
 have h1:cH Tryz.prog 67=some 2:=by kernel_rfl
 have h2:hY Tryz.prog 67=some 16:=by kernel_rfl
 have h3:eX Tryz.prog 67=some [.int .i64 0,.int .i64 0]:=by kernel_rfl
 simp [dW,h1,h2,h3,hsrc,dR,bO]
def abK (a b:List bP) (i:Nat):List bP:=if i=0 then [] else if i=1 then a else a++b
theorem avU (LV SV:AV) (a b:List bP) (ha:bC LV a.length (bI a)) (hb:bC SV b.length (bI b)) (hl:a.length+b.length≤50000):aX Tryz.prog 139 [.tree 2 2 [LV,SV] true] ⟨bJ (a++b).length (bI (a++b)),[]⟩:=by
 refine eA ?_
 obtain ⟨N,hN⟩:∃ N,a.length+b.length=N:=⟨_,rfl⟩
 have hgr:=fun m=>avS m N (by omega)
 have oA:=b6 ha
 have oB:=b6 hb
 have lA:=fun t ht=>ha.len' (P:=Tryz.prog) (t:=t) ht
 have lB:=fun t ht=>hb.len' (P:=Tryz.prog) (t:=t) ht
 have sA:=fun m=>ha.src (P:=Tryz.prog) (m:=m) (el:=67) (sz:=2) (by rw [lW];omega)
 have sB:=fun m=>hb.src (P:=Tryz.prog) (m:=m) (el:=67) (sz:=2) (by rw [lW];omega)
 rw [show (bI a).take (a.length*2)=bI a from List.take_of_length_le (by rw [lW];omega)] at sA
 rw [show (bI b).take (b.length*2)=bI b from List.take_of_length_le (by rw [lW];omega)] at sB
 have w1:IntKind.i64.wrap (0+((a.length:Nat):Int))=((a.length:Nat):Int):=by rw [Int.zero_add];exact dT (by omega)
 have w2:IntKind.i64.wrap (((a.length:Nat):Int)+((b.length:Nat):Int))=((N:Nat):Int):=by rw [show ((a.length:Nat):Int)+((b.length:Nat):Int)=((N:Nat):Int) by omega];exact dT (by omega)
 have g1:¬ ((a.length:Nat):Int) < 0:=by omega
 have g2:¬ ((N:Nat):Int) < 0:=by omega
 have wi0:IntKind.i64.wrap (0+1)=1:=by decide
 have wi1:IntKind.i64.wrap (1+1)=2:=by decide
 have n0:iA (.val (.int .i64 0))=some 0:=rfl
 have n1:iA (.val (.int .i64 1))=some 1:=rfl
 have hlen2:lenE Tryz.prog 243 (.tree 2 2 [LV,SV] true)=some (.val (.int .i64 2)):=by
  have:cD Tryz.prog 243=some 31:=by kernel_rfl
  simp [lenE,this,rH,aD]
 have hadd:∀ k,k < 2→lZ Tryz.prog 243 k (.tree 2 2 [LV,SV] true)=some (.tptr k [LV,SV]):=fun k hk=>by
  have h1:cD Tryz.prog 243=some 31:=by kernel_rfl
  have h2:cH Tryz.prog 31=some 1:=by kernel_rfl
  simp [lZ,h1,h2,hk]
 have hadd0:=hadd 0 (by decide)
 have hadd1:=hadd 1 (by decide)
 clear hadd
 replace sA:=aB.mk sA
 replace sB:=aB.mk sB
 refine bZ follows Tryz.func139 (by unfold Tryz.f139;rfl) (by unfold Tryz.f139;simp) aE (by unfold Tryz.f139;simp) (by kernel_rfl) ?_;unfold Tryz.f139
 simp only [↓pre,simprocAttr,aA,sx,qS,aE,aC,aL,hlen2,hadd0,hadd1,oA,oB,lA,lB,w1,w2,g1,g2,wi0,wi1,n0,n1,sr]
 rw [b9]
 refine cA (fun q e m=>∃ i s:Nat,q+i=2∧e 0 = .tree 2 2 [LV,SV] true∧e 9 = .tree 2 2 [LV,SV] true∧e 10=aD 2∧e 11=aD (i:Nat)∧e 3=aD (s:Nat)∧m=aF.empty∧s=(abK a b i).length) 2 ⟨0,0,by omega,rfl,rfl,rfl,rfl,rfl,rfl,rfl⟩ ?_
 rintro q e m ⟨i,s,hq,e0,e9,e10,e11,e3,hm,hs⟩
 replace hq:=aB.mk hq
 obtain rfl | rfl | rfl:i=0∨i=1∨i=2:=by have:=hq.out;omega
 ·replace hs:s=0:=hs
  subst hs
  simp only [↓pre,simprocAttr,aA,sx,qS,aE,aC,aL,hlen2,hadd0,hadd1,oA,oB,lA,lB,w1,w2,g1,g2,wi0,wi1,n0,n1,e0,e9,e10,e11,e3,Int.natCast_zero,Int.cast_ofNat_Int,sr]
  exact ⟨q - 1,by have:=hq.out;omega,1,a.length,by have:=hq.out;omega,rfl,rfl,hm,rfl⟩
 ·replace hs:s=a.length:=hs
  subst hs
  simp only [↓pre,simprocAttr,aA,sx,qS,aE,aC,aL,hlen2,hadd0,hadd1,oA,oB,lA,lB,w1,w2,g1,g2,wi0,wi1,n0,n1,e0,e9,e10,e11,e3,Int.natCast_one,Int.cast_ofNat_Int,sr]
  exact ⟨q - 1,by have:=hq.out;omega,2,N,by have:=hq.out;omega,rfl,rfl,hm,by rw [←hN];exact (List.length_append ..).symm⟩
 ·have hs2:s=N:=by rw [hs,←hN];exact List.length_append ..
  subst hs2
  subst hm
  replace hs:=aB.mk hs
  simp only [↓pre,simprocAttr,aA,sx,qS,aE,aC,aL,hlen2,hadd0,hadd1,oA,oB,lA,lB,w1,w2,g1,g2,wi0,wi1,n0,n1,e0,e9,e10,e11,e3,Int.cast_ofNat_Int,show (((2:Nat):Int))=2 from rfl,sr]
  refine pY (hgr _) ?_
  simp only [↓pre,simprocAttr,aA,sx,qS,aE,aC,aL,hlen2,hadd0,hadd1,oA,oB,lA,lB,w1,w2,g1,g2,wi0,wi1,n0,n1,e0,e9,e10,e11,e3,sr]
  by_cases h0:s=0
  ·have ha0:a=[]:=List.eq_nil_of_length_eq_zero (by omega)
   have hb0:b=[]:=List.eq_nil_of_length_eq_zero (by omega)
   have ap0:=fun m=>aox (m:=m) (x:=LV) (by have:=sA.out m;rw [ha0] at this;exact this)
   have ap1:=fun m=>aox (m:=m) (x:=SV) (by have:=sB.out m;rw [hb0] at this;exact this)
   simp only [ac3,ac2,if_pos h0]
   rw [b9]
   refine cA (fun q e m=>∃ i:Nat,q+i=2∧e 6 = .val (.slice none 0 0)∧e 25 = .tree 2 2 [LV,SV] true∧e 26=aD 2∧e 27=aD (i:Nat)) 2 ⟨0,by omega,rfl,rfl,rfl,rfl⟩ ?_
   rintro q e m ⟨i,hq,e6,e25,e26,e27⟩
   replace hq:=aB.mk hq
   obtain rfl | rfl | rfl:i=0∨i=1∨i=2:=by have:=hq.out;omega
   ·simp only [↓pre,simprocAttr,aA,sx,qS,aE,aC,aL,hlen2,hadd0,hadd1,oA,oB,lA,lB,w1,w2,g1,g2,wi0,wi1,n0,n1,e6,e25,e26,e27,Int.natCast_zero,Int.cast_ofNat_Int,ap0,sr]
    exact ⟨q - 1,by have:=hq.out;omega,1,by have:=hq.out;omega,rfl⟩
   ·simp only [↓pre,simprocAttr,aA,sx,qS,aE,aC,aL,hlen2,hadd0,hadd1,oA,oB,lA,lB,w1,w2,g1,g2,wi0,wi1,n0,n1,e6,e25,e26,e27,Int.natCast_one,Int.cast_ofNat_Int,ap1,sr]
    exact ⟨q - 1,by have:=hq.out;omega,2,by have:=hq.out;omega,rfl⟩
   ·have e:bJ (a++b).length (bI (a++b))=aO:=by rw [ha0,hb0];rfl
    rw [e]
    simp only [↓pre,simprocAttr,aA,sx,qS,aE,aC,aL,hlen2,hadd0,hadd1,oA,oB,lA,lB,w1,w2,g1,g2,wi0,wi1,n0,n1,e6,e25,e26,e27,Int.cast_ofNat_Int,show (((2:Nat):Int))=2 from rfl,sr]
    exact ⟨0,fZ⟩
  ·have hroom:∀ m:aF,ac4 (ac2 m s) (ac3 m s) s []:=fun m=>by
    unfold ac2 ac3
    rw [if_neg h0,if_neg h0]
    exact ⟨m.next,aai s,rfl,by rw [aH,if_pos rfl];rfl,by rw [aW];omega,avR s⟩
   rw [b9]
   refine cA (fun q e m=>∃ i:Nat,q+i=2∧e 25 = .tree 2 2 [LV,SV] true∧e 26=aD 2∧e 27=aD (i:Nat)∧aB (ac4 m (e 6) s (abK a b i))) 2 ⟨0,by omega,rfl,rfl,rfl,⟨hroom _⟩⟩ ?_
   rintro q e m ⟨i,hq,e25,e26,e27,hJ⟩
   replace hq:=aB.mk hq
   generalize hv6:e 6=v6 at *
   obtain rfl | rfl | rfl:i=0∨i=1∨i=2:=by have:=hq.out;omega
   ·simp only [↓pre,simprocAttr,aA,sx,qS,aE,aC,aL,hlen2,hadd0,hadd1,oA,oB,lA,lB,w1,w2,g1,g2,wi0,wi1,n0,n1,hv6,e25,e26,e27,Int.natCast_zero,Int.cast_ofNat_Int,sr]
    refine aow (l:=a) hJ.out (by omega) (by simp only [abK];simp;omega) (sA.out m) ?_
    intro v' m' hr
    simp only [↓pre,simprocAttr,aA,sx,qS,aE,aC,aL,hlen2,hadd0,hadd1,oA,oB,lA,lB,w1,w2,g1,g2,wi0,wi1,n0,n1,hv6,e25,e26,e27,sr]
    exact ⟨q - 1,by have:=hq.out;omega,1,by have:=hq.out;omega,rfl,⟨by simpa [abK] using hr⟩⟩
   ·simp only [↓pre,simprocAttr,aA,sx,qS,aE,aC,aL,hlen2,hadd0,hadd1,oA,oB,lA,lB,w1,w2,g1,g2,wi0,wi1,n0,n1,hv6,e25,e26,e27,Int.natCast_one,Int.cast_ofNat_Int,sr]
    refine aow (l:=b) hJ.out (by omega) (by simp only [abK];simp;omega) (sB.out m) ?_
    intro v' m' hr
    simp only [↓pre,simprocAttr,aA,sx,qS,aE,aC,aL,hlen2,hadd0,hadd1,oA,oB,lA,lB,w1,w2,g1,g2,wi0,wi1,n0,n1,hv6,e25,e26,e27,sr]
    exact ⟨q - 1,by have:=hq.out;omega,2,by have:=hq.out;omega,rfl,⟨by simpa [abK] using hr⟩⟩
   ·have hr:=hJ.out
    have e:(a++b).length=s:=by rw [List.length_append];omega
    rw [e]
    have hfin:=avT hr e h0 0
    replace hfin:=aB.mk hfin
    simp only [↓pre,simprocAttr,aA,sx,qS,aE,aC,aL,hlen2,hadd0,hadd1,oA,oB,lA,lB,w1,w2,g1,g2,wi0,wi1,n0,n1,hv6,e25,e26,e27,Int.cast_ofNat_Int,show (((2:Nat):Int))=2 from rfl,sr]
    exact ⟨0,hfin.out⟩
abbrev gO:=Int×Int×Int
def jY (l:List gO):List AV:=l.flatMap fun x=>[aD x.1,.val (.int .u8 x.2.1),aD x.2.2]
theorem aoy (l:List gO):(jY l).length=l.length*3:=by
 induction l with
 | nil=>rfl
 | cons a l ih=>simp only [jY,List.flatMap_cons,List.length_append,List.length_cons,List.length_nil] at ih ⊢;omega
theorem aoz (a b:List gO):jY (a++b)=jY a++jY b:=by simp [jY]
theorem ae5:∀ (l:List gO) (i:Nat) (a:gO),l[i]? = some a→(jY l)[i*3]? = some (aD a.1)∧(jY l)[i*3+1]? = some (.val (.int .u8 a.2.1))∧(jY l)[i*3+2]? = some (aD a.2.2)
 | [],i,a,h=>by simp at h
 | b::l,0,a,h=>by simp at h;subst h;exact ⟨rfl,rfl,rfl⟩
 | b::l,i+1,a,h=>by
  have ih:=ae5 l i a (by simpa using h)
  have e:jY (b::l)=aD b.1 :: .val (.int .u8 b.2.1)::aD b.2.2::jY l:=rfl
  rw [e,show (i+1)*3=i*3+1+1+1 by omega]
  simpa using ih
def sX (l:List gO):AV := .tree l.length l.length (jY l) (decide (l.length=1))
theorem ac5 (l:List gO):bC (sX l) l.length (jY l):=⟨.inr (.inr ⟨_,_,rfl,Nat.le_refl _⟩)⟩
def iR (l:List bP):List gO:=l.map fun x=>(x.1,1,x.2)
theorem ae6 (l:List bP):(iR l).length=l.length:=by simp [iR]
theorem avV {l:List bP} {i:Nat} {x:bP} (h:l[i]? = some x):iR (l.take (i+1))=iR (l.take i)++[(x.1,1,x.2)]:=by
 rw [List.take_add_one,h]
 simp [iR]
def jF (k r c w:Int) (L:List (List UInt8)) (row:Int):List gO:=(row,2,eV k r c w (eW k r w L row))::iR (g9 k r c w L row++hU k r c w L row)
def aaj (k r c w:Int) (L:List (List UInt8)) (row:Int):AV:=if gM k r c w L row=0 then .tup [sX (jF k r c w L row),aD 0] else .tup [aO,aD (gM k r c w L row)]
theorem abL {k r c w:Int} {L:List (List UInt8)} {row:Int} (h:gM k r c w L row=0):(g9 k r c w L row).length≤126:=by
 obtain ⟨_,hR,hC,_⟩:=yD h
 have hD:=abH hC
 obtain ⟨_,_,_,hll,_⟩:=wM hD
 obtain ⟨_,hm⟩:=yB hR
 have hw:=gZ hm
 unfold g9
 split
 ·simp
 ·unfold dI at hll
  unfold dU
  omega
theorem ahE (k r c w row:Int) (v:AV) (L:List (List UInt8)) (cells:List AV) (hv:gI v L cells):aX Tryz.prog 63 [d5 k r c w v,aD row] ⟨aaj k r c w L row,[]⟩:=by
 refine eA ?_
 have hp:=hv.rd.plain
 have hf:=cM hv.rd
 have ho:=b6 hv.rd
 have hob:=auP k r c w row v L cells hv
 unfold aaj
 unfold ahv at hob
 unfold d5 at hob ⊢
 by_cases hE:gM k r c w L row=0
 ·rw [if_pos hE] at hob ⊢
  have hLl:=abL hE
  obtain ⟨_,_,_,_,hSl,_,_⟩:=yD hE
  have hRr:=dX (cS (dU k r c w L row)).length (bI (cS (dU k r c w L row)))
  have hLr:=dX (g9 k r c w L row).length (bI (g9 k r c w L row))
  have hSr:=dX (hU k r c w L row).length (bI (hU k r c w L row))
  have hcc:=avU _ _ _ _ hLr hSr (by omega)
  unfold rA sW at hob
  unfold jF
  generalize hAl:g9 k r c w L row++hU k r c w L row=al at *
  have hal:al.length≤30000:=by rw [←hAl,List.length_append];omega
  have hAr:=dX al.length (bI al)
  generalize bJ (cS (dU k r c w L row)).length (bI (cS (dU k r c w L row)))=DV at *
  generalize bJ (g9 k r c w L row).length (bI (g9 k r c w L row))=LV at *
  generalize bJ (hU k r c w L row).length (bI (hU k r c w L row))=SV at *
  generalize bJ al.length (bI al)=AL at *
  have f2:=cM hRr
  have o2:=b6 hRr
  have s2:=cQ hRr
  have s3:=cQ hLr
  have s4:=cQ hSr
  have s5:=cQ hAr
  have o3:=uX hLr
  have o4:=uX hSr
  have c3:=uW hLr
  have c4:=uW hSr
  have q3:=b6 hLr
  have q4:=b6 hSr
  have hbt:∀ m,eY Tryz.prog m 243 2 [(0,LV),(1,SV)]=some ⟨.tree 2 2 [LV,SV] true,m,none⟩:=fun m=>tI (el:=31) (sz:=1) (z:=[.val (.slice none 0 0),.val (.slice none 0 0)]) (by kernel_rfl) (by kernel_rfl) (by kernel_rfl) (by simp [fX,o3,o4,c3,c4,cN]) (by simp [jG,aad hLr,aad hSr]) (by decide)
  generalize dK (dU k r c w L row)=PL at *
  generalize dQ (dU k r c w L row)=PD at *
  generalize eV k r c w (eW k r w L row)=W at *
  have hbl:∀ m (a kd b:Int),eY Tryz.prog m 96 1 [(0,.agg [.val (.int .i64 a),.val (.int .u8 kd),.val (.int .i64 b)])]=some ⟨.tree 1 1 [.val (.int .i64 a),.val (.int .u8 kd),.val (.int .i64 b)] true,m,none⟩:=fun m a kd b=>tI (el:=104) (sz:=3) (z:=[.val (.int .i64 0),.val (.int .u8 0),.val (.int .i64 0)]) (by kernel_rfl) (by kernel_rfl) (by kernel_rfl) rfl rfl (by decide)
  have hsr:∀ m (a kd b:Int),eZ Tryz.prog 104 3 m (.tree 1 1 [.val (.int .i64 a),.val (.int .u8 kd),.val (.int .i64 b)] true)=some ([.val (.int .i64 a),.val (.int .u8 kd),.val (.int .i64 b)],1):=fun m a kd b=>uD (by simp)
  have hats:=fun (i:Nat) (x:bP) (hi:al[i]? = some x)=>qX al [] i x hi
  rw [List.append_nil] at hats
  simp only [aD] at hob
  replace hE:=aB.mk hE
  replace hLl:=aB.mk hLl
  replace hSl:=aB.mk hSl
  replace hAl:=aB.mk hAl
  replace hRr:=aB.mk hRr
  replace hLr:=aB.mk hLr
  replace hSr:=aB.mk hSr
  replace hsr:=aB.mk hsr
  replace hats:=aB.mk hats
  refine bZ follows Tryz.func63 (by unfold Tryz.f63;rfl) (by unfold Tryz.f63;simp) aE (by unfold Tryz.f63;simp) (by kernel_rfl) ?_;unfold Tryz.f63
  simp only [↓pre,simprocAttr,aA,sx,xL,aE,aC,aL,hf,ho,aJ,aK,aG,aH,sr]
  refine aM (hob) (by simp only [aA,aV, *]) ?_;simp only [↓pre,simprocAttr,aA,sx,xL,aE,aC,aL,hf,ho,aJ,aK,aG,aH,f2,o2,s2,s3,s4,q3,q4,hbl,hbt,s5,hAr.len',sr];refine aM (hcc) (by rfl) ?_;simp only [↓pre,simprocAttr,aA,sx,xL,aE,aC,aL,hf,ho,aJ,aK,aG,aH,f2,o2,s2,s3,s4,q3,q4,hbl,hbt,s5,hAr.len',sr]
  rw [b9]
  refine cA (fun q e m=>∃ i,q+i=al.length∧e 33=AL∧e 34=aD (al.length:Nat)∧e 35=aD (i:Nat)∧aB ((i=0∧e 11 = .tree 1 1 [.val (.int .i64 row),.val (.int .u8 2),.val (.int .i64 W)] true)∨(0 < i∧cY m 104 3 (e 11) (1+i) (jY ((row,2,W)::iR (al.take i)))))) al.length ⟨0,by omega,rfl,rfl,rfl,⟨.inl ⟨rfl,rfl⟩⟩⟩ ?_
  rintro q e m ⟨i,hq,e33,e34,e35,hJ⟩
  replace hq:=aB.mk hq
  generalize hv11:e 11=v11 at *
  by_cases hlt:i < al.length
  ·have hlt':((i:Nat):Int) < ((al.length:Nat):Int):=by omega
   have wi:=cI (n:=i) (by omega)
   obtain ⟨x,hx⟩:∃ x,al[i]? = some x:=⟨_,List.getElem?_eq_getElem hlt⟩
   obtain ⟨ha,hb⟩:=hats.out i x hx
   obtain ⟨ht,htl⟩:=nZ ha hb
   have hsuc:=avV hx
   have hcell:jY ((row,2,W)::iR (al.take (i+1)))=jY ((row,2,W)::iR (al.take i))++[.val (.int .i64 x.1),.val (.int .u8 1),.val (.int .i64 x.2)]:=by
    rw [hsuc,←List.cons_append,aoz]
    rfl
   replace hx:=aB.mk hx
   replace hsuc:=aB.mk hsuc
   replace hcell:=aB.mk hcell
   simp only [↓pre,simprocAttr,aA,sx,xL,aE,aC,aL,hf,ho,aJ,aK,aG,aH,hv11,e33,e34,e35,hlt',hAr.addr',hlt,ht,htl,hbl,sr]
   have hstep:∀ (m2:aF) (K:bY→Prop),m.next≤m2.next→(∀ j kk,m.at_ j=some kk→j < m.next→m2.at_ j=some kk)→(∀ lv' m',cY m' 104 3 lv' (1+(i+1)) (jY ((row,2,W)::iR (al.take (i+1))))→K ⟨lv',m',none⟩)→eG (dW Tryz.prog 104 m2 v11 (.tree 1 1 [.val (.int .i64 x.1),.val (.int .u8 1),.val (.int .i64 x.2)] true)) K:=by
    intro m2 K hn hk hK
    rcases hJ.out with ⟨hi0,rfl⟩ | ⟨hi0,hown⟩
    ·subst hi0
     have h1:cH Tryz.prog 104=some 3:=by kernel_rfl
     have h2:hY Tryz.prog 104=some 24:=by kernel_rfl
     have h3:eX Tryz.prog 104=some [.int .i64 0,.int .u8 0,.int .i64 0]:=by kernel_rfl
     have h4:bW Tryz.prog 104 = .flat:=by kernel_rfl
     have:dW Tryz.prog 104 m2 (.tree 1 1 [.val (.int .i64 row),.val (.int .u8 2),.val (.int .i64 W)] true) (.tree 1 1 [.val (.int .i64 x.1),.val (.int .u8 1),.val (.int .i64 x.2)] true)=some ⟨.sl m2.next 0 2 2 false,m2.push ⟨[.val (.int .i64 row),.val (.int .u8 2),.val (.int .i64 W)]++[.val (.int .i64 x.1),.val (.int .u8 1),.val (.int .i64 x.2)],104,.flat,true⟩,none⟩:=by
      simp only [dW,h1,h2,h3,h4,hsr.out m2,dR,Option.bind_some]
      simp [bO]
     rw [this]
     refine hK _ _ ⟨.inr ⟨m2.next,rfl, ?_,by rw [aW];omega,by omega⟩, ?_⟩
     ·rw [aH,if_pos rfl,hcell.out];rfl
     ·rw [aoy,List.length_cons,ae6,List.length_take];omega
    ·have ho2:cY m2 104 3 v11 (1+i) (jY ((row,2,W)::iR (al.take i))):=hown.keep hn fun j kk hj hk2=>by
      rcases hown.form with ⟨h,_⟩ | ⟨b,h,_,hb2,_⟩
      ·rw [h] at hj;simp [cF,aO] at hj
      ·rw [h] at hj
       simp only [cF,Option.some.injEq] at hj
       exact hk j kk hk2 (by omega)
     refine oT (kd := .flat) (sz:=3) (y:=24) (zl:=[.int .i64 0,.int .u8 0,.int .i64 0]) (by kernel_rfl) ho2 (by kernel_rfl) (by kernel_rfl) (by kernel_rfl) rfl (hsr.out m2 _ _ _) rfl (by omega) (by omega) ?_
     intro lv' m' ho' hn'
     rw [←hcell.out] at ho'
     exact hK _ _ (by rw [show 1+(i+1)=1+i+1 by omega];exact ho')
   refine hstep _ _ (by simp only [aZ,aW];omega) (fun j kk hj hjl=>by rw [aG,if_neg (by omega),aH,if_neg (by omega)];exact hj) ?_
   intro lv' m' ho'
   replace ho':=aB.mk ho'
   clear hstep
   simp only [↓pre,simprocAttr,aA,sx,xL,aE,aC,aL,hf,ho,aJ,aK,aG,aH,hv11,e33,e34,e35,wi,sr]
   exact ⟨q - 1,by have:=hq.out;omega,i+1,by have:=hq.out;omega,rfl,⟨.inr ⟨by omega,ho'.out⟩⟩⟩
  ·have hlt':¬ ((i:Nat):Int) < ((al.length:Nat):Int):=by omega
   have hi:i=al.length:=by have:=hq.out;omega
   have hfin:∃ kk,fzT kk m v11=some (sX ((row,2,W)::iR al)):=by
    rcases hJ.out with ⟨hi0,rfl⟩ | ⟨hi0,hown⟩
    ·have:al=[]:=List.eq_nil_of_length_eq_zero (by omega)
     subst this
     exact ⟨0,vO⟩
    ·rw [hi,List.take_length] at hown
     refine ⟨0, ?_⟩
     rw [tY hown 0]
     unfold bJ sX
     rw [if_neg (by omega)]
     have:((row,2,W)::iR al).length=1+al.length:=by rw [List.length_cons,ae6];omega
     rw [this,decide_eq_false (by omega)]
   obtain ⟨kk,hfin⟩:=hfin
   replace hfin:=aB.mk hfin
   simp only [↓pre,simprocAttr,aA,sx,xL,aE,aC,aL,hf,ho,aJ,aK,aG,aH,hv11,e33,e34,e35,hlt',sr]
   exact ⟨kk,by rw [j6,dY,hfin.out,Option.bind_some,dY,fZ,i7];rfl⟩
 ·rw [if_neg hE] at hob ⊢
  unfold oJ aO at hob
  simp only [aD] at hob
  refine bZ follows Tryz.func63 (by unfold Tryz.f63;rfl) (by unfold Tryz.f63;simp) aE (by unfold Tryz.f63;simp) (by kernel_rfl) ?_;unfold Tryz.f63
  simp only [↓pre,simprocAttr,aA,sx,xL,aE,aC,aL,hf,ho,aJ,aK,aG,aH,sr]
  refine aM (hob) (by simp only [aA,aV, *]) ?_;simp only [↓pre,simprocAttr,aA,sx,xL,aE,aC,aL,hf,ho,aJ,aK,aG,aH,hE,sr]
  exact ⟨1,iI (b8 (.slice none 0 0)) (b8 (.int .i64 (gM k r c w L row))) 1 _⟩
theorem aoA (k r c w row:Int) (v:AV) (L:List (List UInt8)) (cells:List AV) (hv:gI v L cells) (hE:¬ gM k r c w L row=0):aX Tryz.prog 61 [d5 k r c w v,aD row] ⟨.tup [aO,aD (gM k r c w L row)],[]⟩:=by
 refine eA ?_
 have hp:=hv.rd.plain
 have hf:=cM hv.rd
 have ho:=b6 hv.rd
 have hst:=ahE k r c w row v L cells hv
 unfold aaj at hst
 unfold d5 at hst ⊢
 rw [if_neg hE] at hst
 unfold aO at hst
 simp only [aD] at hst
 refine bZ follows Tryz.func61 (by unfold Tryz.f61;rfl) (by unfold Tryz.f61;simp) aE (by unfold Tryz.f61;simp) (by kernel_rfl) ?_;unfold Tryz.f61
 simp only [↓pre,simprocAttr,aA,sx,vS,aE,aC,hf,ho,sr]
 refine aM (hst) (by simp only [aA,aV, *]) ?_;simp only [↓pre,simprocAttr,aA,sx,vS,aE,aC,hf,ho,hE,sr]
 exact ⟨1,iI (b8 (.slice none 0 0)) (b8 (.int .i64 (gM k r c w L row))) 1 _⟩
theorem avW:aX Tryz.prog 57 [] ⟨bB true,[]⟩:=by
 have hE:gM 0 0 0 0 [] 0=2:=by
  have h3:kH 0 0 0 0 []=2:=by
   unfold kH
   rw [if_neg (by decide)]
  have h2:iM 0 0 0 0 [] 0=2:=by
   unfold iM
   rw [h3,if_neg (by decide)]
  unfold gM
  rw [h2,if_neg (by decide)]
 have h1:=aoA 0 0 0 0 0 aO [] [] ⟨⟨.inl ⟨rfl,rfl⟩⟩,fun i b h=>by simp at h⟩ (by rw [hE];decide)
 rw [hE] at h1
 unfold d5 aO at h1
 simp only [aD] at h1
 refine bE follows Tryz.func57 (by unfold Tryz.f57;rfl) (by unfold Tryz.f57;simp) aE (by unfold Tryz.f57;simp) (by kernel_rfl) ?_;unfold Tryz.f57
 simp only [↓pre,simprocAttr,aA,sx,alb,aE,aC,sr]
 refine aM (h1) (by rfl) ?_;simp only [↓pre,simprocAttr,aA,sx,alb,aE,aC,sr]
theorem avX (k r c w:Int) (v:AV) (L:List (List UInt8)) (cells:List AV) (hv:gI v L cells):aX Tryz.prog 58 [d5 k r c w v] ⟨bB (bU k r c w && decide (400 < (k+r)*w)),[]⟩:=by
 have hp:=hv.rd.plain
 have hf:=cM hv.rd
 have ho:=b6 hv.rd
 have h1:=abe k r c w
 have h2:=fun h=>uP k r c w h
 unfold d5
 cases hm:bU k r c w with
 | false =>
  rw [hm] at h1
  replace h2:=aB.mk h2
  refine bE follows Tryz.func58 (by unfold Tryz.f58;rfl) (by unfold Tryz.f58;simp) aE (by unfold Tryz.f58;simp) (by kernel_rfl) ?_;unfold Tryz.f58
  simp only [↓pre,simprocAttr,aA,sx,aci,aE,aC,hf,ho,sr]
  (refine cE (h1) (by rfl) (by intro k;rfl) ?_);simp only [↓pre,simprocAttr,aA,sx,aci,aE,aC,hf,ho,sr]
 | true =>
  rw [hm] at h1
  have h2:=h2 hm
  have hb:=ahp hm
  have wm:IntKind.i64.wrap ((k+r)*w)=(k+r)*w:=eD (by omega) (by omega)
  replace hb:=aB.mk hb
  refine bE follows Tryz.func58 (by unfold Tryz.f58;rfl) (by unfold Tryz.f58;simp) aE (by unfold Tryz.f58;simp) (by kernel_rfl) ?_;unfold Tryz.f58
  simp only [↓pre,simprocAttr,aA,sx,aci,aE,aC,hf,ho,sr]
  (refine cE (h1) (by rfl) (by intro k;rfl) ?_);simp only [↓pre,simprocAttr,aA,sx,aci,aE,aC,hf,ho,wm,sr];(refine cE (h2) (by rfl) (by intro k;rfl) ?_);simp only [↓pre,simprocAttr,aA,sx,aci,aE,aC,hf,ho,wm,sr]
end Go.Proofs.YtaekhhlgnbhnpaaGreat