import Derived.Test.YtaekhhlgnbhnpaaGreatOzcG21
import Derived.Test.YtaekhhlgnbhnpaaGreatOzcG20
import Derived.Test.YtaekhhlgnbhnpaaGreatOzcG16
set_option linter.unusedVariables false
set_option linter.unusedSimpArgs false
set_option maxRecDepth 10000
namespace Go.Proofs.YtaekhhlgnbhnpaaGreat
open Go Go.Tw Go.Proofs Go.Gf
theorem avc {N:Nat} {M0:Mx} (hM:aey N M0) {i:Nat} (hi:i < N):(rsol N (lL N M0) N).2 i i≠0:=by
 have h:=aex hM N (Nat.le_refl _)
 obtain ⟨hn,f,hf,hr⟩:=agW M0 N (Nat.le_refl _)
 rw [(hr i hi i hi).1,h.unit i i hi hi,if_pos rfl,uS]
 exact hf i hi
theorem aog {m:aF} {b n w:Nat} {f:Bool} {F:Nat→UInt8} {v:AV} {x:List AV} (hb:m.at_ b=some ⟨bA w (fun _=>0),5,.flat,true⟩) (hv:bC v n (bA n F++x)) (hn:n≤w):sZ Tryz.prog 5 m (.sl b 0 w w f) v=some ⟨aD (n:Nat),m.put b (some ⟨bA w (fun j=>if j < n then F j else 0),5,.flat,true⟩),none⟩:=by
 have h1:cH Tryz.prog 5=some 1:=by kernel_rfl
 have h4:bW Tryz.prog 5 = .flat:=by kernel_rfl
 have hs:=hv.src (P:=Tryz.prog) (m:=m) (el:=5) (sz:=1) (by rw [List.length_append,fC];omega)
 have ht:(bA n F++x).take (n*1)=bA n F:=by rw [Nat.mul_one,List.take_append_of_le_length (by rw [fC];omega),List.take_of_length_le (by rw [fC];omega)]
 rw [ht] at hs
 have hsp:cN (bA w fun _=>0) 0 (bA n F)=bA w (fun j=>if j < n then F j else 0):=by
  refine List.ext_getElem? fun i => ?_
  unfold cN
  rw [List.take_zero,List.nil_append,Nat.zero_add,fC]
  by_cases h5:i < n
  ·rw [List.getElem?_append_left (by rw [fC];omega),iN F h5,iN _ (by omega),if_pos h5]
  ·rw [List.getElem?_append_right (by rw [fC];omega),fC,List.getElem?_drop]
   by_cases h6:i < w
   ·rw [show n+(i - n)=i by omega,iN _ h6,iN _ h6,if_neg h5]
   ·rw [List.getElem?_eq_none (by rw [fC];omega),List.getElem?_eq_none (by rw [fC];omega)]
 simp only [sZ,h1,hs,hb,Option.bind_some,h4]
 rw [if_pos ⟨trivial,trivial,by rw [fC];omega⟩,Nat.min_eq_left hn,Nat.mul_one,List.take_of_length_le (by rw [fC];omega),hsp]
 rfl
def nN:Nat→Bool:=fun d=>d != 36 && d != 41 && d != 72 && d != 77 && d != 82 && d != 86 && d != 89
theorem avd (v:AV) (n:Nat) (M:Mx) (cells:List AV) (hv:sG v n n M cells) (hn:1≤n) (hn2:n≤16) (hM:aey n M):aX Tryz.prog 310 [v] ⟨.tup [.tree n n (mG true n n (lV n M)) false,aD 0],[]⟩:=by
 refine eA ?_
 have hp:=hv.rd.plain
 have hck:=au3 v n n M cells hv hn (by omega) hn (by omega)
 have hb1:=fun m=>ahy m n (2*n) (by omega) (by omega)
 have hb2:=fun m=>ahy m n n (by omega) (by omega)
 have hso:=fun m b g β h=>avb m b n (2*n) g β (lL n M) hn hn2 (by omega) (by omega) h
 obtain ⟨hok,hval⟩:=as8 hM
 have hdg:=fun i hi=>avc (N:=n) (M0:=M) hM (i:=i) hi
 rw [hok] at hso
 obtain ⟨a0,x0,hc0,hr0⟩:=hv.at_ 0 (by omega)
 have hn0:0 < n:=by omega
 have hnn:¬ ((n:Nat):Int) < ((n:Nat):Int):=by omega
 have w2:IntKind.i64.wrap (2*((n:Nat):Int))=((2*n:Nat):Int):=by rw [eD (by omega) (by omega)];omega
 have hcopy:=fun m b F v x hb hv=>aog (m:=m) (b:=b) (n:=n) (w:=2*n) (f:=true) (F:=F) (v:=v) (x:=x) hb hv (by omega)
 replace hb1:=aB.mk hb1
 replace hb2:=aB.mk hb2
 replace hso:=aB.mk hso
 replace hval:=aB.mk hval
 replace hdg:=aB.mk hdg
 replace hok:=aB.mk hok
 replace hcopy:=aB.mk hcopy
 generalize hX:(rsol n (lL n M) n).2=X at *
 refine bZ follows Tryz.func310 (by unfold Tryz.f310;rfl) (by unfold Tryz.f310;simp) nN (by unfold Tryz.f310;simp) (by kernel_rfl) ?_;unfold Tryz.f310
 simp only [↓pre,simprocAttr,aA,sx,nY,nN,bne,aC,aI,c8,lX,aJ,aG,aH,cG,aU,sr]
 refine aM (hck) (by simp only [aA,aV, *]) ?_;simp only [↓pre,simprocAttr,aA,sx,nY,nN,bne,aC,aI,c8,lX,aJ,aG,aH,cG,aU,hv.rd.len',hv.rd.addr',hn0,hc0,hr0.len',w2,sr]
 refine m9 (hb1.out _) ?_
 rintro r m1 ⟨β0,hB⟩
 obtain ⟨b,rfl,hT,_,_⟩:=hB.mat hn
 replace hB:=aB.mk hB
 simp only [↓pre,simprocAttr,aA,sx,nY,nN,bne,aC,aI,c8,lX,aJ,aG,aH,cG,aU,sr]
 rw [b9]
 refine xE (fun e m=>∃ β,e 4=aD (n:Nat)∧e 5 = .sl b 0 n n false∧aB (dG m b n (2*n) n true β (lL n M))) (fun e m hR => ?_) ?_
 ·obtain ⟨β,e4,e5,hX0⟩:=hR
  simp only [↓pre,simprocAttr,aA,sx,nY,nN,bne,aC,aI,c8,lX,aJ,aG,aH,cG,aU,e4,e5,sr]
  refine m9 (hso.out _ _ _ _ hX0.out) ?_
  rintro r m2 ⟨β2,rfl,hX2⟩
  replace hX2:=aB.mk hX2
  simp only [↓pre,simprocAttr,aA,sx,nY,nN,bne,aC,aI,c8,lX,aJ,aG,aH,cG,aU,e4,e5,hnn,sr]
  refine m9 (hb2.out _) ?_
  rintro r m3 ⟨γ,hB2⟩
  obtain ⟨c,rfl,hO,hc,hγ⟩:=hB2.mat hn
  have hbl:=hX2.out.lt
  have hβl:=fun i hi=>(hX2.out.own i hi).1
  have hX3:dG m3 b n (2*n) n true β2 X:=hX2.out.keep hB2.kept.next fun j k hj hl _=>hB2.kept.at_ j k hj hl
  replace hB2:=aB.mk hB2
  replace hX3:=aB.mk hX3
  replace hO:=aB.mk hO
  replace hβl:=aB.mk hβl
  replace hγ:=aB.mk hγ
  have hbc:¬ c=b:=by omega
  generalize hV:(fun i j=>aR (X i (n+j)) (cR (X i i)))=V
  simp only [↓pre,simprocAttr,aA,sx,nY,nN,bne,aC,aI,c8,lX,aJ,aG,aH,cG,aU,e4,e5,sr]
  rw [b9]
  refine cA (fun q e m=>∃ i,q+i=n∧e 4=aD (n:Nat)∧e 5 = .sl b 0 n n false∧e 7 = .sl c 0 n n false∧e 8=aD (i:Nat)∧aB (dG m b n (2*n) n true β2 X∧dG m c n n n true γ (fun i' j'=>if i' < i then V i' j' else 0))) n ⟨0,by omega,e4,e5,rfl,rfl,⟨hX3.out,hO.out.congr fun i hi j hj=>by rw [if_neg (by omega)]⟩⟩ ?_
  clear e4 e5
  rintro q e m ⟨i,hq,e4,e5,e7,e8,hJ⟩
  replace hq:=aB.mk hq
  by_cases hlt:i < n
  ·have hlt':((i:Nat):Int) < ((n:Nat):Int):=by omega
   have w1:=cI (n:=i) (by omega)
   simp only [↓pre,simprocAttr,aA,sx,nY,nN,bne,aC,aI,c8,lX,aJ,aG,aH,cG,aU,e4,e5,e7,e8,hlt',sr]
   rw [b9]
   refine anG (fun e m=>e 4=aD (n:Nat)∧e 5 = .sl b 0 n n false∧e 7 = .sl c 0 n n false∧e 8=aD (i:Nat)∧aB (dG m b n (2*n) n true β2 X∧dG m c n n n true γ (fun i' j'=>if i' < i+1 then V i' j' else 0))) (fun e m hR => ?_) ?_
   ·clear e4 e5 e7 e8
    obtain ⟨e4,e5,e7,e8,hE⟩:=hR
    simp only [↓pre,simprocAttr,aA,sx,nY,nN,bne,aC,aI,c8,lX,aJ,aG,aH,cG,aU,e4,e5,e7,e8,w1,sr]
    exact ⟨q - 1,by have:=hq.out;omega,i+1,by have:=hq.out;omega,rfl,hE⟩
   ·refine cA (fun q' e m=>∃ j,q'+j=n∧e 4=aD (n:Nat)∧e 5 = .sl b 0 n n false∧e 7 = .sl c 0 n n false∧e 8=aD (i:Nat)∧e 9=aD (j:Nat)∧aB (dG m b n (2*n) n true β2 X∧dG m c n n n true γ (fun i' j'=>if i' < i then V i' j' else if i'=i∧j' < j then V i' j' else 0))) n ⟨0,by omega,e4,e5,e7,e8,rfl,⟨hJ.out.1,hJ.out.2.congr fun i' hi' j' hj'=>by rw [if_neg (show ¬ (i'=i∧j' < 0) by omega)]⟩⟩ ?_
    clear e4 e5 e7 e8
    rintro q' e m' ⟨j,hq',e4,e5,e7,e8,e9,hJ2⟩
    replace hq':=aB.mk hq'
    by_cases hl2:j < n
    ·have hl2':((j:Nat):Int) < ((n:Nat):Int):=by omega
     have w3:=cI (n:=j) (by omega)
     have wp:IntKind.i64.wrap (((n:Nat):Int)+((j:Nat):Int))=((n+j:Nat):Int):=by rw [eD (by omega) (by omega)];omega
     obtain ⟨hXm,hOm⟩:=hJ2.out
     obtain ⟨cx,hrx,_,hax⟩:=hXm.row
     obtain ⟨co,hro,_,hao⟩:=hOm.row
     have hxi:=hax i hlt
     have hoi:=hao i hlt
     obtain ⟨_,hbx⟩:=hXm.own i hlt
     obtain ⟨_,hbo⟩:=hOm.own i hlt
     have hc1:(fun j'=>if i < i then V i j' else if i=i∧j' < j then V i j' else 0)=fun j'=>if j' < j then V i j' else 0:=by
      funext j'
      rw [if_neg (Nat.lt_irrefl _)]
      by_cases h1:j' < j
      ·rw [if_pos ⟨rfl,h1⟩,if_pos h1]
      ·rw [if_neg (fun h=>h1 h.2),if_neg h1]
     rw [hc1] at hbo
     have hnj:n+j < 2*n:=by omega
     have hin:i < 2*n:=by omega
     have hx1:=iN (w:=2*n) (X i) hnj
     have hx2:=iN (w:=2*n) (X i) hin
     have hdv:=aoc (X i (n+j)) (X i i)
     rw [if_neg (hdg.out i hlt),if_neg (hdg.out i hlt),show aR (X i (n+j)) (cR (X i i))=V i j by rw [←hV]] at hdv
     have hput:=ac0 (fun j'=>V i j') (fun _=>0) hl2
     have hl1:j+1≤(bA n fun j'=>if j' < j then V i j' else 0).length:=by rw [fC];omega
     have hnew:dG (m'.put (γ i) (some ⟨bA n (fun j'=>if j' < j+1 then V i j' else 0),5,.flat,true⟩)) b n (2*n) n true β2 X∧dG (m'.put (γ i) (some ⟨bA n (fun j'=>if j' < j+1 then V i j' else 0),5,.flat,true⟩)) c n n n true γ (fun i' j'=>if i' < i then V i' j' else if i'=i∧j' < j+1 then V i' j' else 0):=by
      refine ⟨hXm.put_other (by have:=hγ.out i hlt;omega) fun i' hi'=>by have:=hγ.out i hlt;have:=hβl.out i' hi';omega,(hOm.put_row hlt _).congr fun i' hi' j' hj' => ?_⟩
      by_cases h2:i'=i
      ·subst h2
       rw [if_pos rfl,if_neg (Nat.lt_irrefl _)]
       by_cases h1:j' < j+1
       ·rw [if_pos h1,if_pos ⟨rfl,h1⟩]
       ·rw [if_neg h1,if_neg (fun h=>h1 h.2)]
      ·rw [if_neg h2,if_neg (show ¬ (i'=i∧j' < j) by omega),if_neg (show ¬ (i'=i∧j' < j+1) by omega)]
     simp only [aU] at hx1 hx2 hdv
     replace hax:=aB.mk hax
     replace hao:=aB.mk hao
     replace hc1:=aB.mk hc1
     replace hXm:=aB.mk hXm
     replace hOm:=aB.mk hOm
     replace hnew:=aB.mk hnew
     simp only [↓pre,simprocAttr,aA,sx,nY,nN,bne,aC,aI,c8,lX,aJ,aG,aH,cG,aU,e4,e5,e7,e8,e9,hl2',hlt,hl2,hrx,hro,hxi,hoi,hbx,wp,hnj,hin,hx1,hx2,sr]
     (refine cE (hdv) (by rfl) (by intro k;rfl) ?_);simp only [↓pre,simprocAttr,aA,sx,nY,nN,bne,aC,aI,c8,lX,aJ,aG,aH,cG,aU,e4,e5,e7,e8,e9,hlt,hl2,hbo,hl1,hput,sr]
     refine dJ (by kernel_rfl) ?_
     simp only [↓pre,simprocAttr,aA,sx,nY,nN,bne,aC,aI,c8,lX,aJ,aG,aH,cG,aU,e4,e5,e7,e8,e9,w3,sr]
     exact ⟨q' - 1,by have:=hq'.out;omega,j+1,by have:=hq'.out;omega,rfl,hnew⟩
    ·have hl2':¬ ((j:Nat):Int) < ((n:Nat):Int):=by omega
     have hj:j=n:=by have:=hq'.out;omega
     have hfin:dG m' c n n n true γ (fun i' j'=>if i' < i+1 then V i' j' else 0):=hJ2.out.2.congr fun i' hi' j' hj'=>by
      by_cases h1:i' < i
      ·rw [if_pos h1,if_pos (by omega)]
      ·rw [if_neg h1]
       by_cases h2:i'=i
       ·rw [if_pos ⟨h2,by omega⟩,if_pos (by omega)]
       ·rw [if_neg (by omega),if_neg (by omega)]
     have hx:=hJ2.out.1
     replace hfin:=aB.mk hfin
     replace hx:=aB.mk hx
     simp only [↓pre,simprocAttr,aA,sx,nY,nN,bne,aC,aI,c8,lX,aJ,aG,aH,cG,aU,e4,e5,e7,e8,e9,hl2',sr]
     exact ⟨⟨hx.out,hfin.out⟩⟩
  ·have hlt':¬ ((i:Nat):Int) < ((n:Nat):Int):=by omega
   have hi:i=n:=by have:=hq.out;omega
   have hfin:dG m c n n n true γ (lV n M):=hJ.out.2.congr fun i' hi' j' hj'=>by
    rw [if_pos (by omega),←hV]
    exact hval.out i' j' hi' hj'
   replace hfin:=aB.mk hfin
   simp only [↓pre,simprocAttr,aA,sx,nY,nN,bne,aC,aI,c8,lX,aJ,aG,aH,cG,aU,e4,e5,e7,e8,hlt',sr]
   exact ⟨1,by rw [j6,dY,hfin.out.fzT,Option.bind_some,dY,fZ,i7];rfl⟩
 ·refine cA (fun q e m=>∃ i,q+i=n∧e 0=v∧e 4=aD (n:Nat)∧e 5 = .sl b 0 n n false∧e 6=aD (i:Nat)∧aB (dG m b n (2*n) n true β0 (fun i' q=>if i' < i then lL n M i' q else 0))) n ⟨0,by omega,rfl,rfl,rfl,rfl,⟨hT.congr fun i hi j hj=>by rw [if_neg (by omega)]⟩⟩ ?_
  rintro q e m ⟨i,hq,e0,e4,e5,e6,hJ⟩
  replace hq:=aB.mk hq
  by_cases hlt:i < n
  ·have hlt':((i:Nat):Int) < ((n:Nat):Int):=by omega
   have w1:=cI (n:=i) (by omega)
   have wp:IntKind.i64.wrap (((n:Nat):Int)+((i:Nat):Int))=((n+i:Nat):Int):=by rw [eD (by omega) (by omega)];omega
   obtain ⟨a,x,hca,hra⟩:=hv.at_ i hlt
   obtain ⟨cells1,hrow,hcl,hat⟩:=hJ.out.row
   have hci:=hat i hlt
   obtain ⟨_,hbk⟩:=hJ.out.own i hlt
   have hc1:(fun q=>if i < i then lL n M i q else 0)=fun _=>(0:UInt8):=by funext q;rw [if_neg (Nat.lt_irrefl _)]
   rw [hc1] at hbk
   have hcp:=hcopy.out m (β0 i) (M i) a x hbk hra
   replace hat:=aB.mk hat
   replace hc1:=aB.mk hc1
   have hne:=hJ.out.ne hlt
   have hne':¬ b=β0 i:=fun h=>hne h.symm
   have hl1:n+i+1≤(bA (2*n) fun j=>if j < n then M i j else 0).length:=by rw [fC];omega
   have hni:n+i < 2*n:=by omega
   simp only [↓pre,simprocAttr,aA,sx,nY,nN,bne,aC,aI,c8,lX,aJ,aG,aH,cG,aU,e0,e4,e5,e6,hlt',hlt,hrow,hci,hv.rd.addr',hca,hcp,sr]
   refine dJ (by kernel_rfl) ?_
   have hput:List.take (n+i) (bA (2*n) fun j=>if j < n then M i j else 0)++[AV.val (.int .u8 1)]++List.drop (n+i+1) (bA (2*n) fun j=>if j < n then M i j else 0)=bA (2*n) (lL n M i):=by
    have h:=x4 (w:=2*n) (f:=fun j=>if j < n then M i j else 0) (g:=lL n M i) hni fun j hj=>by
     unfold lL
     by_cases h1:j < n
     ·rw [if_pos h1,if_neg (by omega),if_pos h1]
     ·rw [if_neg h1,if_neg h1]
      by_cases h2:j=n+i
      ·rw [if_pos h2,if_pos h2,if_neg (by omega),if_pos rfl]
      ·rw [if_neg h2,if_neg h2]
    have hb:lL n M i (n+i)=1:=by unfold lL;rw [if_neg (by omega),if_pos rfl]
    rw [hb] at h
    exact h
   have hnew:dG (m.put (β0 i) (some ⟨bA (2*n) (lL n M i),5,.flat,true⟩)) b n (2*n) n true β0 (fun i' q=>if i' < i+1 then lL n M i' q else 0):=(hJ.out.put_row hlt _).congr fun i' hi' q hq=>by
    by_cases h2:i'=i
    ·subst h2
     rw [if_pos rfl,if_pos (by omega)]
    ·rw [if_neg h2]
     by_cases h1:i' < i
     ·rw [if_pos h1,if_pos (by omega)]
     ·rw [if_neg h1,if_neg (by omega)]
   replace hnew:=aB.mk hnew
   simp only [↓pre,simprocAttr,aA,sx,nY,nN,bne,aC,aI,c8,lX,aJ,aG,aH,cG,aU,e0,e4,e5,e6,hlt,hrow,hci,hne',wp,hni,hl1,hput,x7,w1,sr]
   exact ⟨q - 1,by have:=hq.out;omega,i+1,by have:=hq.out;omega,rfl,hnew⟩
  ·have hlt':¬ ((i:Nat):Int) < ((n:Nat):Int):=by omega
   have hi:i=n:=by have:=hq.out;omega
   have hfin:dG m b n (2*n) n true β0 (lL n M):=hJ.out.congr fun i' hi' q hq=>by rw [if_pos (by omega)]
   replace hfin:=aB.mk hfin
   simp only [↓pre,simprocAttr,aA,sx,nY,nN,bne,aC,aI,c8,lX,aJ,aG,aH,cG,aU,e0,e4,e5,e6,hlt',sr]
   exact ⟨_,hfin⟩
def u7:Nat→Bool:=fun d=>d != 40
theorem ave (k r:Nat) (hk:1≤k) (hk2:k≤12) (hr:1≤r) (hr2:r≤4):aX Tryz.prog 333 [aD (k:Nat),aD (r:Nat)] ⟨.tup [.tree r r (mG true r k (gV k)) false,aD 0],[]⟩:=by
 refine eA ?_
 have hb1:=fun m=>ahy m r k (by omega) (by omega)
 replace hb1:=aB.mk hb1
 have k1:¬ ((k:Nat):Int) < 1:=by omega
 have k2:¬ (12:Int) < ((k:Nat):Int):=by omega
 have k3:¬ ((r:Nat):Int) < 1:=by omega
 have k4:¬ (4:Int) < ((r:Nat):Int):=by omega
 have hx:=abp
 refine bZ follows Tryz.func333 (by unfold Tryz.f333;rfl) (by unfold Tryz.f333;simp) u7 (by unfold Tryz.f333;simp) (by kernel_rfl) ?_;unfold Tryz.f333
 simp only [↓pre,simprocAttr,aA,sx,vW,u7,bne,aC,aI,aL,c8,aJ,aG,aH,cG,aU,k1,k2,k3,k4,sr]
 refine m9 (hb1.out _) ?_
 rintro res m1 ⟨β,hB⟩
 obtain ⟨b,rfl,hT,_,_⟩:=hB.mat hr
 replace hB:=aB.mk hB
 simp only [↓pre,simprocAttr,aA,sx,vW,u7,bne,aC,aI,aL,c8,aJ,aG,aH,cG,aU,sr]
 rw [b9]
 refine cA (fun q e m=>∃ i,q+i=r∧e 0=aD (k:Nat)∧e 1=aD (r:Nat)∧e 6 = .sl b 0 r r false∧e 7=aD (i:Nat)∧aB (dG m b r k r true β (fun i' j'=>if i' < i then gV k i' j' else 0))) r ⟨0,by omega,rfl,rfl,rfl,rfl,⟨hT.congr fun i hi j hj=>by rw [if_neg (by omega)]⟩⟩ ?_
 rintro q e m ⟨i,hq,e0,e1,e6,e7,hJ⟩
 replace hq:=aB.mk hq
 by_cases hlt:i < r
 ·have hlt':((i:Nat):Int) < ((r:Nat):Int):=by omega
  have w1:=cI (n:=i) (by omega)
  have wki:IntKind.i64.wrap (((k:Nat):Int)+((i:Nat):Int))=((k+i:Nat):Int):=by rw [←Int.natCast_add];exact dT (by omega)
  have u1:=x5 (n:=k+i) (by omega)
  simp only [↓pre,simprocAttr,aA,sx,vW,u7,bne,aC,aI,aL,c8,aJ,aG,aH,cG,aU,e0,e1,e6,e7,hlt',sr]
  rw [b9]
  refine anG (fun e m=>e 0=aD (k:Nat)∧e 1=aD (r:Nat)∧e 6 = .sl b 0 r r false∧e 7=aD (i:Nat)∧aB (dG m b r k r true β (fun i' j'=>if i' < i+1 then gV k i' j' else 0))) (fun e m hR => ?_) ?_
  ·clear e0 e1 e6 e7
   obtain ⟨e0,e1,e6,e7,hE⟩:=hR
   simp only [↓pre,simprocAttr,aA,sx,vW,u7,bne,aC,aI,aL,c8,aJ,aG,aH,cG,aU,e0,e1,e6,e7,w1,sr]
   exact ⟨q - 1,by have:=hq.out;omega,i+1,by have:=hq.out;omega,rfl,hE⟩
  ·refine cA (fun q' e m=>∃ j,q'+j=k∧e 0=aD (k:Nat)∧e 1=aD (r:Nat)∧e 6 = .sl b 0 r r false∧e 7=aD (i:Nat)∧e 8=aD (j:Nat)∧aB (dG m b r k r true β (fun i' j'=>if i' < i then gV k i' j' else if i'=i∧j' < j then gV k i' j' else 0))) k ⟨0,by omega,e0,e1,e6,e7,rfl,⟨hJ.out.congr fun i' hi' j' hj'=>by rw [if_neg (show ¬ (i'=i∧j' < 0) by omega)]⟩⟩ ?_
   clear e0 e1 e6 e7
   rintro q' e m' ⟨j,hq',e0,e1,e6,e7,e8,hJ2⟩
   replace hq':=aB.mk hq'
   by_cases hl2:j < k
   ·have hl2':((j:Nat):Int) < ((k:Nat):Int):=by omega
    have w3:=cI (n:=j) (by omega)
    have u2:=x5 (n:=j) (by omega)
    obtain ⟨co,hro,_,hao⟩:=hJ2.out.row
    have hoi:=hao i hlt
    obtain ⟨_,hbo⟩:=hJ2.out.own i hlt
    have hc1:(fun j'=>if i < i then gV k i j' else if i=i∧j' < j then gV k i j' else 0)=fun j'=>if j' < j then gV k i j' else 0:=by
     funext j'
     rw [if_neg (Nat.lt_irrefl _)]
     by_cases h1:j' < j
     ·rw [if_pos ⟨rfl,h1⟩,if_pos h1]
     ·rw [if_neg (fun h=>h1 h.2),if_neg h1]
    rw [hc1] at hbo
    have hne:UInt8.ofNat (k+i) ^^^ UInt8.ofNat j≠0:=uT fun e=>by
     have:=congrArg UInt8.toNat e
     rw [mD (by omega),mD (by omega)] at this
     omega
    have hI:=aob (UInt8.ofNat (k+i) ^^^ UInt8.ofNat j)
    have hM:gV k i j=cR (UInt8.ofNat (k+i) ^^^ UInt8.ofNat j):=by unfold gV fJ;rw [if_neg (by omega)]
    rw [if_neg hne,if_neg hne,←hM] at hI
    have hxx:=hx (UInt8.ofNat (k+i)) (UInt8.ofNat j)
    generalize UInt8.ofNat (k+i) ^^^ UInt8.ofNat j=z at *
    have hput:=ac0 (fun j'=>gV k i j') (fun _=>0) hl2
    have hl1:j+1≤(bA k fun j'=>if j' < j then gV k i j' else 0).length:=by rw [fC];omega
    have hnew:dG (m'.put (β i) (some ⟨bA k (fun j'=>if j' < j+1 then gV k i j' else 0),5,.flat,true⟩)) b r k r true β (fun i' j'=>if i' < i then gV k i' j' else if i'=i∧j' < j+1 then gV k i' j' else 0):=(hJ2.out.put_row hlt _).congr fun i' hi' j' hj'=>by
     by_cases h2:i'=i
     ·subst h2
      rw [if_pos rfl,if_neg (Nat.lt_irrefl _)]
      by_cases h1:j' < j+1
      ·rw [if_pos h1,if_pos ⟨rfl,h1⟩]
      ·rw [if_neg h1,if_neg (fun h=>h1 h.2)]
     ·rw [if_neg h2,if_neg (show ¬ (i'=i∧j' < j) by omega),if_neg (show ¬ (i'=i∧j' < j+1) by omega)]
    simp only [aU] at hI
    replace hao:=aB.mk hao
    replace hc1:=aB.mk hc1
    replace hM:=aB.mk hM
    replace hne:=aB.mk hne
    replace hnew:=aB.mk hnew
    simp only [↓pre,simprocAttr,aA,sx,vW,u7,bne,aC,aI,aL,c8,aJ,aG,aH,cG,aU,e0,e1,e6,e7,e8,hl2',hlt,hl2,hro,hoi,wki,u1,u2,hxx,sr]
    (refine cE (hI) (by rfl) (by intro k;rfl) ?_);simp only [↓pre,simprocAttr,aA,sx,vW,u7,bne,aC,aI,aL,c8,aJ,aG,aH,cG,aU,e0,e1,e6,e7,e8,hlt,hl2,hbo,hl1,hput,sr]
    refine dJ (by kernel_rfl) ?_
    simp only [↓pre,simprocAttr,aA,sx,vW,u7,bne,aC,aI,aL,c8,aJ,aG,aH,cG,aU,e0,e1,e6,e7,e8,w3,sr]
    exact ⟨q' - 1,by have:=hq'.out;omega,j+1,by have:=hq'.out;omega,rfl,hnew⟩
   ·have hl2':¬ ((j:Nat):Int) < ((k:Nat):Int):=by omega
    have hj:j=k:=by have:=hq'.out;omega
    have hfin:dG m' b r k r true β (fun i' j'=>if i' < i+1 then gV k i' j' else 0):=hJ2.out.congr fun i' hi' j' hj'=>by
     by_cases h1:i' < i
     ·rw [if_pos h1,if_pos (by omega)]
     ·rw [if_neg h1]
      by_cases h2:i'=i
      ·rw [if_pos ⟨h2,by omega⟩,if_pos (by omega)]
      ·rw [if_neg (by omega),if_neg (by omega)]
    replace hfin:=aB.mk hfin
    simp only [↓pre,simprocAttr,aA,sx,vW,u7,bne,aC,aI,aL,c8,aJ,aG,aH,cG,aU,e0,e1,e6,e7,e8,hl2',sr]
    exact hfin
 ·have hlt':¬ ((i:Nat):Int) < ((r:Nat):Int):=by omega
  have hi:i=r:=by have:=hq.out;omega
  have hfin:dG m b r k r true β (gV k):=hJ.out.congr fun i' hi' j' hj'=>by rw [if_pos (by omega)]
  replace hfin:=aB.mk hfin
  simp only [↓pre,simprocAttr,aA,sx,vW,u7,bne,aC,aI,aL,c8,aJ,aG,aH,cG,aU,e0,e1,e6,e7,hlt',sr]
  exact ⟨1,by rw [j6,dY,hfin.out.fzT,Option.bind_some,dY,fZ,i7];rfl⟩
theorem aoh (k r:Nat) (hk:1≤k) (hk2:k≤12) (hr2:r≤4):aX Tryz.prog 305 [aD (k:Nat),aD (r:Nat)] ⟨bB true,[]⟩:=by
 have k1:(1:Int)≤((k:Nat):Int):=by omega
 have k2:((k:Nat):Int)≤12:=by omega
 have k3:(0:Int)≤((r:Nat):Int):=by omega
 have k4:((r:Nat):Int)≤4:=by omega
 refine bE follows Tryz.func305 (by unfold Tryz.f305;rfl) (by unfold Tryz.f305;simp) aE (by unfold Tryz.f305;simp) (by kernel_rfl) ?_;unfold Tryz.f305
 simp only [↓pre,simprocAttr,aA,sx,ara,aE,k1,k2,k3,k4,sr]
theorem aoi (k r cell:Nat) (hk:1≤k) (hk2:k≤12) (hr2:r≤4) (hc:cell < k+r):aX Tryz.prog 309 [aD (k:Nat),aD (r:Nat),aD (cell:Nat)] ⟨.tup [.tree k k (bA k (fJ k cell)) true,aD 0],[]⟩:=by
 refine eA ?_
 have hmy:=aoh k r hk hk2 hr2
 have k1:¬ ((cell:Nat):Int) < 0:=by omega
 have k2:¬ ((k+r:Nat):Int)≤((cell:Nat):Int):=by omega
 have wkr:IntKind.i64.wrap (((k:Nat):Int)+((r:Nat):Int))=((k+r:Nat):Int):=by rw [←Int.natCast_add];exact dT (by omega)
 have mk1:=fun m=>sH m (n:=k) (by omega)
 by_cases h:cell < k
 ·have h':¬ ((k:Nat):Int)≤((cell:Nat):Int):=by omega
  have hput:=x4 (w:=k) (f:=fun _=>0) (g:=fJ k cell) h fun j hj=>by
   unfold fJ
   rw [if_pos h,if_pos h,if_pos rfl]
   by_cases e:j=cell
   ·rw [if_pos e.symm,if_pos e]
   ·rw [if_neg (fun h=>e h.symm),if_neg e]
  have h1:fJ k cell cell=1:=by unfold fJ;rw [if_pos h,if_pos rfl]
  rw [h1] at hput
  have hput:List.take cell (bA k fun _=>0)++[AV.val (.int .u8 1)]++List.drop (cell+1) (bA k fun _=>0)=bA k (fJ k cell):=hput
  have hl1:cell+1≤(bA k fun _=>0).length:=by rw [fC];omega
  refine bZ follows Tryz.func309 (by unfold Tryz.f309;rfl) (by unfold Tryz.f309;simp) aE (by unfold Tryz.f309;simp) (by kernel_rfl) ?_;unfold Tryz.f309
  simp only [↓pre,simprocAttr,aA,sx,acA,aE,aC,aI,aL,aJ,aG,aH,cG,aU,sr]
  refine aM (hmy) (by rfl) ?_;simp only [↓pre,simprocAttr,aA,sx,acA,aE,aC,aI,aL,aJ,aG,aH,cG,aU,k1,k2,wkr,h',mk1,h,hl1,hput,sr]
  exact ⟨0,by rw [j6,dY,rU (by rw [aG,if_pos rfl]),Option.bind_some,dY,fZ,i7];rfl⟩
 ·have h':((k:Nat):Int)≤((cell:Nat):Int):=by omega
  have hca:=ave k r hk hk2 (by omega) hr2
  have wck:IntKind.i64.wrap (((cell:Nat):Int) - ((k:Nat):Int))=((cell - k:Nat):Int):=by rw [eD (by omega) (by omega)];omega
  have hrow:=zZ true (n:=r) (w:=k) (i:=cell - k) (gV k) (by omega)
  have e1:gV k (cell - k)=fJ k cell:=by unfold gV;rw [show k+(cell - k)=cell by omega]
  rw [e1] at hrow
  have hR:bC (.tree r r (mG true r k (gV k)) false) r (mG true r k (gV k)):=lN _ _ _
  generalize AV.tree r r (mG true r k (gV k)) false=CV at *
  have s1:=cQ hR
  have hlr:cell - k < r:=by omega
  replace e1:=aB.mk e1
  refine bZ follows Tryz.func309 (by unfold Tryz.f309;rfl) (by unfold Tryz.f309;simp) aE (by unfold Tryz.f309;simp) (by kernel_rfl) ?_;unfold Tryz.f309
  simp only [↓pre,simprocAttr,aA,sx,acA,aE,aC,aI,aL,aJ,aG,aH,cG,aU,sr]
  refine aM (hmy) (by rfl) ?_;simp only [↓pre,simprocAttr,aA,sx,acA,aE,aC,aI,aL,aJ,aG,aH,cG,aU,k1,k2,wkr,h',s1,wck,hR.addr',hlr,hrow,sr];refine aM (hca) (by rfl) ?_;simp only [↓pre,simprocAttr,aA,sx,acA,aE,aC,aI,aL,aJ,aG,aH,cG,aU,k1,k2,wkr,h',s1,wck,hR.addr',hlr,hrow,sr]
  exact ⟨0,by rw [j6,dY,vO,Option.bind_some,dY,fZ,i7];rfl⟩
theorem avf (v:AV) (C:List (List UInt8)) (cells:List AV) (L:Nat) (hv:gI v C cells) (hC:abv C L) (hL:L≤65536) (hn:C.length≤1000):aX Tryz.prog 306 [v,aD (C.length:Nat),bB false] ⟨.tup [aD ((cB C C.length).length:Nat),bB true],[]⟩:=by
 have hp:=hv.rd.plain
 replace hC:=aB.mk hC
 refine bE follows Tryz.func306 (by unfold Tryz.f306;rfl) (by unfold Tryz.f306;simp) aE (by unfold Tryz.f306;simp) (by kernel_rfl) ?_;unfold Tryz.f306
 simp only [↓pre,simprocAttr,aA,sx,acz,aE,aC,hv.rd.len',sr]
 rw [b9]
 refine cA (fun q e m=>∃ i lg,q+i=C.length∧e 0=v∧e 1=aD (C.length:Nat)∧e 2=bB false∧e 8=aD ((cB C i).length:Nat)∧e 9=aD (lg:Nat)∧e 10=aD (i:Nat)∧aB (0 < (cB C i).length→lg=L)) C.length ⟨0,0,by omega,rfl,rfl,rfl,rfl,rfl,rfl,⟨fun h=>absurd h (by simp [cB])⟩⟩ ?_
 rintro q e m ⟨i,lg,hq,e0,e1,e2,e8,e9,e10,hJ⟩
 replace hq:=aB.mk hq
 by_cases hlt:i < C.length
 ·have hlt':((i:Nat):Int) < ((C.length:Nat):Int):=by omega
  have w1:=cI (n:=i) (by omega)
  obtain ⟨b,hb⟩:∃ b,C[i]? = some b:=⟨_,List.getElem?_eq_getElem hlt⟩
  obtain ⟨a,x,hca,hra⟩:=hv.at_ i b hb
  have hts:=wG C i
  rw [sJ hb] at hts
  have hle:=aeH C i
  by_cases h0:b.length=0
  ·rw [if_neg (by omega),List.append_nil] at hts
   have h0':((b.length:Nat):Int)=0:=by omega
   replace hb:=aB.mk hb
   replace hts:=aB.mk hts
   simp only [↓pre,simprocAttr,aA,sx,acz,aE,aC,e0,e1,e2,e8,e9,e10,hlt',hlt,hv.rd.addr',hca,hra.len',h0',w1,sr]
   exact ⟨q - 1,by have:=hq.out;omega,i+1,lg,by have:=hq.out;omega,by rw [hts.out],rfl,rfl,⟨by rw [hts.out];exact hJ.out⟩⟩
  ·have hbL:b.length=L:=by
    rcases hC.out b (List.mem_of_getElem? hb) with h | h
    ·exact absurd h h0
    ·exact h
   rw [if_pos h0] at hts
   have hts2:(cB C (i+1)).length=(cB C i).length+1:=by rw [hts,List.length_append];rfl
   have h0':¬ ((b.length:Nat):Int)=0:=by omega
   have hbig:¬ (65536:Int) < ((b.length:Nat):Int):=by omega
   have w2:=cI (n:=(cB C i).length) (by omega)
   replace hb:=aB.mk hb
   replace hts:=aB.mk hts
   replace hts2:=aB.mk hts2
   replace hbL:=aB.mk hbL
   by_cases hpos:0 < (cB C i).length
   ·have hlg:=hJ.out hpos
    have hpos':(0:Int) < (((cB C i).length:Nat):Int):=by omega
    have hlb:b.length=lg:=hbL.out.trans hlg.symm
    replace hlg:=aB.mk hlg
    rw [hlb] at h0' hbig hra
    replace hlb:=aB.mk hlb
    simp only [↓pre,simprocAttr,aA,sx,acz,aE,aC,e0,e1,e2,e8,e9,e10,hlt',hlt,hv.rd.addr',hca,hra.len',h0',hbig,hpos',w1,w2,sr]
    exact ⟨q - 1,by have:=hq.out;omega,i+1,lg,by have:=hq.out;omega,by rw [hts2.out],rfl,rfl,⟨fun _=>hlg.out⟩⟩
   ·have hpos':¬ (0:Int) < (((cB C i).length:Nat):Int):=by omega
    simp only [↓pre,simprocAttr,aA,sx,acz,aE,aC,e0,e1,e2,e8,e9,e10,hlt',hlt,hv.rd.addr',hca,hra.len',h0',hbig,hpos',w1,w2,sr]
    exact ⟨q - 1,by have:=hq.out;omega,i+1,b.length,by have:=hq.out;omega,by rw [hts2.out],rfl,rfl,⟨fun _=>hbL.out⟩⟩
 ·have hlt':¬ ((i:Nat):Int) < ((C.length:Nat):Int):=by omega
  have hi:i=C.length:=by have:=hq.out;omega
  subst hi
  simp only [↓pre,simprocAttr,aA,sx,acz,aE,aC,e0,e1,e2,e8,e9,e10,hlt',sr]
theorem avg (vd:AV) (k r a n L:Nat) (D:Mx) (cd:List AV) (hv:sG vd k L D cd) (hk:1≤k) (hk2:k≤12) (hr:r≤4) (ha:a+n≤k+r) (hn:1≤n) (hL:L≤65536):aX Tryz.prog 307 [aD (k:Nat),aD (r:Nat),aD (a:Nat),aD (a+n:Nat),vd] ⟨.tree n n (eN L (oG k D) a n) false,[]⟩:=by
 refine eA ?_
 have hp:=hv.rd.plain
 have hrow:=fun cell h=>aoi k r cell hk hk2 hr h
 replace hrow:=aB.mk hrow
 refine bZ follows Tryz.func307 (by unfold Tryz.f307;rfl) (by unfold Tryz.f307;simp) aE (by unfold Tryz.f307;simp) (by kernel_rfl) ?_;unfold Tryz.f307
 simp only [↓pre,simprocAttr,aA,sx,aba,aE,aC,aI,aL,sr]
 rw [b9]
 refine cA (fun q e m=>∃ i lv,q+i=n∧e 0=aD (k:Nat)∧e 1=aD (r:Nat)∧e 3=aD (a+n:Nat)∧e 4=vd∧e 11=lv∧e 12=aD (a+i:Nat)∧aB (cO .var m 52 1 lv i (eN L (oG k D) a i))) n ⟨0,aO,by omega,rfl,rfl,rfl,rfl,rfl,rfl,⟨fB⟩⟩ ?_
 rintro q e m ⟨i,lv,hq,e0,e1,e3,e4,e11,e12,hJ⟩
 replace hq:=aB.mk hq
 by_cases hlt:i < n
 ·have hlt':((a+i:Nat):Int) < ((a+n:Nat):Int):=by omega
  have w1:=cI (n:=a+i) (by omega)
  have hri:=hrow.out (a+i) (by omega)
  have hdot:=aod (.tree k k (bA k (fJ k (a+i))) true) vd k L (fJ k (a+i)) D [] cd (by rw [List.append_nil];exact lN _ _ _) hv hk (by omega) hL
  rw [show o5 k (fJ k (a+i)) D=oG k D (a+i) from rfl] at hdot
  have t1:=lN k (bA k (fJ k (a+i))) true
  have hcs:=aeI L (oG k D) a i
  generalize AV.tree k k (bA k (fJ k (a+i))) true=ROW at *
  have s1:=cQ t1
  have p1:=t1.plain
  have t2:=lN L (bA L (oG k D (a+i))) true
  have s2:=cQ t2
  simp only [aD] at hri hdot
  replace hcs:=aB.mk hcs
  simp only [↓pre,simprocAttr,aA,sx,aba,aE,aC,aI,aL,e0,e1,e3,e4,e11,e12,hlt',sr]
  refine aM (hri) (by rfl) ?_;simp only [↓pre,simprocAttr,aA,sx,aba,aE,aC,aI,aL,e0,e1,e3,e4,e11,e12,s1,s2,z7,sr];refine aM (hdot) (by simp only [aA,aV, *]) ?_;simp only [↓pre,simprocAttr,aA,sx,aba,aE,aC,aI,aL,e0,e1,e3,e4,e11,e12,s1,s2,z7,sr]
  refine oT (kd := .var) (sz:=1) (y:=24) (zl:=[.slice none 0 0]) (by kernel_rfl) hJ.out (by kernel_rfl) (by kernel_rfl) (by kernel_rfl) rfl l8 rfl (by omega) (by omega) ?_
  intro lv' m' ho' hn'
  rw [←hcs.out] at ho'
  replace ho':=aB.mk ho'
  simp only [↓pre,simprocAttr,aA,sx,aba,aE,aC,aI,aL,e0,e1,e3,e4,e11,e12,w1,sr]
  exact ⟨q - 1,by have:=hq.out;omega,i+1,lv',by have:=hq.out;omega,rfl,rfl,ho'⟩
 ·have hlt':¬ ((a+i:Nat):Int) < ((a+n:Nat):Int):=by omega
  have hi:i=n:=by have:=hq.out;omega
  subst hi
  obtain ⟨b,rfl,hb,_⟩:=hJ.out.sl (by omega)
  simp only [↓pre,simprocAttr,aA,sx,aba,aE,aC,aI,aL,e0,e1,e3,e4,e11,e12,hlt',sr]
  exact ⟨1,by rw [adL hb (abu _ (by rw [List.drop_zero];exact amZ _ _ _ _)),List.drop_zero]⟩
theorem aoj (C:List (List UInt8)) (i:Nat):∀ m,(cB C (i+m)).take (cB C i).length=cB C i
 | 0=>List.take_length
 | m+1=>by
  have ih:=aoj C i m
  have hl:(cB C i).length≤(cB C (i+m)).length:=by
   have:=congrArg List.length ih
   rw [List.length_take] at this
   omega
  rw [←Nat.add_assoc,wG,List.take_append_of_le_length hl,ih]
set_option maxHeartbeats 1000000 in
theorem avh (v:AV) (k r L:Nat) (C:List (List UInt8)) (cells:List AV) (hv:gI v C cells) (hCl:C.length=k+r) (hC:abv C L) (hk:1≤k) (hk2:k≤12) (hr:r≤4) (hL:1≤L) (hL2:L≤65536) (hth:k≤(cB C (k+r)).length):aX Tryz.prog 261 [aD (k:Nat),aD (r:Nat),v] ⟨.tup [.tree (k+r) (k+r) (eN L (abo k ((cB C (k+r)).take k) (gF C)) 0 (k+r)) false,aD 0],[]⟩:=by
 refine eA ?_
 have hp:=hv.rd.plain
 have hmy:=aoh k r hk hk2 hr
 have hal:=avf v C cells L hv hC hL2 (by omega)
 rw [hCl] at hal
 have hrow:=fun cell h=>aoi k r cell hk hk2 hr h
 have htk:((cB C (k+r)).take k).length=k:=by rw [List.length_take];omega
 have hmem:∀ a∈(cB C (k+r)).take k,a < k+r∧(C.getD a []).length=L:=fun a ha=>by
  obtain ⟨h1,h2⟩:=ag8 (List.mem_of_mem_take ha)
  refine ⟨h1, ?_⟩
  obtain ⟨b,hb⟩:∃ b,C[a]? = some b:=⟨_,List.getElem?_eq_getElem (by omega)⟩
  rw [sJ hb] at h2 ⊢
  rcases hC b (List.mem_of_getElem? hb) with h | h
  ·exact absurd h h2
  ·exact h
 have hnd:((cB C (k+r)).take k).Nodup:=(amW C (k+r)).sublist (List.take_sublist _ _)
 have htl:∀ i,i≤k+r→(cB C i).length≤k→cB C i=(((cB C (k+r)).take k).take (cB C i).length):=fun i hi hle=>by
  have:=aoj C i (k+r - i)
  rw [show i+(k+r - i)=k+r by omega] at this
  rw [List.take_take,Nat.min_eq_left hle,this]
 have k1:¬ (((cB C (k+r)).length:Nat):Int) < ((k:Nat):Int):=by omega
 have w1:IntKind.i64.wrap (((k:Nat):Int)+((r:Nat):Int))=((k+r:Nat):Int):=by rw [←Int.natCast_add];exact dT (by omega)
 generalize hat:(cB C (k+r)).take k=at_ at *
 replace hC:=aB.mk hC
 replace hmem:=aB.mk hmem
 replace hat:=aB.mk hat
 replace hrow:=aB.mk hrow
 replace htl:=aB.mk htl
 have hme:aF.empty.next=0:=rfl
 refine bZ follows Tryz.func261 (by unfold Tryz.f261;rfl) (by unfold Tryz.f261;simp) aE (by unfold Tryz.f261;simp) (by kernel_rfl) ?_;unfold Tryz.f261
 simp only [↓pre,simprocAttr,aA,sx,nC,aE,aC,aI,aL,sr]
 refine aM (hmy) (by rfl) ?_;simp only [↓pre,simprocAttr,aA,sx,nC,aE,aC,aI,aL,w1,k1,sr];refine aM (hal) (by simp only [aA,aV, *]) ?_;simp only [↓pre,simprocAttr,aA,sx,nC,aE,aC,aI,aL,w1,k1,sr]
 rw [b9]
 refine xE (fun e m=>∃ lm lf,e 0=aD (k:Nat)∧e 1=aD (r:Nat)∧e 10=lm∧e 11=lf∧aB (cO .var m 52 1 lm k (mR k at_)∧cO .var m 52 1 lf k (jT cells at_)∧∀ b,cF lm=some b→cF lf≠some b)) (fun e m hR => ?_) ?_
 ·obtain ⟨lm,lf,e0,e1,e10,e11,hJ⟩:=hR
  obtain ⟨hom,hof,hap⟩:=hJ.out
  have hrp:eB (mR k at_)=true:=z8 _ fun c hc=>by
   unfold mR at hc
   obtain ⟨a,_,rfl⟩:=List.mem_map.1 hc
   rfl
  have hfRd:acQ k L (fun t=>gF C (at_.getD t 0)) (jT cells at_):=fun t ht=>by
   obtain ⟨a,ha⟩:∃ a,at_[t]? = some a:=⟨_,List.getElem?_eq_getElem (by omega)⟩
   obtain ⟨hal,haL⟩:=hmem.out a (List.mem_of_getElem? ha)
   obtain ⟨b,hb⟩:∃ b,C[a]? = some b:=⟨_,List.getElem?_eq_getElem (by omega)⟩
   obtain ⟨ca,x,hca,hra⟩:=hv.at_ a b hb
   refine ⟨ca,x, ?_, ?_⟩
   ·unfold jT
    rw [List.getElem?_map,ha,Option.map_some,List.getD_eq_getElem?_getD,hca]
    rfl
   ·simp only [List.getD_eq_getElem?_getD,ha,Option.getD_some]
    unfold bA
    have:=am4 haL
    rw [this,sJ hb]
    rw [sJ hb] at haL
    rw [haL] at hra
    exact hra
  have hfp:eB (jT cells at_)=true:=z8 _ fun c hc=>by
   obtain ⟨t,ht⟩:=List.getElem?_of_mem hc
   have htl:t < k:=by have:=(List.getElem?_eq_some_iff.1 ht).1;unfold jT at this;rw [List.length_map] at this;omega
   obtain ⟨a,x,h1,h2⟩:=hfRd t htl
   rw [ht] at h1
   cases h1
   exact h2.plain
  obtain ⟨av,m2,hfz,hav,hm2,hn2,hk2'⟩:=(y6 hom (.inr ⟨rfl,hrp⟩)).fz
  have hof2:cO .var m2 52 1 lf k (jT cells at_):=hof.frz hn2 hk2' fun b hb off n c f h=>by
   subst h
   exact hap b rfl hb
  have hinv:=avd av k (kQ k at_) (mR k at_) ⟨hav,am5 htk⟩ hk (by omega) (amy htk hnd fun a ha=>by have:=(hmem.out a ha).1;omega)
  have hVb:=(aeD false true k k (lV k (kQ k at_))).rd
  generalize AV.tree k k (mG true k k (lV k (kQ k at_))) false=IV at *
  have s1:=cQ hVb
  have hHf:=y6 hof2 (.inr ⟨rfl,hfp⟩)
  have hOf:=agd hof2
  have hfz1:fzs m [lm]=some ([av],m2):=by simp [fzs,hfz]
  simp only [aD] at hinv
  replace hfRd:=aB.mk hfRd
  simp only [↓pre,simprocAttr,aA,sx,nC,aE,aC,aI,aL,e0,e1,e10,e11,sr]
  refine yX hinv hfz1 ?_
  simp only [↓pre,simprocAttr,aA,sx,nC,aE,aC,aI,aL,e0,e1,e10,e11,s1,sr]
  rw [b9]
  refine cA (fun q e m=>∃ j ld,q+j=k∧e 0=aD (k:Nat)∧e 1=aD (r:Nat)∧e 11=lf∧e 15=IV∧e 17=ld∧e 18=aD (j:Nat)∧aB (cO .var m 52 1 ld j (eN L (kC k at_ (gF C)) 0 j)∧mN m lf k (jT cells at_)∧uG m lf∧∀ b,cF ld=some b→∀ off n c f,lf ≠ .sl b off n c f)) k ⟨0,aO,by omega,e0,e1,e11,rfl,rfl,rfl,⟨fB,hHf,hOf,fun b h=>by cases h⟩⟩ ?_
  clear e0 e1 e10 e11
  rintro q e m ⟨j,ld,hq,e0,e1,e11,e15,e17,e18,hJ2⟩
  replace hq:=aB.mk hq
  obtain ⟨hod,hF,hO,hne⟩:=hJ2.out
  by_cases hlt:j < k
  ·have hlt':((j:Nat):Int) < ((k:Nat):Int):=by omega
   have wj:=cI (n:=j) (by omega)
   have hrow2:=zZ true (w:=k) (lV k (kQ k at_)) hlt
   obtain ⟨av2,m3,hfz3,hav3,hm3,hn3,hk3⟩:=hF.fz
   have hfs:fzs m [.tree k k (bA k (lV k (kQ k at_) j)) true,lf]=some ([.tree k k (bA k (lV k (kQ k at_) j)) true,av2],m3):=by
    simp [fzs,cM (lN k (bA k (lV k (kQ k at_) j)) true),hfz3]
   have hdot:=aod (.tree k k (bA k (lV k (kQ k at_) j)) true) av2 k L (lV k (kQ k at_) j) (fun t=>gF C (at_.getD t 0)) [] (jT cells at_) (by rw [List.append_nil];exact lN _ _ _) ⟨hav3,hfRd.out⟩ hk (by omega) hL2
   rw [show o5 k (lV k (kQ k at_) j) (fun t=>gF C (at_.getD t 0))=kC k at_ (gF C) j from rfl] at hdot
   have t2:=lN L (bA L (kC k at_ (gF C) j)) true
   have s2:=cQ t2
   have hod3:cO .var m3 52 1 ld j (eN L (kC k at_ (gF C)) 0 j):=hod.frz hn3 hk3 hne
   have hkw:mO m m3:=⟨hm3,Nat.le_of_eq hn3.symm,fun j k hj _=>by obtain ⟨wr,h,_⟩:=hk3 j k hj;exact ⟨wr,h⟩⟩
   have hF3:=hF.keep hkw hO
   have hO3:uG m3 lf:=fun b off n c f h=>by rw [hn3];exact hO b off n c f h
   have hcs:=aeI L (kC k at_ (gF C)) 0 j
   rw [Nat.zero_add] at hcs
   simp only [aD] at hdot
   replace hcs:=aB.mk hcs
   replace hk3:=aB.mk hk3
   simp only [↓pre,simprocAttr,aA,sx,nC,aE,aC,aI,aL,e0,e1,e11,e15,e17,e18,hlt',hVb.addr',hlt,hrow2,sr]
   refine yX hdot hfs ?_
   simp only [↓pre,simprocAttr,aA,sx,nC,aE,aC,aI,aL,e0,e1,e11,e15,e17,e18,s2,z7,sr]
   refine uF (kd := .var) (sz:=1) (y:=24) (zl:=[.slice none 0 0]) (by kernel_rfl) hod3 (by kernel_rfl) (by kernel_rfl) (by kernel_rfl) rfl l8 rfl (by omega) (by omega) fun ld' m4 a1 b1 c1 d1 _ => ?_
   have hF4:mN m4 lf k (jT cells at_):=by
    rcases hF3.form with h | ⟨b,off,c,f,kk,rfl,h2,h3,h4,h5⟩
    ·exact ⟨.inl h⟩
    ·exact ⟨.inr ⟨b,off,c,f,kk,rfl,c1 b kk h2 (hO3 _ _ _ _ _ rfl) (fun hb=>hne b hb _ _ _ _ rfl),h3,h4,h5⟩⟩
   have hO4:uG m4 lf:=fun b off n c f h=>Nat.lt_of_lt_of_le (hO3 b off n c f h) b1
   have hne4:∀ b,cF ld'=some b→∀ off n c f,lf ≠ .sl b off n c f:=fun b hb off n c f h=>by
    rcases d1 b hb with h1 | h1
    ·have:=hO3 _ _ _ _ _ h;omega
    ·exact hne b h1 _ _ _ _ h
   rw [←hcs.out] at a1
   replace a1:=aB.mk a1
   clear c1 d1
   simp only [↓pre,simprocAttr,aA,sx,nC,aE,aC,aI,aL,e0,e1,e11,e15,e17,e18,wj,sr]
   exact ⟨q - 1,by have:=hq.out;omega,j+1,ld',by have:=hq.out;omega,rfl,rfl,⟨a1.out,hF4,hO4,hne4⟩⟩
  ·have hlt':¬ ((j:Nat):Int) < ((k:Nat):Int):=by omega
   have hj:j=k:=by have:=hq.out;omega
   subst hj
   have hcp:=am3 L (kC j at_ (gF C)) 0 j
   obtain ⟨av4,m4,hfz4,hav4,_⟩:=(y6 hod (.inr ⟨rfl,hcp⟩)).fz
   have hmd:=avg av4 j r 0 (j+r) L (kC j at_ (gF C)) (eN L (kC j at_ (gF C)) 0 j) ⟨hav4,fun i hi=>⟨_,[],by have:=aeJ (L:=L) (F:=kC j at_ (gF C)) (a:=0) hi;rw [Nat.zero_add] at this;exact this,by rw [List.append_nil];exact lN _ _ _⟩⟩ hk hk2 hr (by omega) (by omega) hL2
   rw [Nat.zero_add,show ((0:Nat):Int)=0 from rfl] at hmd
   have t3:=lN (j+r) (eN L (oG j (kC j at_ (gF C))) 0 (j+r)) false
   have s3:=cQ t3
   have hfs:fzs m [.val (.int .i64 (j:Nat)),.val (.int .i64 (r:Nat)),.val (.int .i64 0),.val (.int .i64 (j+r:Nat)),ld]=some ([.val (.int .i64 (j:Nat)),.val (.int .i64 (r:Nat)),.val (.int .i64 0),.val (.int .i64 (j+r:Nat)),av4],m4):=by
    simp [fzs,fz,hfz4]
   simp only [aD] at hmd
   simp only [↓pre,simprocAttr,aA,sx,nC,aE,aC,aI,aL,e0,e1,e11,e15,e17,e18,hlt',w1,sr]
   refine yX hmd hfs ?_
   simp only [↓pre,simprocAttr,aA,sx,nC,aE,aC,aI,aL,e0,e1,e11,e15,e17,e18,s3,sr]
   exact ⟨0,by rw [j6,dY,vO,Option.bind_some,dY,fZ,i7];rfl⟩
 ·refine cA (fun q e m=>∃ i lm lf,q+i=k+r∧e 0=aD (k:Nat)∧e 1=aD (r:Nat)∧e 2=v∧e 10=lm∧e 11=lf∧e 12=aD (i:Nat)∧aB ((cB C i).length≤k∧cO .var m 52 1 lm (cB C i).length (mR k (cB C i))∧cO .var m 52 1 lf (cB C i).length (jT cells (cB C i))∧mO aF.empty m∧l9 aF.empty lm∧l9 aF.empty lf∧∀ b,cF lm=some b→cF lf≠some b)) (k+r) ⟨0,aO,aO,by omega,rfl,rfl,rfl,rfl,rfl,rfl,⟨by simp [cB],fB,fB,mO.refl _,y5 _,y5 _,fun b h=>by cases h⟩⟩ ?_
  rintro q e m ⟨i,lm,lf,hq,e0,e1,e2,e10,e11,e12,hJ⟩
  replace hq:=aB.mk hq
  obtain ⟨hle,hom,hof,hkp,hnm,hnf,hap⟩:=hJ.out
  have hfl:lenE Tryz.prog 45 lf=some (.val (.int .i64 ((cB C i).length:Nat))):=by
   rcases hof.form with ⟨rfl,h,_⟩ | ⟨b,rfl,_⟩
   ·rw [h];kernel_rfl
   ·exact ag6
  by_cases hlt:i < k+r
  ·have hlt':((i:Nat):Int) < ((k+r:Nat):Int):=by omega
   have wi:=cI (n:=i) (by omega)
   by_cases hfull:(cB C i).length < k
   ·have hfull':(((cB C i).length:Nat):Int) < ((k:Nat):Int):=by omega
    obtain ⟨b,hb⟩:∃ b,C[i]? = some b:=⟨_,List.getElem?_eq_getElem (by omega)⟩
    obtain ⟨ca,x,hca,hra⟩:=hv.at_ i b hb
    have hiC:i < C.length:=by omega
    have hts:=wG C i
    rw [sJ hb] at hts
    by_cases h0:b.length=0
    ·rw [if_neg (by omega),List.append_nil] at hts
     have h0':¬ (0:Int) < ((b.length:Nat):Int):=by omega
     replace hb:=aB.mk hb
     replace hts:=aB.mk hts
     simp only [↓pre,simprocAttr,aA,sx,nC,aE,aC,aI,aL,e0,e1,e2,e10,e11,e12,w1,hlt',hfl,hfull',hiC,hv.rd.addr',hca,hra.len',h0',wi,sr]
     exact ⟨q - 1,by have:=hq.out;omega,i+1,lm,lf,by have:=hq.out;omega,rfl,rfl,rfl,⟨by rw [hts.out];exact hJ.out⟩⟩
    ·rw [if_pos h0] at hts
     have h0':(0:Int) < ((b.length:Nat):Int):=by omega
     have hts2:(cB C (i+1)).length=(cB C i).length+1:=by rw [hts,List.length_append];rfl
     obtain ⟨cc,f,rfl,_⟩:∃ cc f,ca = .tree b.length cc (b.map aU++x) f∧b.length≤cc:=by
      rcases hra.form with ⟨_,h⟩ | ⟨_,_,_,h⟩ | h
      ·omega
      ·omega
      ·exact h
     have hrA:mR k (cB C (i+1))=mR k (cB C i)++[.tree k k (bA k (fJ k i)) true]:=by rw [hts];unfold mR;rw [List.map_append];rfl
     have hpA:jT cells (cB C (i+1))=jT cells (cB C i)++[.tree b.length cc (b.map aU++x) f]:=by
      rw [hts];unfold jT;rw [List.map_append,List.map_cons,List.map_nil,List.getD_eq_getElem?_getD,hca];rfl
     have hri:=hrow.out i hlt
     have t1:=lN k (bA k (fJ k i)) true
     have s1:=cQ t1
     simp only [aD] at hri
     replace hb:=aB.mk hb
     replace hts:=aB.mk hts
     replace hts2:=aB.mk hts2
     replace hrA:=aB.mk hrA
     replace hpA:=aB.mk hpA
     simp only [↓pre,simprocAttr,aA,sx,nC,aE,aC,aI,aL,e0,e1,e2,e10,e11,e12,w1,hlt',hfl,hfull',hiC,hv.rd.addr',hca,hra.len',h0',sr]
     refine aM (hri) (by rfl) ?_;simp only [↓pre,simprocAttr,aA,sx,nC,aE,aC,aI,aL,e0,e1,e2,e10,e11,e12,s1,z7,sr]
     refine adS (m0:=aF.empty) (kd := .var) (sz:=1) (y:=24) (zl:=[.slice none 0 0]) (by kernel_rfl) hom (by kernel_rfl) (by kernel_rfl) (by kernel_rfl) rfl l8 rfl (by omega) (by omega) hkp hnm ?_
     intro lm' m' hom' hkp' hnm' hnx hbl' hkeep
     obtain ⟨hof',hap'⟩:=hof.beside hnx hbl' hkeep fun b hb h=>hap b h hb
     simp only [↓pre,simprocAttr,aA,sx,nC,aE,aC,aI,aL,e0,e1,e2,e10,e11,e12,hiC,hv.rd.addr',hca,z7,sr]
     refine adS (m0:=aF.empty) (kd := .var) (sz:=1) (y:=24) (zl:=[.slice none 0 0]) (by kernel_rfl) hof' (by kernel_rfl) (by kernel_rfl) (by kernel_rfl) rfl l8 rfl (by omega) (by omega) hkp' hnf ?_
     intro lf' m'' hof'' hkp'' hnf'' hnx2 hbl2 hkeep2
     obtain ⟨hom'',hap''⟩:=hom'.beside hnx2 hbl2 hkeep2 fun b hb h=>hap' b h hb
     have hfin:(cB C (i+1)).length≤k∧cO .var m'' 52 1 lm' (cB C (i+1)).length (mR k (cB C (i+1)))∧cO .var m'' 52 1 lf' (cB C (i+1)).length (jT cells (cB C (i+1)))∧mO aF.empty m''∧l9 aF.empty lm'∧l9 aF.empty lf'∧∀ b,cF lm'=some b→cF lf'≠some b:=by
      rw [hts2.out,hrA.out,hpA.out]
      exact ⟨by omega,hom'',hof'',hkp'',hnm',hnf'',hap''⟩
     replace hfin:=aB.mk hfin
     simp only [↓pre,simprocAttr,aA,sx,nC,aE,aC,aI,aL,e0,e1,e2,e10,e11,e12,wi,sr]
     exact ⟨q - 1,by have:=hq.out;omega,i+1,lm',lf',by have:=hq.out;omega,rfl,rfl,rfl,hfin⟩
   ·have hfull':¬ (((cB C i).length:Nat):Int) < ((k:Nat):Int):=by omega
    have hlk:(cB C i).length=k:=by omega
    have hti:=htl.out i (by omega) hle
    rw [hlk,List.take_of_length_le (by omega)] at hti
    rw [hlk,hti] at hom hof
    replace hti:=aB.mk hti
    simp only [↓pre,simprocAttr,aA,sx,nC,aE,aC,aI,aL,e0,e1,e2,e10,e11,e12,w1,hlt',hfl,hfull',sr]
    exact ⟨lm,lf,rfl,rfl,⟨hom,hof,hap⟩⟩
  ·have hlt':¬ ((i:Nat):Int) < ((k+r:Nat):Int):=by omega
   have hi:i=k+r:=by have:=hq.out;omega
   rw [hi] at hle hom hof
   have hlk:(cB C (k+r)).length=k:=by omega
   have hti:cB C (k+r)=at_:=by rw [←hat.out,List.take_of_length_le (by omega)]
   rw [hlk,hti] at hom hof
   replace hti:=aB.mk hti
   simp only [↓pre,simprocAttr,aA,sx,nC,aE,aC,aI,aL,e0,e1,e2,e10,e11,e12,w1,hlt',sr]
   exact ⟨lm,lf,rfl,rfl,⟨hom,hof,hap⟩⟩
structure OfR (k r c w ix:Int) (bs:List UInt8) (kd i0 ce st:Int) (vv dv:AV):Prop where
 r1:∃ n y,bC vv n y
 r2:∃ n y,bC dv n y
 is:gQ k r c w bs ix=true→kd=(cV k r bs).kd∧ce=(cV k r bs).ce∧st=(cV k r bs).st∧vv=sN (some (cV k r bs).vec)∧dv = .tree (cV k r bs).data.length (cV k r bs).data.length (aT (cV k r bs).data) false
theorem ae0 (k r c w ix:Int) (v:AV) (bs:List UInt8) (x:List AV) (hv:bC v bs.length (aT bs++x)) (hm:bU k r c w=true):∃ kd i0 ce st vv dv,aX Tryz.prog 227 [aA k r c w,v,aD ix] ⟨.tup [.agg [.val (.int .u8 kd),.val (.int .i64 i0),.val (.int .i64 ce),.val (.int .i64 st),vv,dv],bB (gQ k r c w bs ix)],[]⟩∧OfR k r c w ix bs kd i0 ce st vv dv:=by
 have h:=alS k r c w ix v bs x hv hm
 cases hs:gQ k r c w bs ix with
 | false =>
  rw [hs,if_neg (by decide)] at h
  exact ⟨0,0,0,0,aO,aO,h,⟨⟨0,[],⟨.inl ⟨rfl,rfl⟩⟩⟩,⟨0,[],⟨.inl ⟨rfl,rfl⟩⟩⟩,fun h=>by rw [hs] at h;cases h⟩⟩
 | true =>
  rw [hs,if_pos rfl] at h
  exact ⟨_,_,_,_,_,_,h,⟨⟨_,_,lN _ _ _⟩,⟨_,_,lN _ _ _⟩,fun _=>⟨rfl,rfl,rfl,rfl,rfl⟩⟩⟩
theorem aok (k r c w:Int) (bs:List UInt8) (ix kd ver:Int):kE k r c w bs ix kd ver=(gQ k r c w bs ix && (decide ((cV k r bs).kd=kd) && decide ((cV k r bs).ce=ver))):=by
 unfold kE nG
 cases h:gQ k r c w bs ix with
 | false=>rfl
 | true =>
  have h2:eR k r c w bs=true:=by
   unfold gQ at h
   rw [Bool.and_eq_true] at h
   exact h.1
  unfold fU
  rw [if_pos h2]
  rfl
def wP (k r c w:Int) (p:bX) (ix kd ver:Int):Int:=if kE k r c w p.1 ix kd ver=true then 0 else if kE k r c w p.2 ix kd ver=true then 1 else -1
def oM:Nat→Bool:=fun d=>d != 12
theorem avi (k r c w kd ix ver:Int) (a b:AV) (p:bX) (xa xb:List AV) (ha:bC a p.1.length (aT p.1++xa)) (hb:bC b p.2.length (aT p.2++xb)) (hm:bU k r c w=true):aX Tryz.prog 226 [aA k r c w,.agg [a,b],.val (.int .u8 kd),aD ix,aD ver] ⟨aD (wP k r c w p ix kd ver),[]⟩:=by
 refine eA ?_
 have hof:∀ i:Nat,i < 2→∃ vi,[a,b][i]? = some vi∧plain vi=true∧∃ kd' i0 ce st vv dv,aX Tryz.prog 227 [aA k r c w,vi,aD ix] ⟨.tup [.agg [.val (.int .u8 kd'),.val (.int .i64 i0),.val (.int .i64 ce),.val (.int .i64 st),vv,dv],bB (gQ k r c w (if i=0 then p.1 else p.2) ix)],[]⟩∧OfR k r c w ix (if i=0 then p.1 else p.2) kd' i0 ce st vv dv:=fun i hi=>by
  obtain rfl | rfl:i=0∨i=1:=by omega
  ·exact ⟨a,rfl,ha.plain,ae0 k r c w ix a p.1 xa ha hm⟩
  ·exact ⟨b,rfl,hb.plain,ae0 k r c w ix b p.2 xb hb hm⟩
 replace hof:=aB.mk hof
 have fa:=cM ha
 have fb:=cM hb
 have oa:=b6 ha
 have ob:=b6 hb
 have hres:∀ i:Nat,i < 2→(∀ j,j < i→kE k r c w (if j=0 then p.1 else p.2) ix kd ver=false)→kE k r c w (if i=0 then p.1 else p.2) ix kd ver=true→wP k r c w p ix kd ver=(i:Nat):=fun i hi h1 h2=>by
  unfold wP
  obtain rfl | rfl:i=0∨i=1:=by omega
  ·rw [if_pos rfl] at h2
   rw [if_pos h2]
   rfl
  ·rw [if_neg (by decide)] at h2
   have:=h1 0 (by omega)
   rw [if_pos rfl] at this
   rw [if_neg (by rw [this];decide),if_pos h2]
   rfl
 have hno:(∀ j,j < 2→kE k r c w (if j=0 then p.1 else p.2) ix kd ver=false)→wP k r c w p ix kd ver = -1:=fun h1=>by
  have h2:=h1 0 (by omega)
  have h3:=h1 1 (by omega)
  rw [if_pos rfl] at h2
  rw [if_neg (by decide)] at h3
  unfold wP
  rw [if_neg (by rw [h2];decide),if_neg (by rw [h3];decide)]
 generalize hH:wP k r c w p ix kd ver=HI at *
 replace hres:=aB.mk hres
 replace hno:=aB.mk hno
 refine bZ follows Tryz.func226 (by unfold Tryz.f226;rfl) (by unfold Tryz.f226;simp) oM (by unfold Tryz.f226;simp) (by kernel_rfl) ?_;unfold Tryz.f226
 simp only [↓pre,simprocAttr,aA,sx,oW,oM,bne,aC,aI,aL,aJ,aK,aG,aH,fa,fb,oa,ob,sr]
 rw [b9]
 refine cA (fun q e m=>∃ i,q+i=2∧e 2 = .val (.int .u8 kd)∧e 3=aD ix∧e 4=aD ver∧e 5 = .tptr 0 [aD k,aD r,aD c,aD w]∧e 6 = .tptr 0 [a,b]∧e 11=aD (i:Nat)∧aB (∀ j,j < i→kE k r c w (if j=0 then p.1 else p.2) ix kd ver=false)) 2 ⟨0,by omega,rfl,rfl,rfl,rfl,rfl,rfl,⟨fun j hj=>by omega⟩⟩ ?_
 rintro q e m ⟨i,hq,e2,e3,e4,e5,e6,e11,hJ⟩
 replace hq:=aB.mk hq
 by_cases hlt:i < 2
 ·have hlt':((i:Nat):Int) < 2:=by omega
  have wi:=cI (n:=i) (by omega)
  obtain ⟨vi,hvi,hpl,kd',i0,ce,st,vv,dv,hO,hOf⟩:=hof.out i hlt
  obtain ⟨n1,y1,g1⟩:=hOf.r1
  obtain ⟨n2,y2,g2⟩:=hOf.r2
  have f1:=cM g1
  have f2:=cM g2
  have q1:=b6 g1
  have q2:=b6 g2
  have t1:=cQ g1
  have t2:=cQ g2
  have hst:=aok k r c w (if i=0 then p.1 else p.2) ix kd ver
  have his:=hOf.is
  have hR:=fun h1 h2=>hres.out i hlt h1 h2
  have hnext:kE k r c w (if i=0 then p.1 else p.2) ix kd ver=false→∀ j,j < i+1→kE k r c w (if j=0 then p.1 else p.2) ix kd ver=false:=fun h j hj=>by
   by_cases e:j=i
   ·subst e;exact h
   ·exact hJ.out j (by omega)
  simp only [aD] at hO
  generalize gQ k r c w (if i=0 then p.1 else p.2) ix=B at *
  generalize kE k r c w (if i=0 then p.1 else p.2) ix kd ver=H at *
  replace his:=aB.mk his
  replace hR:=aB.mk hR
  replace hnext:=aB.mk hnext
  replace hOf:=aB.mk hOf
  simp only [↓pre,simprocAttr,aA,sx,oW,oM,bne,aC,aI,aL,aJ,aK,aG,aH,fa,fb,oa,ob,e2,e3,e4,e5,e6,e11,f1,f2,q1,q2,t1,t2,hlt',hlt,hvi,sr]
  cases B with
  | false =>
   rw [Bool.false_and] at hst
   replace hst:=aB.mk hst
   (refine cE (hO) (by simp only [aA,aV, *]) (by intro k;simp only [sq,sr, *]) ?_);simp only [↓pre,simprocAttr,aA,sx,oW,oM,bne,aC,aI,aL,aJ,aK,aG,aH,fa,fb,oa,ob,e2,e3,e4,e5,e6,e11,f1,f2,q1,q2,t1,t2,wi,sr]
   refine nT (by kernel_rfl) ?_
   simp only [↓pre,simprocAttr,aA,sx,oW,oM,bne,aC,aI,aL,aJ,aK,aG,aH,fa,fb,oa,ob,e2,e3,e4,e5,e6,e11,f1,f2,q1,q2,t1,t2,wi,sr]
   refine dJ (by kernel_rfl) ?_
   simp only [↓pre,simprocAttr,aA,sx,oW,oM,bne,aC,aI,aL,aJ,aK,aG,aH,fa,fb,oa,ob,e2,e3,e4,e5,e6,e11,f1,f2,q1,q2,t1,t2,wi,sr]
   exact ⟨q - 1,by have:=hq.out;omega,i+1,by have:=hq.out;omega,rfl,⟨hnext.out hst.out⟩⟩
  | true =>
   obtain ⟨u1,u2,u3,u4,u5⟩:=his.out rfl
   replace u4:=aB.mk u4
   replace u5:=aB.mk u5
   rw [Bool.true_and,←u1,←u2] at hst
   replace u1:=aB.mk u1
   replace u2:=aB.mk u2
   replace u3:=aB.mk u3
   by_cases h1:kd'=kd
   ·by_cases h2:ce=ver
    ·rw [decide_eq_true h1,decide_eq_true h2] at hst
     replace hst:=aB.mk hst
     (refine cE (hO) (by simp only [aA,aV, *]) (by intro k;simp only [sq,sr, *]) ?_);simp only [↓pre,simprocAttr,aA,sx,oW,oM,bne,aC,aI,aL,aJ,aK,aG,aH,fa,fb,oa,ob,e2,e3,e4,e5,e6,e11,f1,f2,q1,q2,t1,t2,h1,h2,sr]
     refine nT (by kernel_rfl) ?_
     simp only [↓pre,simprocAttr,aA,sx,oW,oM,bne,aC,aI,aL,aJ,aK,aG,aH,fa,fb,oa,ob,e2,e3,e4,e5,e6,e11,f1,f2,q1,q2,t1,t2,h1,h2,sr]
     refine dJ (by kernel_rfl) ?_
     simp only [↓pre,simprocAttr,aA,sx,oW,oM,bne,aC,aI,aL,aJ,aK,aG,aH,fa,fb,oa,ob,e2,e3,e4,e5,e6,e11,f1,f2,q1,q2,t1,t2,h1,h2,sr]
     exact ⟨0,by rw [hR.out hJ.out hst.out,fZ]⟩
    ·rw [decide_eq_true h1,decide_eq_false h2] at hst
     replace hst:=aB.mk hst
     (refine cE (hO) (by simp only [aA,aV, *]) (by intro k;simp only [sq,sr, *]) ?_);simp only [↓pre,simprocAttr,aA,sx,oW,oM,bne,aC,aI,aL,aJ,aK,aG,aH,fa,fb,oa,ob,e2,e3,e4,e5,e6,e11,f1,f2,q1,q2,t1,t2,h1,h2,wi,sr]
     refine nT (by kernel_rfl) ?_
     simp only [↓pre,simprocAttr,aA,sx,oW,oM,bne,aC,aI,aL,aJ,aK,aG,aH,fa,fb,oa,ob,e2,e3,e4,e5,e6,e11,f1,f2,q1,q2,t1,t2,h1,h2,wi,sr]
     refine dJ (by kernel_rfl) ?_
     simp only [↓pre,simprocAttr,aA,sx,oW,oM,bne,aC,aI,aL,aJ,aK,aG,aH,fa,fb,oa,ob,e2,e3,e4,e5,e6,e11,f1,f2,q1,q2,t1,t2,h1,h2,wi,sr]
     exact ⟨q - 1,by have:=hq.out;omega,i+1,by have:=hq.out;omega,rfl,⟨hnext.out hst.out⟩⟩
   ·rw [decide_eq_false h1,Bool.false_and] at hst
    replace hst:=aB.mk hst
    (refine cE (hO) (by simp only [aA,aV, *]) (by intro k;simp only [sq,sr, *]) ?_);simp only [↓pre,simprocAttr,aA,sx,oW,oM,bne,aC,aI,aL,aJ,aK,aG,aH,fa,fb,oa,ob,e2,e3,e4,e5,e6,e11,f1,f2,q1,q2,t1,t2,h1,wi,sr]
    refine nT (by kernel_rfl) ?_
    simp only [↓pre,simprocAttr,aA,sx,oW,oM,bne,aC,aI,aL,aJ,aK,aG,aH,fa,fb,oa,ob,e2,e3,e4,e5,e6,e11,f1,f2,q1,q2,t1,t2,h1,wi,sr]
    refine dJ (by kernel_rfl) ?_
    simp only [↓pre,simprocAttr,aA,sx,oW,oM,bne,aC,aI,aL,aJ,aK,aG,aH,fa,fb,oa,ob,e2,e3,e4,e5,e6,e11,f1,f2,q1,q2,t1,t2,h1,wi,sr]
    exact ⟨q - 1,by have:=hq.out;omega,i+1,by have:=hq.out;omega,rfl,⟨hnext.out hst.out⟩⟩
 ·have hlt':¬ ((i:Nat):Int) < 2:=by omega
  have hi:i=2:=by have:=hq.out;omega
  subst hi
  have:=hno.out hJ.out
  simp only [↓pre,simprocAttr,aA,sx,oW,oM,bne,aC,aI,aL,aJ,aK,aG,aH,fa,fb,oa,ob,e2,e3,e4,e5,e6,e11,hlt',sr]
  exact ⟨0,by rw [this,fZ]⟩
theorem avj (k r c w:Int) (bs:List UInt8) (ix kd ver:Int):jK k r c w bs ix kd ver=(gQ k r c w bs ix && (decide ((cV k r bs).kd=kd) && decide ((cV k r bs).st=ver))):=by
 unfold jK gQ
 cases h:eR k r c w bs with
 | false=>rfl
 | true =>
  unfold fU
  rw [if_pos h,Bool.true_and,Bool.true_and]
  show (decide ((cV k r bs).kd=kd) && (decide ((cV k r bs).ix=ix) && decide ((cV k r bs).st=ver)))=_
  cases decide ((cV k r bs).kd=kd) <;> cases decide ((cV k r bs).ix=ix) <;> rfl
def sel (p:bX) (i:Nat):List UInt8:=if i=0 then p.1 else p.2
theorem aol {k r c w:Int} {v:AV} {ps:List bX} {cells:List AV} (hv:fR v ps cells) (hm:bU k r c w=true) {i:Nat} {p:bX} (hp:ps[i]? = some p) (ix:Int) (kk:Nat) (hk:kk < 2):∃ vi,cells[i*2+kk]? = some vi∧plain vi=true∧∃ kd i0 ce st vv dv,aX Tryz.prog 227 [aA k r c w,vi,aD ix] ⟨.tup [.agg [.val (.int .u8 kd),.val (.int .i64 i0),.val (.int .i64 ce),.val (.int .i64 st),vv,dv],bB (gQ k r c w (sel p kk) ix)],[]⟩∧OfR k r c w ix (sel p kk) kd i0 ce st vv dv:=by
 obtain ⟨a,b,xa,xb,ha,hb,hra,hrb⟩:=hv.at_ i p hp
 obtain rfl | rfl:kk=0∨kk=1:=by omega
 ·exact ⟨a,ha,hra.plain,ae0 k r c w ix a p.1 xa hra hm⟩
 ·exact ⟨b,hb,hrb.plain,ae0 k r c w ix b p.2 xb hrb hm⟩
def mV:Nat→Bool:=fun d=>d != 11
theorem avk (k r c w kd ver:Int) (v:AV) (ps:List bX) (cells:List AV) (hv:fR v ps cells) (hm:bU k r c w=true) (hn:ps.length≤1000):aX Tryz.prog 208 [aA k r c w,v,.val (.int .u8 kd),aD ver] ⟨sN (iJ k r c w ps kd ver),[]⟩:=by
 refine eA ?_
 have hp:=hv.rd.plain
 generalize hres:iJ k r c w ps kd ver=T
 replace hres:=aB.mk hres
 replace hn:=aB.mk hn
 have hat:=fun {i p} h ix kk hk=>aol (k:=k) (r:=r) (c:=c) (w:=w) hv hm (i:=i) (p:=p) h ix kk hk
 replace hat:=aB.mk @hat
 refine bZ follows Tryz.func208 (by unfold Tryz.f208;rfl) (by unfold Tryz.f208;simp) mV (by unfold Tryz.f208;simp) (by kernel_rfl) ?_;unfold Tryz.f208
 simp only [↓pre,simprocAttr,aA,sx,nA,mV,bne,aC,aI,aL,aJ,aK,aG,aH,sr]
 rw [b9]
 refine cA (fun q e m=>∃ i,q+i=ps.length∧e 1=v∧e 2 = .val (.int .u8 kd)∧e 3=aD ver∧e 4 = .tptr 0 [aD k,aD r,aD c,aD w]∧e 9=aD (i:Nat)∧aB (o9 k r c w ps kd ver i=none)) ps.length ⟨0,by omega,rfl,rfl,rfl,rfl,rfl,⟨rfl⟩⟩ ?_
 rintro q e m ⟨i,hq,e1,e2,e3,e4,e9,hJ⟩
 replace hq:=aB.mk hq
 by_cases hlt:i < ps.length
 ·have hlt':((i:Nat):Int) < ((ps.length:Nat):Int):=by omega
  have wi:=cI (n:=i) (by have:=hn.out;omega)
  obtain ⟨p,hpi⟩:∃ p,ps[i]? = some p:=⟨_,List.getElem?_eq_getElem hlt⟩
  have hgd:ps.getD i ([],[])=p:=by rw [List.getD_eq_getElem?_getD,hpi];rfl
  have hstep:o9 k r c w ps kd ver (i+1)=sM k r c w p (i:Nat) kd ver:=by
   show (o9 k r c w ps kd ver i).or _=_
   rw [hJ.out,hgd]
   rfl
  have hdone:∀ l,sM k r c w p (i:Nat) kd ver=some l→T=some l:=fun l h=>by
   rw [←hres.out]
   exact ahb (hstep.trans h) _ (by omega)
  have hhit:∀ kk:Nat,kk < 2→(∀ j,j < kk→jK k r c w (sel p j) (i:Nat) kd ver=false)→jK k r c w (sel p kk) (i:Nat) kd ver=true→T=some (cV k r (sel p kk)).vec:=fun kk hk h1 h2=>hdone _ (by
   unfold sM
   obtain rfl | rfl:kk=0∨kk=1:=by omega
   ·have h2:jK k r c w p.1 (i:Nat) kd ver=true:=h2
    rw [if_pos h2];rfl
   ·have h1:jK k r c w p.1 (i:Nat) kd ver=false:=h1 0 (by omega)
    have h2:jK k r c w p.2 (i:Nat) kd ver=true:=h2
    rw [if_neg (by rw [h1];decide),if_pos h2];rfl)
  have hnone:(∀ j,j < 2→jK k r c w (sel p j) (i:Nat) kd ver=false)→o9 k r c w ps kd ver (i+1)=none:=fun h1=>by
   rw [hstep]
   unfold sM
   have h2:jK k r c w p.1 (i:Nat) kd ver=false:=h1 0 (by omega)
   have h3:jK k r c w p.2 (i:Nat) kd ver=false:=h1 1 (by omega)
   rw [if_neg (by rw [h2];decide),if_neg (by rw [h3];decide)]
  have hof:=fun kk hk=>hat.out hpi (i:Nat) kk hk
  clear hstep hdone
  replace hof:=aB.mk hof
  replace hpi:=aB.mk hpi
  replace hgd:=aB.mk hgd
  replace hhit:=aB.mk hhit
  replace hnone:=aB.mk hnone
  simp only [↓pre,simprocAttr,aA,sx,nA,mV,bne,aC,aI,aL,aJ,aK,aG,aH,e1,e2,e3,e4,e9,hlt',hv.rd.len',sr]
  rw [b9]
  refine cA (fun q2 e m=>∃ kk,q2+kk=2∧e 1=v∧e 2 = .val (.int .u8 kd)∧e 3=aD ver∧e 4 = .tptr 0 [aD k,aD r,aD c,aD w]∧e 9=aD (i:Nat)∧e 10=aD (kk:Nat)∧aB (∀ j,j < kk→jK k r c w (sel p j) (i:Nat) kd ver=false)) 2 ⟨0,by omega,e1,e2,e3,e4,e9,rfl,⟨fun j hj=>by omega⟩⟩ ?_
  clear e1 e2 e3 e4 e9 
  rintro u e m ⟨kk,hq2,e1,e2,e3,e4,e9,e10,hJ2⟩
  replace hq2:=aB.mk hq2
  by_cases hl2:kk < 2
  ·have hl2':((kk:Nat):Int) < 2:=by omega
   have wk:=cI (n:=kk) (by omega)
   obtain ⟨vi,hvi,hpl,kd',i0,ce,st,vv,dv,hO,hOf⟩:=hof.out kk hl2
   obtain ⟨n1,y1,g1⟩:=hOf.r1
   obtain ⟨n2,y2,g2⟩:=hOf.r2
   have f1:=cM g1
   have f2:=cM g2
   have q1:=b6 g1
   have q2:=b6 g2
   have t1:=cQ g1
   have t2:=cQ g2
   have hst:=avj k r c w (sel p kk) (i:Nat) kd ver
   have his:=hOf.is
   have hR:=fun h1 h2=>hhit.out kk hl2 h1 h2
   have hnext:jK k r c w (sel p kk) (i:Nat) kd ver=false→∀ j,j < kk+1→jK k r c w (sel p j) (i:Nat) kd ver=false:=fun h j hj=>by
    by_cases e:j=kk
    ·subst e;exact h
    ·exact hJ2.out j (by omega)
   simp only [aD] at hO
   generalize gQ k r c w (sel p kk) (i:Nat)=B at *
   generalize jK k r c w (sel p kk) (i:Nat) kd ver=H at *
   replace his:=aB.mk his
   replace hR:=aB.mk hR
   replace hnext:=aB.mk hnext
   replace hOf:=aB.mk hOf
   simp only [↓pre,simprocAttr,aA,sx,nA,mV,bne,aC,aI,aL,aJ,aK,aG,aH,e1,e2,e3,e4,e9,e10,f1,f2,q1,q2,t1,t2,hl2',hv.rd.addr',hlt,hl2,hvi,sr]
   cases B with
   | false =>
    rw [Bool.false_and] at hst
    replace hst:=aB.mk hst
    (refine cE (hO) (by simp only [aA,aV, *]) (by intro k;simp only [sq,sr, *]) ?_);simp only [↓pre,simprocAttr,aA,sx,nA,mV,bne,aC,aI,aL,aJ,aK,aG,aH,e1,e2,e3,e4,e9,e10,f1,f2,q1,q2,t1,t2,wk,sr]
    refine nT (by kernel_rfl) ?_
    simp only [↓pre,simprocAttr,aA,sx,nA,mV,bne,aC,aI,aL,aJ,aK,aG,aH,e1,e2,e3,e4,e9,e10,f1,f2,q1,q2,t1,t2,wk,sr]
    refine dJ (by kernel_rfl) ?_
    simp only [↓pre,simprocAttr,aA,sx,nA,mV,bne,aC,aI,aL,aJ,aK,aG,aH,e1,e2,e3,e4,e9,e10,f1,f2,q1,q2,t1,t2,wk,sr]
    exact ⟨u - 1,by have:=hq2.out;omega,kk+1,by have:=hq2.out;omega,rfl,⟨hnext.out hst.out⟩⟩
   | true =>
    obtain ⟨u1,u2,u3,u4,_⟩:=his.out rfl
    rw [Bool.true_and,←u1,←u3] at hst
    replace u1:=aB.mk u1
    replace u2:=aB.mk u2
    replace u3:=aB.mk u3
    replace u4:=aB.mk u4
    by_cases h1:kd'=kd
    ·by_cases h2:st=ver
     ·rw [decide_eq_true h1,decide_eq_true h2] at hst
      replace hst:=aB.mk hst
      (refine cE (hO) (by simp only [aA,aV, *]) (by intro k;simp only [sq,sr, *]) ?_);simp only [↓pre,simprocAttr,aA,sx,nA,mV,bne,aC,aI,aL,aJ,aK,aG,aH,e1,e2,e3,e4,e9,e10,f1,f2,q1,q2,t1,t2,h1,h2,sr]
      refine nT (by kernel_rfl) ?_
      simp only [↓pre,simprocAttr,aA,sx,nA,mV,bne,aC,aI,aL,aJ,aK,aG,aH,e1,e2,e3,e4,e9,e10,f1,f2,q1,q2,t1,t2,h1,h2,sr]
      refine dJ (by kernel_rfl) ?_
      simp only [↓pre,simprocAttr,aA,sx,nA,mV,bne,aC,aI,aL,aJ,aK,aG,aH,e1,e2,e3,e4,e9,e10,f1,f2,q1,q2,t1,t2,h1,h2,sr]
      exact ⟨0,by rw [hR.out hJ2.out hst.out,←u4.out];exact ach g1⟩
     ·rw [decide_eq_true h1,decide_eq_false h2] at hst
      replace hst:=aB.mk hst
      (refine cE (hO) (by simp only [aA,aV, *]) (by intro k;simp only [sq,sr, *]) ?_);simp only [↓pre,simprocAttr,aA,sx,nA,mV,bne,aC,aI,aL,aJ,aK,aG,aH,e1,e2,e3,e4,e9,e10,f1,f2,q1,q2,t1,t2,h1,h2,wk,sr]
      refine nT (by kernel_rfl) ?_
      simp only [↓pre,simprocAttr,aA,sx,nA,mV,bne,aC,aI,aL,aJ,aK,aG,aH,e1,e2,e3,e4,e9,e10,f1,f2,q1,q2,t1,t2,h1,h2,wk,sr]
      refine dJ (by kernel_rfl) ?_
      simp only [↓pre,simprocAttr,aA,sx,nA,mV,bne,aC,aI,aL,aJ,aK,aG,aH,e1,e2,e3,e4,e9,e10,f1,f2,q1,q2,t1,t2,h1,h2,wk,sr]
      exact ⟨u - 1,by have:=hq2.out;omega,kk+1,by have:=hq2.out;omega,rfl,⟨hnext.out hst.out⟩⟩
    ·rw [decide_eq_false h1,Bool.false_and] at hst
     replace hst:=aB.mk hst
     (refine cE (hO) (by simp only [aA,aV, *]) (by intro k;simp only [sq,sr, *]) ?_);simp only [↓pre,simprocAttr,aA,sx,nA,mV,bne,aC,aI,aL,aJ,aK,aG,aH,e1,e2,e3,e4,e9,e10,f1,f2,q1,q2,t1,t2,h1,wk,sr]
     refine nT (by kernel_rfl) ?_
     simp only [↓pre,simprocAttr,aA,sx,nA,mV,bne,aC,aI,aL,aJ,aK,aG,aH,e1,e2,e3,e4,e9,e10,f1,f2,q1,q2,t1,t2,h1,wk,sr]
     refine dJ (by kernel_rfl) ?_
     simp only [↓pre,simprocAttr,aA,sx,nA,mV,bne,aC,aI,aL,aJ,aK,aG,aH,e1,e2,e3,e4,e9,e10,f1,f2,q1,q2,t1,t2,h1,wk,sr]
     exact ⟨u - 1,by have:=hq2.out;omega,kk+1,by have:=hq2.out;omega,rfl,⟨hnext.out hst.out⟩⟩
  ·have hl2':¬ ((kk:Nat):Int) < 2:=by omega
   have hk:kk=2:=by have:=hq2.out;omega
   subst hk
   have hno:=hnone.out hJ2.out
   replace hno:=aB.mk hno
   simp only [↓pre,simprocAttr,aA,sx,nA,mV,bne,aC,aI,aL,aJ,aK,aG,aH,e1,e2,e3,e4,e9,e10,hl2',wi,sr]
   exact ⟨q - 1,by have:=hq.out;omega,i+1,by have:=hq.out;omega,rfl,hno⟩
 ·have hlt':¬ ((i:Nat):Int) < ((ps.length:Nat):Int):=by omega
  have hi:i=ps.length:=by have:=hq.out;omega
  have hT:T=none:=by rw [←hres.out];unfold iJ;rw [←hi];exact hJ.out
  subst hT
  simp only [↓pre,simprocAttr,aA,sx,nA,mV,bne,aC,aI,aL,aJ,aK,aG,aH,e1,e2,e3,e4,e9,hlt',hv.rd.len',sr]
  exact ⟨0,by unfold sN aO;rw [fZ]⟩
theorem avl (k r c w:Int) (p:bX) (ix kd ver:Int):(wP k r c w p ix kd ver = -1∧mH k r c w p ix kd ver=[])∨∃ kk:Nat,kk < 2∧wP k r c w p ix kd ver=(kk:Nat)∧gQ k r c w (sel p kk) ix=true∧mH k r c w p ix kd ver=(cV k r (sel p kk)).data∧((mH k r c w p ix kd ver).length:Int)=c:=by
 have hs:∀ bs,kE k r c w bs ix kd ver=true→gQ k r c w bs ix=true:=fun bs h=>by
  rw [aok,Bool.and_eq_true] at h
  exact h.1
 have hl:∀ s,nH k r c w p ix kd ver=some s→((mH k r c w p ix kd ver).length:Int)=c:=fun s h=>(ahe h).1
 unfold wP
 by_cases h1:kE k r c w p.1 ix kd ver=true
 ·refine .inr ⟨0,by omega,by rw [if_pos h1];rfl,hs _ h1, ?_,hl (fU k r c w p.1) (by unfold nH;rw [if_pos h1])⟩
  unfold mH
  rw [if_pos h1]
  rfl
 ·by_cases h2:kE k r c w p.2 ix kd ver=true
  ·refine .inr ⟨1,by omega,by rw [if_neg h1,if_pos h2];rfl,hs _ h2, ?_,hl (fU k r c w p.2) (by unfold nH;rw [if_neg h1,if_pos h2])⟩
   unfold mH
   rw [if_neg h1,if_pos h2]
   rfl
  ·refine .inl ⟨by rw [if_neg h1,if_neg h2], ?_⟩
   unfold mH
   rw [if_neg h1,if_neg h2]
theorem avm (T:Option (List Int)):bC (sN T) (T.getD []).length (cC (T.getD [])++[]):=by
 cases T with
 | none=>exact ⟨.inl ⟨rfl,rfl⟩⟩
 | some l=>rw [List.append_nil];exact lN _ _ _
def tZ:Nat→Bool:=fun d=>d != 15
set_option maxHeartbeats 1000000 in
theorem avn (k r c w kd ver:Int) (v:AV) (ps:List bX) (cells:List AV) (hv:fR v ps cells) (hm:bU k r c w=true) (hr:dS k r c ps=true):aX Tryz.prog 146 [aA k r c w,v,.val (.int .u8 kd),aD ver] ⟨.tup [.tree ps.length ps.length (fO (iL k r c w ps kd ver) ps.length) true,aD (jU k r c w ps kd ver:Nat)],[]⟩:=by
 refine eA ?_
 have hp:=hv.rd.plain
 have hmn:=g7 hm
 obtain ⟨hl,hpr⟩:=vM hr
 have hTl:=ahd k r c w ps kd ver
 have h0:=avk k r c w kd ver v ps cells hv hm (by omega)
 have hN:ps.length≤16:=by omega
 have hN1:1≤ps.length:=by omega
 have hvl:(iJ k r c w ps kd ver).getD []=[]∨((iJ k r c w ps kd ver).getD []).length=ps.length:=by
  cases hT:iJ k r c w ps kd ver with
  | none=>exact .inl rfl
  | some l=>exact .inr (by have:=(ahc hT).1;simp only [Option.getD_some];omega)
 have hTat:∀ (i:Nat) (p:bX) (n:Int),ps[i]? = some p→((iJ k r c w ps kd ver).getD [])[i]? = some n→(iL k r c w ps kd ver).getD i []=mH k r c w p (i:Nat) kd n:=fun i p n hi hn=>by
  cases hT:iJ k r c w ps kd ver with
  | none=>rw [hT] at hn;cases hn
  | some l =>
   rw [hT] at hn
   simp only [Option.getD_some] at hn
   rw [ahg hT hi,List.getD_eq_getElem?_getD,hn]
   rfl
 have hTno:(iJ k r c w ps kd ver).getD []=[]→iL k r c w ps kd ver=List.replicate ps.length []∨(iJ k r c w ps kd ver=none):=fun h=>by
  cases hT:iJ k r c w ps kd ver with
  | none=>exact .inr rfl
  | some l =>
   rw [hT] at h
   simp only [Option.getD_some] at h
   have:=(ahc hT).1
   rw [h] at this
   simp at this
   omega
 have hTn0:(iJ k r c w ps kd ver).getD []=[]→(∀ n,cB (iL k r c w ps kd ver) n=[]):=fun h n=>by
  rcases hTno h with h | h
  ·unfold cB
   rw [List.filter_eq_nil_iff]
   intro a _
   rw [h,List.getD_eq_getElem?_getD,List.getElem?_replicate]
   split <;> simp
  ·exact ang h n
 have hvr:=avm (iJ k r c w ps kd ver)
 generalize hlv:(iJ k r c w ps kd ver).getD []=lv at *
 generalize sN (iJ k r c w ps kd ver)=LV at *
 have hmk:=fun m=>ag5 m (n:=ps.length) (by omega)
 have hlN:(k+r).toNat=ps.length:=by omega
 unfold jU
 rw [hlN]
 have hTA:∀ i p,ps[i]? = some p→∀ (n:Int) (a:AV),cells[i*2]? = some a→True:=fun _ _ _ _ _ _=>trivial
 clear hTA hTno
 generalize hTT:iL k r c w ps kd ver=T at *
 have s0:=cQ hvr
 have hat:=fun {i p} h ix kk hk=>aol (k:=k) (r:=r) (c:=c) (w:=w) hv hm (i:=i) (p:=p) h ix kk hk
 have hfin:∀ i,i≤ps.length→(∀ j,i≤j→j < ps.length→T.getD j []=[])→fO T i=fO T ps.length∧cB T i=cB T ps.length:=fun i hi h=>by
  constructor
  ·refine ahf fun j hj => ?_
   by_cases h1:j < i
   ·rw [if_pos h1,if_pos (by omega)]
   ·rw [if_neg h1,if_pos (by omega),h j (by omega) (by omega)];rfl
  ·obtain ⟨d,hd⟩:∃ d,ps.length=i+d:=⟨ps.length - i,by omega⟩
   rw [hd]
   have:∀ e,e≤d→cB T (i+e)=cB T i:=fun e=>by
    induction e with
    | zero=>exact fun _=>rfl
    | succ e ih =>
     intro he
     rw [←Nat.add_assoc,wG,ih (by omega),h (i+e) (by omega) (by omega)]
     simp
   exact (this d (Nat.le_refl _)).symm
 have hall:lv=[]→∀ j,T.getD j []=[]:=fun h j=>by
  by_cases hj:j < ps.length
  ·have:=hTn0 h (j+1)
   rw [wG] at this
   by_cases h2:(T.getD j []).length≠0
   ·rw [if_pos h2] at this;simp at this
   ·exact List.eq_nil_of_length_eq_zero (by omega)
  ·rw [List.getD_eq_getElem?_getD,List.getElem?_eq_none (by omega)];rfl
 have h00:fO T 0=(List.range ps.length).map fun _=>aO:=by unfold fO;rw [hTl];apply List.map_congr_left;intro j _;rw [if_neg (by omega)]
 replace hat:=aB.mk @hat
 replace hTl:=aB.mk hTl
 replace hmn:=aB.mk hmn
 replace hpr:=aB.mk hpr
 replace hvl:=aB.mk hvl
 replace hTat:=aB.mk hTat
 replace hTn0:=aB.mk hTn0
 replace hfin:=aB.mk hfin
 replace hall:=aB.mk hall
 replace hl:=aB.mk hl
 have hne1:¬ (0:Int) ≤ -1:=by decide
 refine bZ follows Tryz.func146 (by unfold Tryz.f146;rfl) (by unfold Tryz.f146;simp) tZ (by unfold Tryz.f146;simp) (by kernel_rfl) ?_;unfold Tryz.f146
 simp only [↓pre,simprocAttr,aA,sx,uL,tZ,bne,aC,aI,aL,aJ,aK,aG,aH,hmk,hv.rd.len',sr]
 refine aM (h0) (by simp only [aA,aV, *]) ?_;simp only [↓pre,simprocAttr,aA,sx,uL,tZ,bne,aC,aI,aL,aJ,aK,aG,aH,hmk,s0,sr]
 rw [b9]
 refine cA (fun q e m=>∃ i,q+i=lv.length∧e 1=v∧e 2 = .val (.int .u8 kd)∧e 4 = .tptr 0 [aD k,aD r,aD c,aD w]∧e 10 = .sl 0 0 ps.length ps.length true∧e 11=LV∧e 12=aD ((cB T i).length:Nat)∧e 13=aD (i:Nat)∧aB (m.at_ 0=some ⟨fO T i,52,.var,true⟩∧0 < m.next)) lv.length ⟨0,by omega,rfl,rfl,rfl,rfl,rfl,rfl,rfl,⟨by rw [aH,if_pos aQ.symm,h00],by rw [aW];omega⟩⟩ ?_
 rintro q e m ⟨i,hq,e1,e2,e4,e10,e11,e12,e13,hJ⟩
 replace hq:=aB.mk hq
 have hm0:¬ 0=m.next:=by have:=hJ.out.2;omega
 have hb0:=hJ.out.1
 by_cases hlt:i < lv.length
 ·have hlt':((i:Nat):Int) < ((lv.length:Nat):Int):=by omega
  have hlp:lv.length=ps.length:=by
   rcases hvl.out with h | h
   ·rw [h] at hlt;exact absurd hlt (by simp)
   ·exact h
  have wi:=cI (n:=i) (by omega)
  have hip:i < ps.length:=by omega
  obtain ⟨p,hpi⟩:∃ p,ps[i]? = some p:=⟨_,List.getElem?_eq_getElem hip⟩
  obtain ⟨z,hz⟩:∃ z,lv[i]? = some z:=⟨_,List.getElem?_eq_getElem hlt⟩
  obtain ⟨a,b,xa,xb,ha,hb,hra,hrb⟩:=hv.at_ i p hpi
  obtain ⟨ht,htl⟩:=nZ ha hb
  have hTi:=hTat.out i p z hpi hz
  have hzc:=qT (x:=[]) hz
  rw [List.append_nil] at hzc
  have hH:=avi k r c w kd (i:Nat) z a b p xa xb hra hrb hm
  have hts:=wG T i
  have hle:=aeH T i
  have w2:=cI (n:=(cB T i).length) (by omega)
  have hof:=fun kk hk=>hat.out hpi (i:Nat) kk hk
  have hiT:i < T.length:=by have:=hTl.out;omega
  have hput:=ane hiT
  have hl1:i+1≤(fO T i).length:=by rw [aeO];omega
  have hex:T.getD i []=[]→fO T i=fO T (i+1):=fun hD=>ahf fun j hj=>by
   by_cases e:j=i
   ·subst e
    rw [if_neg (by omega),if_pos (by omega),hD]
    rfl
   ·by_cases e2:j < i
    ·rw [if_pos e2,if_pos (by omega)]
    ·rw [if_neg e2,if_neg (by omega)]
  have pa:=hra.plain
  have pb:=hrb.plain
  have fa:=cM hra
  have fb:=cM hrb
  have oa:=b6 hra
  have ob:=b6 hrb
  simp only [aD] at hH
  replace hex:=aB.mk hex
  replace hof:=aB.mk hof
  replace hpi:=aB.mk hpi
  replace hz:=aB.mk hz
  replace hlp:=aB.mk hlp
  replace hle:=aB.mk hle
  replace hTl:=aB.mk hTl
  replace hTi:=aB.mk hTi
  rcases avl k r c w p (i:Nat) kd z with ⟨h1,h2⟩ | ⟨kk,hk2,h1,h2,h3,h4⟩
  ·rw [h1] at hH
   have hD:=hTi.out.trans h2
   have hxx:=hex.out hD
   rw [hD,if_neg (by simp),List.append_nil] at hts
   replace hts:=aB.mk hts
   replace hD:=aB.mk hD
   replace h1:=aB.mk h1
   replace h2:=aB.mk h2
   replace hput:=aB.mk hput
   replace hxx:=aB.mk hxx
   simp only [↓pre,simprocAttr,aA,sx,uL,tZ,bne,aC,aI,aL,aJ,aK,aG,aH,hmk,e1,e2,e4,e10,e11,e12,e13,fa,fb,oa,ob,hv.rd.addr',hip,ht,htl,hlt',hvr.len',hvr.addr',hlt,hzc,sr]
   (refine cE (hH) (by simp only [aA,aV, *]) (by intro k;rfl) ?_);simp only [↓pre,simprocAttr,aA,sx,uL,tZ,bne,aC,aI,aL,aJ,aK,aG,aH,hmk,e1,e2,e4,e10,e11,e12,e13,fa,fb,oa,ob,hv.rd.addr',hip,ht,htl,hne1,wi,sr]
   exact ⟨q - 1,by have:=hq.out;omega,i+1,by have:=hq.out;omega,by rw [hts.out],rfl,⟨by rw [hb0,hxx.out],hJ.out.2⟩⟩
  ·rw [h1] at hH
   have hDl:(T.getD i []).length≠0:=by rw [hTi.out];have:=hmn.out;omega
   rw [if_pos hDl] at hts
   have hts2:(cB T (i+1)).length=(cB T i).length+1:=by rw [hts,List.length_append];rfl
   obtain ⟨vi,hvi,hpl,kd',i0,ce,st,vv,dv,hO,hOf⟩:=hof.out kk hk2
   obtain ⟨n1,y1,g1⟩:=hOf.r1
   obtain ⟨u1,u2,u3,u4,u5⟩:=hOf.is h2
   replace u1:=aB.mk u1
   replace u2:=aB.mk u2
   replace u3:=aB.mk u3
   replace u4:=aB.mk u4
   rw [h2] at hO
   rw [←h3,←hTi.out] at u5
   subst u5
   have hbv:fQ (T.getD i []) = .tree (T.getD i []).length (T.getD i []).length (aT (T.getD i [])) false:=by unfold fQ;rw [if_neg hDl]
   rw [hbv] at hput
   unfold cN at hput
   simp only [List.length_cons,List.length_nil,Nat.zero_add] at hput
   generalize T.getD i []=D at *
   have f1:=cM g1
   have q1:=b6 g1
   have t1:=cQ g1
   have hge:(0:Int)≤((kk:Nat):Int):=by omega
   simp only [aD] at hO
   replace hts:=aB.mk hts
   replace hts2:=aB.mk hts2
   replace hOf:=aB.mk hOf
   replace h1:=aB.mk h1
   replace h2:=aB.mk h2
   replace h3:=aB.mk h3
   replace h4:=aB.mk h4
   replace hbv:=aB.mk hbv
   replace hDl:=aB.mk hDl
   replace hJ:=aB.mk hJ
   simp only [↓pre,simprocAttr,aA,sx,uL,tZ,bne,aC,aI,aL,aJ,aK,aG,aH,hmk,e1,e2,e4,e10,e11,e12,e13,fa,fb,oa,ob,hv.rd.addr',hip,ht,htl,f1,q1,t1,hm0,hb0,hl1,hlt',hvr.len',hvr.addr',hlt,hzc,sr]
   (refine cE (hH) (by simp only [aA,aV, *]) (by intro k;rfl) ?_);simp only [↓pre,simprocAttr,aA,sx,uL,tZ,bne,aC,aI,aL,aJ,aK,aG,aH,hmk,e1,e2,e4,e10,e11,e12,e13,fa,fb,oa,ob,hv.rd.addr',hip,ht,htl,f1,q1,t1,hm0,hb0,hl1,hge,hk2,hvi,sr]
   (refine cE (hO) (by simp only [aA,aV, *]) (by intro k;simp only [sq,sr, *]) ?_);simp only [↓pre,simprocAttr,aA,sx,uL,tZ,bne,aC,aI,aL,aJ,aK,aG,aH,hmk,e1,e2,e4,e10,e11,e12,e13,fa,fb,oa,ob,hv.rd.addr',hip,ht,htl,f1,q1,t1,hm0,hb0,hl1,sr]
   refine nT (by kernel_rfl) ?_
   simp only [↓pre,simprocAttr,aA,sx,uL,tZ,bne,aC,aI,aL,aJ,aK,aG,aH,hmk,e1,e2,e4,e10,e11,e12,e13,fa,fb,oa,ob,hv.rd.addr',hip,ht,htl,f1,q1,t1,hm0,hb0,hl1,sr]
   refine dJ (by kernel_rfl) ?_
   simp only [↓pre,simprocAttr,aA,sx,uL,tZ,bne,aC,aI,aL,aJ,aK,aG,aH,hmk,e1,e2,e4,e10,e11,e12,e13,fa,fb,oa,ob,hv.rd.addr',hip,ht,htl,f1,q1,t1,hm0,hb0,hl1,hput,w2,wi,sr]
   exact ⟨q - 1,by have:=hq.out;omega,i+1,by have:=hq.out;omega,by rw [hts2.out],rfl,⟨by simp [aG,hput],by simp [aZ,aW]⟩⟩
 ·have hlt':¬ ((i:Nat):Int) < ((lv.length:Nat):Int):=by omega
  have hi:i=lv.length:=by have:=hq.out;omega
  obtain ⟨h1,h2⟩:fO T i=fO T ps.length∧cB T i=cB T ps.length:=by
   rcases hvl.out with h | h
   ·refine hfin.out i (by rw [hi,h];simp) fun j _ _=>hall.out h j
   ·rw [hi,h];exact ⟨rfl,rfl⟩
  rw [h2] at e12
  replace h1:=aB.mk h1
  replace h2:=aB.mk h2
  simp only [↓pre,simprocAttr,aA,sx,uL,tZ,bne,aC,aI,aL,aJ,aK,aG,aH,hmk,e1,e2,e4,e10,e11,e12,e13,hlt',hvr.len',sr]
  exact ⟨1,by rw [j6,dY,adL hb0 (abu _ (by rw [List.drop_zero];intro x hx;unfold fO at hx;obtain ⟨j,_,rfl⟩:=List.mem_map.1 hx;split;exact kD (abx _);exact b8 _)),Option.bind_some,dY,fZ,i7,List.drop_zero,h1.out];rfl⟩
theorem avo (T:List (List UInt8)):bC (.tree T.length T.length (fO T T.length) true) T.length (fO T T.length):=lN _ _ _
theorem avp (k r c w kd ver:Int) (v:AV) (ps:List bX) (cells:List AV) (hv:fR v ps cells) (hm:bU k r c w=true) (hr:dS k r c ps=true):aX Tryz.prog 204 [aA k r c w,v,.val (.int .u8 kd),aD ver] ⟨wK k r c w ps kd ver,[]⟩:=by
 refine eA ?_
 have hp:=hv.rd.plain
 have hml:=jN.1 hm
 have h1:=avn k r c w kd ver v ps cells hv hm hr
 obtain ⟨hl,_⟩:=vM hr
 obtain ⟨K,hK⟩:∃ K:Nat,k=(K:Int):=⟨k.toNat,by omega⟩
 obtain ⟨R,hR⟩:∃ R:Nat,r=(R:Int):=⟨r.toNat,by omega⟩
 obtain ⟨C,hC⟩:∃ C:Nat,c=(C:Int):=⟨c.toNat,by omega⟩
 have hkr:(k+r).toNat=K+R:=by omega
 have hkn:k.toNat=K:=by omega
 have hcn:c.toNat=C:=by omega
 have hTl:=ahd k r c w ps kd ver
 have hTa:=anc k r c w C hC ps kd ver
 unfold wK
 by_cases hlt:jU k r c w ps kd ver < k.toNat
 ·have hlt':((jU k r c w ps kd ver:Nat):Int) < k:=by omega
  rw [if_pos hlt]
  have t1:=lN ps.length (fO (iL k r c w ps kd ver) ps.length) true
  have s1:=cQ t1
  have hf:=fun m=>iI (b8 (.slice none 0 0)) (b8 (.int .i64 5)) 1 m
  generalize AV.tree ps.length ps.length (fO (iL k r c w ps kd ver) ps.length) true=TV at *
  generalize jU k r c w ps kd ver=MN at *
  replace hf:=aB.mk hf
  replace hml:=aB.mk hml
  replace hTa:=aB.mk hTa
  simp only [aD] at h1
  refine bZ follows Tryz.func204 (by unfold Tryz.f204;rfl) (by unfold Tryz.f204;simp) aE (by unfold Tryz.f204;simp) (by kernel_rfl) ?_;unfold Tryz.f204
  simp only [↓pre,simprocAttr,aA,sx,aco,aE,aC,aO,sr]
  refine aM (h1) (by simp only [aA,aV, *]) ?_;simp only [↓pre,simprocAttr,aA,sx,aco,aE,aC,aO,s1,hlt',sr]
  exact ⟨1,hf.out _⟩
 ·have hlt':¬ ((jU k r c w ps kd ver:Nat):Int) < k:=by omega
  rw [if_neg hlt]
  have hD:=avh (.tree ps.length ps.length (fO (iL k r c w ps kd ver) ps.length) true) K R C (iL k r c w ps kd ver) _ (anf _ _ (by have:=avo (iL k r c w ps kd ver);rw [hTl] at this ⊢;exact this)) (by omega) hTa (by omega) (by omega) (by omega) (by omega) (by omega) (by unfold jU at hlt;rw [hkr] at hlt;omega)
  have hW:abo K ((cB (iL k r c w ps kd ver) (K+R)).take K) (gF (iL k r c w ps kd ver))=nJ k r c w ps kd ver:=by unfold nJ;rw [hkr,hkn]
  rw [hW,←hK,←hR] at hD
  rw [hkr,hcn]
  have hT2:bJ (K+R) (eN C (nJ k r c w ps kd ver) 0 (K+R)) = .tree (K+R) (K+R) (eN C (nJ k r c w ps kd ver) 0 (K+R)) false:=by unfold bJ;rw [if_neg (by omega)]
  rw [hT2]
  have t1:=lN ps.length (fO (iL k r c w ps kd ver) ps.length) true
  have s1:=cQ t1
  have p1:=t1.plain
  have t2:=lN (K+R) (eN C (nJ k r c w ps kd ver) 0 (K+R)) false
  have s2:=cQ t2
  have hf:=fun m=>iI (kD t2) (b8 (.int .i64 0)) 1 m
  generalize AV.tree ps.length ps.length (fO (iL k r c w ps kd ver) ps.length) true=TV at *
  generalize AV.tree (K+R) (K+R) (eN C (nJ k r c w ps kd ver) 0 (K+R)) false=DV at *
  generalize jU k r c w ps kd ver=MN at *
  replace hf:=aB.mk hf
  replace hml:=aB.mk hml
  replace hTa:=aB.mk hTa
  replace hW:=aB.mk hW
  replace hT2:=aB.mk hT2
  replace hK:=aB.mk hK
  replace hR:=aB.mk hR
  replace hC:=aB.mk hC
  replace hlt:=aB.mk hlt
  simp only [aD] at h1 hD
  refine bZ follows Tryz.func204 (by unfold Tryz.f204;rfl) (by unfold Tryz.f204;simp) aE (by unfold Tryz.f204;simp) (by kernel_rfl) ?_;unfold Tryz.f204
  simp only [↓pre,simprocAttr,aA,sx,aco,aE,aC,aO,sr]
  refine aM (h1) (by simp only [aA,aV, *]) ?_;simp only [↓pre,simprocAttr,aA,sx,aco,aE,aC,aO,s1,hlt',sr]
  refine aM (hD) (by simp only [aA,aV, *]) ?_;simp only [↓pre,simprocAttr,aA,sx,aco,aE,aC,aO,s2,sr]
  exact ⟨1,hf.out _⟩
theorem aom (k r c w kd ver:Int) (v:AV) (ps:List bX) (cells:List AV) (hv:fR v ps cells) (hm:bU k r c w=true) (hr:dS k r c ps=true):aX Tryz.prog 116 [aA k r c w,v,.val (.int .u8 kd),aD ver] ⟨wL k r c w ps kd ver,[]⟩:=by
 refine eA ?_
 have hp:=hv.rd.plain
 have h1:=avp k r c w kd ver v ps cells hv hm hr
 have hml:=jN.1 hm
 have hw:=gZ hm
 unfold wL
 unfold wK at h1
 by_cases hlt:jU k r c w ps kd ver < k.toNat
 ·rw [if_pos hlt] at h1 ⊢
  have hf:=fun m=>iI (b8 (.slice none 0 0)) (b8 (.int .i64 5)) 1 m
  replace hf:=aB.mk hf
  simp only [aO] at h1
  refine bZ follows Tryz.func116 (by unfold Tryz.f116;rfl) (by unfold Tryz.f116;simp) aE (by unfold Tryz.f116;simp) (by kernel_rfl) ?_;unfold Tryz.f116
  simp only [↓pre,simprocAttr,aA,sx,y9,aE,aC,aO,sr]
  refine aM (h1) (by simp only [aA,aV, *]) ?_;simp only [↓pre,simprocAttr,aA,sx,y9,aE,aC,aO,sr]
  exact ⟨1,hf.out _⟩
 ·rw [if_neg hlt] at h1 ⊢
  obtain ⟨K,hK⟩:∃ K:Nat,k=(K:Int):=⟨k.toNat,by omega⟩
  obtain ⟨C,hC⟩:∃ C:Nat,c=(C:Int):=⟨c.toNat,by omega⟩
  have hkn:k.toNat=K:=by omega
  have hcn:c.toNat=C:=by omega
  have hR1:K≤(k+r).toNat:=by omega
  rw [hkn,hcn]
  rw [hcn] at h1
  have hrd:=dX (k+r).toNat (eN C (nJ k r c w ps kd ver) 0 (k+r).toNat)
  have hds:=ahh k r c w ps kd ver
  have hdl:=aaa k r c w ps kd ver
  rw [hcn] at hds hdl
  have hcat:=fun i (h:i < (k+r).toNat)=>aeJ (L:=C) (F:=nJ k r c w ps kd ver) (a:=0) h
  have hKC:k*c=((K*C:Nat):Int):=by rw [hK,hC];simp
  have hKC2:K*C≤768:=by omega
  have hKC3:32≤K*C:=by omega
  have hpr:=hrd.plain
  have s1:=cQ hrd
  generalize bJ (k+r).toNat (eN C (nJ k r c w ps kd ver) 0 (k+r).toNat)=WV at *
  generalize nJ k r c w ps kd ver=W at *
  generalize nK k r c w ps kd ver=D at *
  have hD0:D 0=[]:=List.eq_nil_of_length_eq_zero (by rw [hdl];omega)
  subst hK
  simp only [aD] at h1
  replace hds:=aB.mk hds
  replace hdl:=aB.mk hdl
  replace hcat:=aB.mk hcat
  replace hlt:=aB.mk hlt
  replace hKC:=aB.mk hKC
  replace hml:=aB.mk hml
  replace hw:=aB.mk hw
  replace hkn:=aB.mk hkn
  refine bZ follows Tryz.func116 (by unfold Tryz.f116;rfl) (by unfold Tryz.f116;simp) aE (by unfold Tryz.f116;simp) (by kernel_rfl) ?_;unfold Tryz.f116
  simp only [↓pre,simprocAttr,aA,sx,y9,aE,aC,aI,bQ,sr]
  refine aM (h1) (by simp only [aA,aV, *]) ?_;simp only [↓pre,simprocAttr,aA,sx,y9,aE,aC,aI,bQ,s1,sr]
  rw [b9]
  refine cA (fun q e m=>∃ i lv,q+i=K∧e 4 = .tptr 0 [aD ((K:Nat):Int),aD r,aD c,aD w]∧e 10=WV∧e 12=lv∧e 13=aD (i:Nat)∧aB (cY m 5 1 lv (i*C) (aT (D i)))) K ⟨0,aO,by omega,rfl,rfl,rfl,rfl,⟨by rw [hD0,Nat.zero_mul];exact fB⟩⟩ ?_
  rintro q e m ⟨i,lv,hq,e4,e10,e12,e13,hJ⟩
  replace hq:=aB.mk hq
  by_cases hlt2:i < K
  ·have hlt2':((i:Nat):Int) < ((K:Nat):Int):=by omega
   have wi:=cI (n:=i) (by have:=hml.out;omega)
   have hin:i < (((K:Nat):Int)+r).toNat:=by omega
   have hca:=hcat.out i hin
   rw [Nat.zero_add] at hca
   have hiC:i*C+C≤768:=by
    have:(i+1)*C≤K*C:=Nat.mul_le_mul_right _ (by omega)
    rw [Nat.add_mul,Nat.one_mul] at this
    omega
   have hC8:8≤C:=by have:=hml.out;omega
   have hsrc:∀ m:aF,eZ Tryz.prog 5 1 m (.tree C C (bA C (W i)) true)=some (bA C (W i),C):=fun m=>by
    rw [uD (by rw [fC];omega),Nat.mul_one,List.take_of_length_le (by rw [fC];omega)]
   have hDs:=hds.out i
   simp only [↓pre,simprocAttr,aA,sx,y9,aE,aC,aI,bQ,e4,e10,e12,e13,hlt2',hrd.addr',hin,hca,sr]
   refine oT (kd := .flat) (sz:=1) (y:=1) (zl:=[.int .u8 0]) (by kernel_rfl) hJ.out (by kernel_rfl) (by kernel_rfl) (by kernel_rfl) rfl (hsrc m) (by rw [fC,Nat.mul_one]) (by omega) (by omega) ?_
   intro lv' m' ho' hn'
   have ho2:cY m' 5 1 lv' ((i+1)*C) (aT (D (i+1))):=by
    rw [hDs,qZ,Nat.add_mul,Nat.one_mul]
    exact ho'
   replace ho2:=aB.mk ho2
   clear ho'
   simp only [↓pre,simprocAttr,aA,sx,y9,aE,aC,aI,bQ,e4,e10,e12,e13,wi,sr]
   exact ⟨q - 1,by have:=hq.out;omega,i+1,lv',by have:=hq.out;omega,rfl,rfl,ho2⟩
  ·have hlt2':¬ ((i:Nat):Int) < ((K:Nat):Int):=by omega
   have hi:i=K:=by have:=hq.out;omega
   subst hi
   obtain ⟨b,rfl,hb,_⟩:=hJ.out.sl (by omega)
   have hTR:bJ (i*C) (aT (D i)) = .tree (i*C) (i*C) (aT (D i)) false:=by unfold bJ;rw [if_neg (by omega)]
   rw [hTR]
   simp only [↓pre,simprocAttr,aA,sx,y9,aE,aC,aI,bQ,e4,e10,e12,e13,hlt2',sr]
   exact ⟨1,by rw [j6,dY,rU hb,Option.bind_some,dY,fZ,i7,List.drop_zero];rfl⟩
theorem ahz (k r c w n:Int):aX Tryz.prog 312 [aA k r c w,aD n] ⟨aD (oE k r c w n),[]⟩:=by
 have h1:=abe k r c w
 unfold oE
 cases hm:bU k r c w with
 | false =>
  rw [hm] at h1
  simp only [Bool.false_eq_true,if_false]
  refine bE follows Tryz.func312 (by unfold Tryz.f312;rfl) (by unfold Tryz.f312;simp) aE (by unfold Tryz.f312;simp) (by kernel_rfl) ?_;unfold Tryz.f312
  simp only [↓pre,simprocAttr,aA,sx,uN,aE,aC,sr]
  refine aM (h1) (by rfl) ?_;simp only [↓pre,simprocAttr,aA,sx,uN,aE,aC,sr]
 | true =>
  have h2:=alL k r c w hm
  rw [hm] at h1
  simp only [if_true]
  by_cases k1:n < 0
  ·simp only [k1,if_true]
   refine bE follows Tryz.func312 (by unfold Tryz.f312;rfl) (by unfold Tryz.f312;simp) aE (by unfold Tryz.f312;simp) (by kernel_rfl) ?_;unfold Tryz.f312
   simp only [↓pre,simprocAttr,aA,sx,uN,aE,aC,sr]
   refine aM (h1) (by rfl) ?_;simp only [↓pre,simprocAttr,aA,sx,uN,aE,aC,k1,sr]
  ·by_cases k2:mI k c < n
   ·simp only [k1,k2,if_true,if_false]
    refine bE follows Tryz.func312 (by unfold Tryz.f312;rfl) (by unfold Tryz.f312;simp) aE (by unfold Tryz.f312;simp) (by kernel_rfl) ?_;unfold Tryz.f312
    simp only [↓pre,simprocAttr,aA,sx,uN,aE,aC,sr]
    refine aM (h1) (by rfl) ?_;simp only [↓pre,simprocAttr,aA,sx,uN,aE,aC,k1,k2,sr];refine aM (h2) (by rfl) ?_;simp only [↓pre,simprocAttr,aA,sx,uN,aE,aC,k1,k2,sr]
   ·simp only [k1,k2,if_false]
    refine bE follows Tryz.func312 (by unfold Tryz.f312;rfl) (by unfold Tryz.f312;simp) aE (by unfold Tryz.f312;simp) (by kernel_rfl) ?_;unfold Tryz.f312
    simp only [↓pre,simprocAttr,aA,sx,uN,aE,aC,sr]
    refine aM (h1) (by rfl) ?_;simp only [↓pre,simprocAttr,aA,sx,uN,aE,aC,k1,k2,sr];refine aM (h2) (by rfl) ?_;simp only [↓pre,simprocAttr,aA,sx,uN,aE,aC,k1,k2,sr]
theorem ae1 {k r c w n:Int} (h:oE k r c w n=0):bU k r c w=true∧0≤n∧n≤mI k c:=by
 unfold oE at h
 split at h
 ·rename_i hm
  split at h
  ·omega
  ·split at h
   ·omega
   ·exact ⟨hm,by omega,by omega⟩
 ·omega
theorem avq (k r c w n:Int):aX Tryz.prog 262 [aA k r c w,aD n] ⟨.tup [aD (oS k r c w n),aD (oE k r c w n)],[]⟩:=by
 have h1:=ahz k r c w n
 unfold oS
 by_cases h:oE k r c w n=0
 ·obtain ⟨hm,hn,hn2⟩:=ae1 h
  have h2:=aej k r c w n hm hn hn2
  rw [h] at h1 ⊢
  rw [if_pos rfl]
  clear h
  refine bE follows Tryz.func262 (by unfold Tryz.f262;rfl) (by unfold Tryz.f262;simp) aE (by unfold Tryz.f262;simp) (by kernel_rfl) ?_;unfold Tryz.f262
  simp only [↓pre,simprocAttr,aA,sx,acu,aE,aC,dH,cW,eq_self]
  refine aM (h1) (by rfl) ?_;simp only [↓pre,simprocAttr,aA,sx,acu,aE,aC,dH,cW,eq_self];refine aM (h2) (by rfl) ?_;simp only [↓pre,simprocAttr,aA,sx,acu,aE,aC,dH,cW,eq_self]
 ·rw [if_neg h]
  refine bE follows Tryz.func262 (by unfold Tryz.f262;rfl) (by unfold Tryz.f262;simp) aE (by unfold Tryz.f262;simp) (by kernel_rfl) ?_;unfold Tryz.f262
  simp only [↓pre,simprocAttr,aA,sx,acu,aE,aC,dH,cW,eq_self]
  refine aM (h1) (by rfl) ?_;simp only [↓pre,simprocAttr,aA,sx,acu,aE,aC,dH,cW,eq_self,h]
theorem avr (k r c w n:Int):aX Tryz.prog 263 [aA k r c w,aD n] ⟨.tup [aD (min (oF k r c w n) 1),aD (oE k r c w n)],[]⟩:=by
 have h1:=ahz k r c w n
 unfold oF
 by_cases h:oE k r c w n=0
 ·obtain ⟨hm,hn,hn2⟩:=ae1 h
  have h2:=aej k r c w n hm hn hn2
  rw [h] at h1 ⊢
  rw [if_pos rfl]
  clear h
  refine bE follows Tryz.func263 (by unfold Tryz.f263;rfl) (by unfold Tryz.f263;simp) aE (by unfold Tryz.f263;simp) (by kernel_rfl) ?_;unfold Tryz.f263
  simp only [↓pre,simprocAttr,aA,sx,acv,aE,aC,dH,cW,eq_self]
  refine aM (h1) (by rfl) ?_;simp only [↓pre,simprocAttr,aA,sx,acv,aE,aC,dH,cW,eq_self];refine aM (h2) (by rfl) ?_;simp only [↓pre,simprocAttr,aA,sx,acv,aE,aC,dH,cW,eq_self]
 ·rw [if_neg h,show min (0:Int) 1=0 from rfl]
  refine bE follows Tryz.func263 (by unfold Tryz.f263;rfl) (by unfold Tryz.f263;simp) aE (by unfold Tryz.f263;simp) (by kernel_rfl) ?_;unfold Tryz.f263
  simp only [↓pre,simprocAttr,aA,sx,acv,aE,aC,dH,cW,eq_self]
  refine aM (h1) (by rfl) ?_;simp only [↓pre,simprocAttr,aA,sx,acv,aE,aC,dH,cW,eq_self,h]
theorem avt (k r c w n:Int):aX Tryz.prog 264 [aA k r c w,aD n] ⟨.tup [aD (oF k r c w n),aD (oE k r c w n)],[]⟩:=by
 have h1:=ahz k r c w n
 unfold oF
 by_cases h:oE k r c w n=0
 ·obtain ⟨hm,hn,hn2⟩:=ae1 h
  have h2:=aej k r c w n hm hn hn2
  rw [h] at h1 ⊢
  rw [if_pos rfl]
  clear h
  refine bE follows Tryz.func264 (by unfold Tryz.f264;rfl) (by unfold Tryz.f264;simp) aE (by unfold Tryz.f264;simp) (by kernel_rfl) ?_;unfold Tryz.f264
  simp only [↓pre,simprocAttr,aA,sx,acw,aE,aC,dH,cW,eq_self]
  refine aM (h1) (by rfl) ?_;simp only [↓pre,simprocAttr,aA,sx,acw,aE,aC,dH,cW,eq_self];refine aM (h2) (by rfl) ?_;simp only [↓pre,simprocAttr,aA,sx,acw,aE,aC,dH,cW,eq_self]
 ·rw [if_neg h]
  refine bE follows Tryz.func264 (by unfold Tryz.f264;rfl) (by unfold Tryz.f264;simp) aE (by unfold Tryz.f264;simp) (by kernel_rfl) ?_;unfold Tryz.f264
  simp only [↓pre,simprocAttr,aA,sx,acw,aE,aC,dH,cW,eq_self]
  refine aM (h1) (by rfl) ?_;simp only [↓pre,simprocAttr,aA,sx,acw,aE,aC,dH,cW,eq_self,h]
theorem avu (k r c w:Int) (x:bP):aX Tryz.prog 303 [aA k r c w,.agg [aD x.1,aD x.2]] ⟨bB (jV w x),[]⟩:=by
 have hd:jV w x=decide ((0≤x.1∧x.1 < w)∧1≤x.2∧x.2≤1073741824):=rfl
 generalize jV w x=B at *
 replace hd:=aB.mk hd
 by_cases k1:0≤x.1
 ·by_cases k2:x.1 < w
  ·by_cases k3:1≤x.2
   ·by_cases k4:x.2≤1073741824
    ·have hB:B=true:=by rw [hd.out];simp;omega
     subst hB
     refine bE follows Tryz.func303 (by unfold Tryz.f303;rfl) (by unfold Tryz.f303;simp) aE (by unfold Tryz.f303;simp) (by kernel_rfl) ?_;unfold Tryz.f303
     simp only [↓pre,simprocAttr,aA,sx,acy,aE,aC,k1,k2,k3,k4,sr]
    ·have hB:B=false:=by rw [hd.out];simp;omega
     subst hB
     refine bE follows Tryz.func303 (by unfold Tryz.f303;rfl) (by unfold Tryz.f303;simp) aE (by unfold Tryz.f303;simp) (by kernel_rfl) ?_;unfold Tryz.f303
     simp only [↓pre,simprocAttr,aA,sx,acy,aE,aC,k1,k2,k3,k4,sr]
   ·have hB:B=false:=by rw [hd.out];simp;omega
    subst hB
    refine bE follows Tryz.func303 (by unfold Tryz.f303;rfl) (by unfold Tryz.f303;simp) aE (by unfold Tryz.f303;simp) (by kernel_rfl) ?_;unfold Tryz.f303
    simp only [↓pre,simprocAttr,aA,sx,acy,aE,aC,k1,k2,k3,sr]
  ·have hB:B=false:=by rw [hd.out];simp;omega
   subst hB
   refine bE follows Tryz.func303 (by unfold Tryz.f303;rfl) (by unfold Tryz.f303;simp) aE (by unfold Tryz.f303;simp) (by kernel_rfl) ?_;unfold Tryz.f303
   simp only [↓pre,simprocAttr,aA,sx,acy,aE,aC,k1,k2,sr]
 ·have hB:B=false:=by rw [hd.out];simp;omega
  subst hB
  refine bE follows Tryz.func303 (by unfold Tryz.f303;rfl) (by unfold Tryz.f303;simp) aE (by unfold Tryz.f303;simp) (by kernel_rfl) ?_;unfold Tryz.f303
  simp only [↓pre,simprocAttr,aA,sx,acy,aE,aC,k1,sr]
theorem aon (k r c w:Int) (v:AV) (l:List bP) (hv:sO v l) (hn:l.length≤9223372036854775807):aX Tryz.prog 247 [aA k r c w,v] ⟨bB (jW w l),[]⟩:=by
 obtain ⟨x,hv⟩:=hv
 have hp:=hv.plain
 generalize hres:jW w l=B
 have hrf:=fun y=>avu k r c w y
 replace hres:=aB.mk hres
 replace hrf:=aB.mk hrf
 refine bE follows Tryz.func247 (by unfold Tryz.f247;rfl) (by unfold Tryz.f247;simp) aE (by unfold Tryz.f247;simp) (by kernel_rfl) ?_;unfold Tryz.f247
 simp only [↓pre,simprocAttr,aA,sx,aa9,aE,aC,aI,aJ,aK,aG,aH,sr]
 rw [b9]
 refine cA (fun q e m=>∃ i,q+i=l.length∧e 1=v∧e 2 = .tptr 0 [aD k,aD r,aD c,aD w]∧e 5=aD (i:Nat)∧aB (∀ j y,j < i→l[j]? = some y→jV w y=true)) l.length ⟨0,by omega,rfl,rfl,rfl,⟨fun j y h=>by omega⟩⟩ ?_
 rintro q e m ⟨i,hq,e1,e2,e5,hJ⟩
 replace hq:=aB.mk hq
 by_cases hlt:i < l.length
 ·have hlt':((i:Nat):Int) < ((l.length:Nat):Int):=by omega
  have wi:=cI (n:=i) (by omega)
  obtain ⟨y,hy⟩:∃ y,l[i]? = some y:=⟨_,List.getElem?_eq_getElem hlt⟩
  obtain ⟨ha,hb⟩:=qX l x i y hy
  obtain ⟨ht,htl⟩:=nZ ha hb
  have hr1:=hrf.out y
  simp only [aD] at ht hr1
  cases hB:jV w y with
  | false =>
   have hBB:B=false:=by
    rw [←hres.out]
    unfold jW
    rw [List.all_eq_false]
    exact ⟨y,List.mem_of_getElem? hy,by rw [hB];decide⟩
   subst hBB
   rw [hB] at hr1
   replace hB:=aB.mk hB
   replace hy:=aB.mk hy
   simp only [↓pre,simprocAttr,aA,sx,aa9,aE,aC,aI,aJ,aK,aG,aH,e1,e2,e5,hlt',hv.len',hv.addr',hlt,ht,htl,sr]
   (refine cE (hr1) (by rfl) (by intro k;rfl) ?_);simp only [↓pre,simprocAttr,aA,sx,aa9,aE,aC,aI,aJ,aK,aG,aH,sr]
  | true =>
   have hgood:∀ j y,j < i+1→l[j]? = some y→jV w y=true:=fun j y' hj hy'=>by
    by_cases e:j=i
    ·subst e;rw [hy] at hy';cases hy';exact hB
    ·exact hJ.out j y' (by omega) hy'
   rw [hB] at hr1
   replace hB:=aB.mk hB
   replace hy:=aB.mk hy
   replace hgood:=aB.mk hgood
   simp only [↓pre,simprocAttr,aA,sx,aa9,aE,aC,aI,aJ,aK,aG,aH,e1,e2,e5,hlt',hv.len',hv.addr',hlt,ht,htl,sr]
   (refine cE (hr1) (by rfl) (by intro k;rfl) ?_);simp only [↓pre,simprocAttr,aA,sx,aa9,aE,aC,aI,aJ,aK,aG,aH,e1,e2,e5,wi,sr]
   exact ⟨q - 1,by have:=hq.out;omega,i+1,by have:=hq.out;omega,rfl,hgood⟩
 ·have hlt':¬ ((i:Nat):Int) < ((l.length:Nat):Int):=by omega
  have hB:B=true:=by
   rw [←hres.out]
   unfold jW
   rw [List.all_eq_true]
   intro y hy
   obtain ⟨j,hj⟩:=List.getElem?_of_mem hy
   have:=(List.getElem?_eq_some_iff.1 hj).1
   exact hJ.out j y (by omega) hj
  subst hB
  simp only [↓pre,simprocAttr,aA,sx,aa9,aE,aC,aI,aJ,aK,aG,aH,e1,e2,e5,hlt',hv.len',sr]
theorem avv (k r c w len dep:Int) (hm:bU k r c w=true) (v:AV) (l:List bP) (hv:sO v l) (hn:l.length≤9223372036854775807):aX Tryz.prog 207 [aA k r c w,.agg [aD len,aD dep,v]] ⟨bB (sP k r c w len dep l),[]⟩:=by
 have hM:=alL k r c w hm
 have hS:=avq k r c w len
 have hD:=avr k r c w len
 have hF:=avt k r c w len
 have hR:=aon k r c w v l hv hn
 have hF0:=aeR (n:=len) hm
 obtain ⟨x,hv⟩:=hv
 have hp:=hv.plain
 have f1:=cM hv
 have o1:=b6 hv
 generalize hres:sP k r c w len dep l=B
 unfold sP at hres
 have hE:oE k r c w len=if len < 0 then 2 else if mI k c < len then 3 else 0:=by unfold oE;rw [if_pos hm]
 by_cases k1:len < 0
 ·rw [if_pos k1] at hE
  rw [hE] at hres
  simp only [show ¬ (2:Int)=0 by decide,decide_false,Bool.false_and] at hres
  subst hres
  clear hE
  refine bE follows Tryz.func207 (by unfold Tryz.f207;rfl) (by unfold Tryz.f207;simp) aE (by unfold Tryz.f207;simp) (by kernel_rfl) ?_;unfold Tryz.f207
  simp only [↓pre,simprocAttr,aA,sx,eH,aE,aC,aI,f1,o1,k1,sr]
 ·by_cases k2:mI k c < len
  ·rw [if_neg k1,if_pos k2] at hE
   rw [hE] at hres
   simp only [show ¬ (3:Int)=0 by decide,decide_false,Bool.false_and] at hres
   subst hres
   clear hE
   refine bE follows Tryz.func207 (by unfold Tryz.f207;rfl) (by unfold Tryz.f207;simp) aE (by unfold Tryz.f207;simp) (by kernel_rfl) ?_;unfold Tryz.f207
   simp only [↓pre,simprocAttr,aA,sx,eH,aE,aC,aI,f1,o1,k1,sr]
   (refine cE (hM) (by rfl) (by intro k;rfl) ?_);simp only [↓pre,simprocAttr,aA,sx,eH,aE,aC,aI,f1,o1,k1,k2,sr]
  ·rw [if_neg k1,if_neg k2] at hE
   rw [hE] at hres
   simp only [decide_true,Bool.true_and] at hres
   rw [hE] at hS hD hF
   clear hE
   generalize oF k r c w len=f at *
   generalize oS k r c w len=s at *
   generalize jW w l=RB at *
   obtain ⟨d,hd⟩:∃ d,min f 1=d:=⟨_,rfl⟩
   rw [hd] at hD hres
   by_cases k3:dep=d
   ·rw [decide_eq_true k3.symm,Bool.true_and] at hres
    subst k3
    by_cases k4:dep=1
    ·rw [if_pos k4] at hres
     by_cases k5:(l.length:Int)=f
     ·rw [decide_eq_true k5,Bool.true_and] at hres
      subst hres
      replace hF0:=aB.mk hF0
      replace hd:=aB.mk hd
      cases RB with
      | true =>
       refine bE follows Tryz.func207 (by unfold Tryz.f207;rfl) (by unfold Tryz.f207;simp) aE (by unfold Tryz.f207;simp) (by kernel_rfl) ?_;unfold Tryz.f207
       simp only [↓pre,simprocAttr,aA,sx,eH,aE,aC,aI,f1,o1,k1,sr]
       (refine cE (hM) (by rfl) (by intro k;rfl) ?_);simp only [↓pre,simprocAttr,aA,sx,eH,aE,aC,aI,f1,o1,k1,k2,k4,k5,hv.len',sr];refine aM (hS) (by rfl) ?_;simp only [↓pre,simprocAttr,aA,sx,eH,aE,aC,aI,f1,o1,k1,k2,k4,k5,hv.len',sr];refine aM (hD) (by rfl) ?_;simp only [↓pre,simprocAttr,aA,sx,eH,aE,aC,aI,f1,o1,k1,k2,k4,k5,hv.len',sr];refine aM (hF) (by rfl) ?_;simp only [↓pre,simprocAttr,aA,sx,eH,aE,aC,aI,f1,o1,k1,k2,k4,k5,hv.len',sr];refine aM (hR) (by simp only [aA,aV, *]) ?_;simp only [↓pre,simprocAttr,aA,sx,eH,aE,aC,aI,f1,o1,k1,k2,k4,k5,hv.len',sr]
      | false =>
       refine bE follows Tryz.func207 (by unfold Tryz.f207;rfl) (by unfold Tryz.f207;simp) aE (by unfold Tryz.f207;simp) (by kernel_rfl) ?_;unfold Tryz.f207
       simp only [↓pre,simprocAttr,aA,sx,eH,aE,aC,aI,f1,o1,k1,sr]
       (refine cE (hM) (by rfl) (by intro k;rfl) ?_);simp only [↓pre,simprocAttr,aA,sx,eH,aE,aC,aI,f1,o1,k1,k2,k4,k5,hv.len',sr];refine aM (hS) (by rfl) ?_;simp only [↓pre,simprocAttr,aA,sx,eH,aE,aC,aI,f1,o1,k1,k2,k4,k5,hv.len',sr];refine aM (hD) (by rfl) ?_;simp only [↓pre,simprocAttr,aA,sx,eH,aE,aC,aI,f1,o1,k1,k2,k4,k5,hv.len',sr];refine aM (hF) (by rfl) ?_;simp only [↓pre,simprocAttr,aA,sx,eH,aE,aC,aI,f1,o1,k1,k2,k4,k5,hv.len',sr];refine aM (hR) (by simp only [aA,aV, *]) ?_;simp only [↓pre,simprocAttr,aA,sx,eH,aE,aC,aI,f1,o1,k1,k2,k4,k5,hv.len',sr]
     ·rw [decide_eq_false k5,Bool.false_and] at hres
      subst hres
      replace hF0:=aB.mk hF0
      replace hd:=aB.mk hd
      refine bE follows Tryz.func207 (by unfold Tryz.f207;rfl) (by unfold Tryz.f207;simp) aE (by unfold Tryz.f207;simp) (by kernel_rfl) ?_;unfold Tryz.f207
      simp only [↓pre,simprocAttr,aA,sx,eH,aE,aC,aI,f1,o1,k1,sr]
      (refine cE (hM) (by rfl) (by intro k;rfl) ?_);simp only [↓pre,simprocAttr,aA,sx,eH,aE,aC,aI,f1,o1,k1,k2,k4,k5,hv.len',sr];refine aM (hS) (by rfl) ?_;simp only [↓pre,simprocAttr,aA,sx,eH,aE,aC,aI,f1,o1,k1,k2,k4,k5,hv.len',sr];refine aM (hD) (by rfl) ?_;simp only [↓pre,simprocAttr,aA,sx,eH,aE,aC,aI,f1,o1,k1,k2,k4,k5,hv.len',sr];refine aM (hF) (by rfl) ?_;simp only [↓pre,simprocAttr,aA,sx,eH,aE,aC,aI,f1,o1,k1,k2,k4,k5,hv.len',sr]
    ·rw [if_neg k4] at hres
     by_cases k5:(l.length:Int)=s
     ·rw [decide_eq_true k5,Bool.true_and] at hres
      subst hres
      replace hF0:=aB.mk hF0
      replace hd:=aB.mk hd
      cases RB with
      | true =>
       refine bE follows Tryz.func207 (by unfold Tryz.f207;rfl) (by unfold Tryz.f207;simp) aE (by unfold Tryz.f207;simp) (by kernel_rfl) ?_;unfold Tryz.f207
       simp only [↓pre,simprocAttr,aA,sx,eH,aE,aC,aI,f1,o1,k1,sr]
       (refine cE (hM) (by rfl) (by intro k;rfl) ?_);simp only [↓pre,simprocAttr,aA,sx,eH,aE,aC,aI,f1,o1,k1,k2,k4,k5,hv.len',sr];refine aM (hS) (by rfl) ?_;simp only [↓pre,simprocAttr,aA,sx,eH,aE,aC,aI,f1,o1,k1,k2,k4,k5,hv.len',sr];refine aM (hD) (by rfl) ?_;simp only [↓pre,simprocAttr,aA,sx,eH,aE,aC,aI,f1,o1,k1,k2,k4,k5,hv.len',sr];refine aM (hF) (by rfl) ?_;simp only [↓pre,simprocAttr,aA,sx,eH,aE,aC,aI,f1,o1,k1,k2,k4,k5,hv.len',sr];refine aM (hR) (by simp only [aA,aV, *]) ?_;simp only [↓pre,simprocAttr,aA,sx,eH,aE,aC,aI,f1,o1,k1,k2,k4,k5,hv.len',sr]
      | false =>
       refine bE follows Tryz.func207 (by unfold Tryz.f207;rfl) (by unfold Tryz.f207;simp) aE (by unfold Tryz.f207;simp) (by kernel_rfl) ?_;unfold Tryz.f207
       simp only [↓pre,simprocAttr,aA,sx,eH,aE,aC,aI,f1,o1,k1,sr]
       (refine cE (hM) (by rfl) (by intro k;rfl) ?_);simp only [↓pre,simprocAttr,aA,sx,eH,aE,aC,aI,f1,o1,k1,k2,k4,k5,hv.len',sr];refine aM (hS) (by rfl) ?_;simp only [↓pre,simprocAttr,aA,sx,eH,aE,aC,aI,f1,o1,k1,k2,k4,k5,hv.len',sr];refine aM (hD) (by rfl) ?_;simp only [↓pre,simprocAttr,aA,sx,eH,aE,aC,aI,f1,o1,k1,k2,k4,k5,hv.len',sr];refine aM (hF) (by rfl) ?_;simp only [↓pre,simprocAttr,aA,sx,eH,aE,aC,aI,f1,o1,k1,k2,k4,k5,hv.len',sr];refine aM (hR) (by simp only [aA,aV, *]) ?_;simp only [↓pre,simprocAttr,aA,sx,eH,aE,aC,aI,f1,o1,k1,k2,k4,k5,hv.len',sr]
     ·rw [decide_eq_false k5,Bool.false_and] at hres
      subst hres
      replace hF0:=aB.mk hF0
      replace hd:=aB.mk hd
      refine bE follows Tryz.func207 (by unfold Tryz.f207;rfl) (by unfold Tryz.f207;simp) aE (by unfold Tryz.f207;simp) (by kernel_rfl) ?_;unfold Tryz.f207
      simp only [↓pre,simprocAttr,aA,sx,eH,aE,aC,aI,f1,o1,k1,sr]
      (refine cE (hM) (by rfl) (by intro k;rfl) ?_);simp only [↓pre,simprocAttr,aA,sx,eH,aE,aC,aI,f1,o1,k1,k2,k4,k5,hv.len',sr];refine aM (hS) (by rfl) ?_;simp only [↓pre,simprocAttr,aA,sx,eH,aE,aC,aI,f1,o1,k1,k2,k4,k5,hv.len',sr];refine aM (hD) (by rfl) ?_;simp only [↓pre,simprocAttr,aA,sx,eH,aE,aC,aI,f1,o1,k1,k2,k4,k5,hv.len',sr];refine aM (hF) (by rfl) ?_;simp only [↓pre,simprocAttr,aA,sx,eH,aE,aC,aI,f1,o1,k1,k2,k4,k5,hv.len',sr]
   ·rw [decide_eq_false (fun h=>k3 h.symm),Bool.false_and] at hres
    subst hres
    replace hF0:=aB.mk hF0
    replace hd:=aB.mk hd
    by_cases k4:d=1
    ·have k3:¬ dep=1:=by rw [←k4];exact k3
     refine bE follows Tryz.func207 (by unfold Tryz.f207;rfl) (by unfold Tryz.f207;simp) aE (by unfold Tryz.f207;simp) (by kernel_rfl) ?_;unfold Tryz.f207
     simp only [↓pre,simprocAttr,aA,sx,eH,aE,aC,aI,f1,o1,k1,sr]
     (refine cE (hM) (by rfl) (by intro k;rfl) ?_);simp only [↓pre,simprocAttr,aA,sx,eH,aE,aC,aI,f1,o1,k1,k2,k3,k4,sr];refine aM (hS) (by rfl) ?_;simp only [↓pre,simprocAttr,aA,sx,eH,aE,aC,aI,f1,o1,k1,k2,k3,k4,sr];refine aM (hD) (by rfl) ?_;simp only [↓pre,simprocAttr,aA,sx,eH,aE,aC,aI,f1,o1,k1,k2,k3,k4,sr];refine aM (hF) (by rfl) ?_;simp only [↓pre,simprocAttr,aA,sx,eH,aE,aC,aI,f1,o1,k1,k2,k3,k4,sr]
    ·refine bE follows Tryz.func207 (by unfold Tryz.f207;rfl) (by unfold Tryz.f207;simp) aE (by unfold Tryz.f207;simp) (by kernel_rfl) ?_;unfold Tryz.f207
     simp only [↓pre,simprocAttr,aA,sx,eH,aE,aC,aI,f1,o1,k1,sr]
     (refine cE (hM) (by rfl) (by intro k;rfl) ?_);simp only [↓pre,simprocAttr,aA,sx,eH,aE,aC,aI,f1,o1,k1,k2,k3,k4,sr];refine aM (hS) (by rfl) ?_;simp only [↓pre,simprocAttr,aA,sx,eH,aE,aC,aI,f1,o1,k1,k2,k3,k4,sr];refine aM (hD) (by rfl) ?_;simp only [↓pre,simprocAttr,aA,sx,eH,aE,aC,aI,f1,o1,k1,k2,k3,k4,sr];refine aM (hF) (by rfl) ?_;simp only [↓pre,simprocAttr,aA,sx,eH,aE,aC,aI,f1,o1,k1,k2,k3,k4,sr]
theorem ae2 (v:AV) (n:Nat) (bs:List UInt8) (x:List AV) (hv:bC v n (aT bs++x)) (hn:n≤bs.length) (hn4:n≤4):aX Tryz.prog 205 [v] ⟨aD (dN (bs.take n):Nat),[]⟩:=by
 have hp:=hv.plain
 refine bE follows Tryz.func205 (by unfold Tryz.f205;rfl) (by unfold Tryz.f205;simp) aE (by unfold Tryz.f205;simp) (by kernel_rfl) ?_;unfold Tryz.f205
 simp only [↓pre,simprocAttr,aA,sx,agn,aE,aC,aL,c8]
 rw [b9]
 refine cA (fun q e m=>∃ i,q+i=n∧e 0=v∧e 4=aD (i:Nat)∧e 3=aD (dN (bs.take i):Nat)) n ⟨0,by omega,rfl,rfl,by simp [bN.set,aD,dN]⟩ ?_
 rintro q e m ⟨i,hi,e0,e4,e3⟩
 replace hi:=aB.mk hi
 by_cases hlt:i < n
 ·have hlt':((i:Nat):Int) < ((n:Nat):Int):=by omega
  obtain ⟨a,ha⟩:∃ a,bs[i]? = some a:=⟨_,List.getElem?_eq_getElem (by omega)⟩
  have a1:=lR (x:=x) ha
  have a2:=aek ha
  have hle:=zO i bs
  have ha256:=a.toNat_lt
  have w1:=cI (n:=i) (by omega)
  have hpow:256 ^ i≤256 ^ 3:=Nat.pow_le_pow_right (by decide) (by omega)
  have h3:256 ^ 3=16777216:=by decide
  have w5:IntKind.i64.wrap (a.toNat:Int)=(a.toNat:Int):=dT (by omega)
  have w7:IntKind.i64.wrap (256*((dN (bs.take i):Nat):Int))=((dN (bs.take i)*256:Nat):Int):=by
   rw [show (256*((dN (bs.take i):Nat):Int))=((dN (bs.take i)*256:Nat):Int) by omega]
   exact dT (by omega)
  have w8:IntKind.i64.wrap (((dN (bs.take i)*256:Nat):Int)+(a.toNat:Int))=((dN (bs.take i)*256+a.toNat:Nat):Int):=by
   rw [←Int.natCast_add]
   exact dT (by omega)
  replace hle:=aB.mk hle
  replace hpow:=aB.mk hpow
  replace ha256:=aB.mk ha256
  replace a2:=aB.mk a2
  simp only [↓pre,simprocAttr,aA,sx,agn,aE,aC,aL,c8,e0,e4,e3,hlt',hv.len',hv.addr',hlt,Nat.mul_one,a1,w1,w5,w7,w8,dH,cW]
  exact ⟨q - 1,by have:=hi.out;omega,i+1,by have:=hi.out;omega,rfl,by rw [a2.out]⟩
 ·have hlt':¬ ((i:Nat):Int) < ((n:Nat):Int):=by omega
  have hi4:i=n:=by have:=hi.out;omega
  subst hi4
  simp only [↓pre,simprocAttr,aA,sx,agn,aE,aC,e0,e4,e3,hlt',hv.len',dH,cW]
theorem aoo (v:AV) (bs:List UInt8) (x:List AV) (n:Nat) (hv:bC v bs.length (aT bs++x)) (hn:6*n≤bs.length) (hb:bs.length≤100000):aX Tryz.prog 206 [v,aD (n:Nat)] ⟨bJ n (bI (dP bs n)),[]⟩:=by
 refine eA ?_
 refine bZ follows Tryz.func206 (by unfold Tryz.f206;rfl) (by unfold Tryz.f206;simp) aE (by unfold Tryz.f206;simp) (by kernel_rfl) ?_;unfold Tryz.f206
 simp only [↓pre,simprocAttr,aA,sx,aa7,aE,aC,aL,bH,Option.map_none,Option.map_some,sr]
 rw [b9]
 refine cA (fun q e m=>∃ i lv,q+i=n∧e 0=v∧e 1=aD (n:Nat)∧e 5=lv∧e 6=aD (i:Nat)∧aB (cY m 67 2 lv i (bI (dP bs i)))) n ⟨0,aO,by omega,rfl,rfl,rfl,rfl,⟨fB⟩⟩ ?_
 rintro q e m ⟨i,lv,hq,e0,e1,e5,e6,hJ⟩
 replace hq:=aB.mk hq
 by_cases hlt:i < n
 ·have hlt':((i:Nat):Int) < ((n:Nat):Int):=by omega
  have wi:=cI (n:=i) (by omega)
  have w1:IntKind.i64.wrap (6*((i:Nat):Int))=((6*i:Nat):Int):=by rw [show 6*((i:Nat):Int)=((6*i:Nat):Int) by omega];exact dT (by omega)
  have w2:IntKind.i64.wrap (((6*i:Nat):Int)+2)=((6*i+2:Nat):Int):=by rw [show ((6*i:Nat):Int)+2=((6*i+2:Nat):Int) by omega];exact dT (by omega)
  have w3:IntKind.i64.wrap (((6*i:Nat):Int)+6)=((6*i+6:Nat):Int):=by rw [show ((6*i:Nat):Int)+6=((6*i+6:Nat):Int) by omega];exact dT (by omega)
  obtain ⟨v1,s1,r1⟩:=hv.slice (P:=Tryz.prog) (t:=52) (sz:=1) (lo:=some (6*i)) (hi:=some (6*i+2)) (by kernel_rfl) (by simp) (by simp only [Option.getD_some];omega)
  obtain ⟨v2,s2,r2⟩:=hv.slice (P:=Tryz.prog) (t:=52) (sz:=1) (lo:=some (6*i+2)) (hi:=some (6*i+6)) (by kernel_rfl) (by simp) (by simp only [Option.getD_some];omega)
  simp only [Option.getD_some,Nat.mul_one] at r1 r2
  rw [show 6*i+2 - 6*i=2 by omega,rY _ x _ (by omega)] at r1
  rw [show 6*i+6 - (6*i+2)=4 by omega,rY _ x _ (by omega)] at r2
  have c1:=ae2 v1 2 (bs.drop (6*i)) x r1 (by rw [List.length_drop];omega) (by omega)
  have c2:=ae2 v2 4 (bs.drop (6*i+2)) x r2 (by rw [List.length_drop];omega) (by omega)
  have pl1:=r1.plain
  have pl2:=r2.plain
  have hso:=anv bs i
  have href:aeV bs i=(((dN ((bs.drop (6*i)).take 2):Nat):Int),((dN ((bs.drop (6*i+2)).take 4):Nat):Int)):=rfl
  generalize dN ((bs.drop (6*i)).take 2)=b1 at *
  generalize dN ((bs.drop (6*i+2)).take 4)=b2 at *
  replace hso:=aB.mk hso
  replace href:=aB.mk href
  replace r1:=aB.mk r1
  replace r2:=aB.mk r2
  have hbt:∀ m,eY Tryz.prog m 31 1 [(0,.agg [.val (.int .i64 (b1:Nat)),.val (.int .i64 (b2:Nat))])]=some ⟨.tree 1 1 [.val (.int .i64 (b1:Nat)),.val (.int .i64 (b2:Nat))] true,m,none⟩:=fun m=>af4 rfl rfl (by kernel_rfl) (by kernel_rfl)
  simp only [↓pre,simprocAttr,aA,sx,aa7,aE,aC,aL,bH,Option.map_none,Option.map_some,e0,e1,e5,e6,hv.slOk,hv.sliceX,w1,w2,w3,s1,s2,hlt',sr]
  (refine cE (c1) (by simp only [aA,aV, *]) (by intro k;rfl) ?_);simp only [↓pre,simprocAttr,aA,sx,aa7,aE,aC,aL,bH,Option.map_none,Option.map_some,e0,e1,e5,e6,hv.slOk,hv.sliceX,w1,w2,w3,s1,s2,hbt,sr];(refine cE (c2) (by simp only [aA,aV, *]) (by intro k;rfl) ?_);simp only [↓pre,simprocAttr,aA,sx,aa7,aE,aC,aL,bH,Option.map_none,Option.map_some,e0,e1,e5,e6,hv.slOk,hv.sliceX,w1,w2,w3,s1,s2,hbt,sr]
  refine oT (sz:=2) (y:=16) (zl:=[.int .i64 0,.int .i64 0]) (by kernel_rfl) hJ.out (by kernel_rfl) (by kernel_rfl) (by kernel_rfl) rfl acg rfl (by omega) (by omega) ?_
  intro lv' m' ho' hn'
  refine dJ (by kernel_rfl) ?_
  simp only [↓pre,simprocAttr,aA,sx,aa7,aE,aC,aL,bH,Option.map_none,Option.map_some,e0,e1,e5,e6,wi,sr]
  refine ⟨q - 1,by have:=hq.out;omega,i+1,lv',by have:=hq.out;omega,rfl,rfl,⟨?_⟩⟩
  rw [hso.out,acT,href.out]
  exact ho'
 ·have hlt':¬ ((i:Nat):Int) < ((n:Nat):Int):=by omega
  have hi:i=n:=by have:=hq.out;omega
  subst hi
  simp only [↓pre,simprocAttr,aA,sx,aa7,aE,aC,aL,bH,Option.map_none,Option.map_some,e0,e1,e5,e6,hlt',sr]
  exact ⟨0,tY hJ.out 0⟩
theorem ahA (N c:Nat):cU ((N:Nat):Int) (c+1)=UInt8.ofNat (N / 256 ^ c)::cU ((N:Nat):Int) c:=by
 have h:(((N:Nat):Int) / 2 ^ (8*c)).toNat=N / 256 ^ c:=by
  have:((2:Int) ^ (8*c))=((256 ^ c:Nat):Int):=by
   rw [Int.pow_mul,Int.natCast_pow]
   rfl
  rw [this,←Int.natCast_ediv,Int.toNat_natCast]
 show UInt8.ofNat (((N:Nat):Int) / 2 ^ (8*c)).toNat::_=_
 rw [h]
theorem aop (N:Nat):∀ (c j:Nat),j < c→(cU ((N:Nat):Int) c).drop j=UInt8.ofNat (N / 256 ^ (c - 1 - j))::(cU ((N:Nat):Int) c).drop (j+1)
 | 0,j,h=>by omega
 | c+1,0,h=>by rw [ahA];rfl
 | c+1,j+1,h=>by
  rw [ahA,List.drop_succ_cons,List.drop_succ_cons,aop N c j (by omega),show c+1 - 1 - (j+1)=c - 1 - j by omega]
theorem ae3 (N c:Nat) (hN:N≤1073741824) (hc:c≤4):aX Tryz.prog 257 [aD (N:Nat),aD (c:Nat)] ⟨.tree c c (aT (cU (N:Nat) c)) true,[]⟩:=by
 refine eA ?_
 have hmk:=fun m=>sH m (n:=c) (by omega)
 have hnl:=kF ((N:Nat):Int) c
 have hdp:=aop N c
 have hz:=anl c
 generalize cU ((N:Nat):Int) c=B at *
 replace hdp:=aB.mk hdp
 replace hnl:=aB.mk hnl
 have w0:IntKind.i64.wrap (((c:Nat):Int) - 1)=((c:Nat):Int) - 1:=eD (by omega) (by omega)
 refine bZ follows Tryz.func257 (by unfold Tryz.f257;rfl) (by unfold Tryz.f257;simp) aE (by unfold Tryz.f257;simp) (by kernel_rfl) ?_;unfold Tryz.f257
 simp only [↓pre,simprocAttr,aA,sx,agp,aE,aC,aI,aL,aJ,aG,aH,hmk,w0,sr]
 rw [b9]
 refine cA (fun q e m=>q≤c∧e 0=aD ((N / 256 ^ (c - q):Nat):Int)∧e 5 = .sl 0 0 c c true∧e 6=aD (((q:Nat):Int) - 1)∧aB (m.at_ 0=some ⟨aT (List.replicate q 0++B.drop q),5,.flat,true⟩)) c ⟨Nat.le_refl _,by rw [Nat.sub_self,Nat.pow_zero,Nat.div_one];rfl,rfl,rfl,⟨by rw [aH,if_pos aQ.symm,hz,List.drop_of_length_le (by have:=hnl.out;omega),List.append_nil]⟩⟩ ?_
 rintro q e m ⟨hq,e0,e5,e6,hJ⟩
 replace hq:=aB.mk hq
 cases q with
 | zero =>
  have hno:¬ (0:Int)≤((0:Nat):Int) - 1:=by omega
  have hb:=hJ.out
  rw [List.drop_zero] at hb
  simp only [↓pre,simprocAttr,aA,sx,agp,aE,aC,aI,aL,aJ,aG,aH,hmk,e0,e5,e6,hno,sr]
  exact ⟨0,by rw [rU hb,List.drop_zero];rfl⟩
 | succ d =>
  have hyes:(0:Int)≤((d:Nat):Int):=by omega
  rw [show ((d+1:Nat):Int) - 1=((d:Nat):Int) by omega] at e6
  have w2:IntKind.i64.wrap (((d:Nat):Int) - 1)=((d:Nat):Int) - 1:=eD (by omega) (by have:=hq.out;omega)
  obtain ⟨Z,hZ⟩:∃ Z,N / 256 ^ (c - (d+1))=Z:=⟨_,rfl⟩
  have hZN:Z≤N:=by rw [←hZ];exact Nat.div_le_self _ _
  have hZ2:N / 256 ^ (c - d)=Z / 256:=by rw [←hZ,Nat.div_div_eq_div_mul,←Nat.pow_succ,show (c - (d+1)).succ=c - d by have:=hq.out;omega]
  have hdr:=hdp.out d (by have:=hq.out;omega)
  rw [show c - 1 - d=c - (d+1) by omega,hZ] at hdr
  rw [hZ] at e0
  have hdc:d < c:=by have:=hq.out;omega
  have wr:IntKind.u8.wrap (((Z:Nat):Int).tmod 256)=((UInt8.ofNat Z).toNat:Int):=by
   have h1:((Z:Nat):Int).tmod 256=((Z % 256:Nat):Int):=by rw [Int.tmod_eq_emod_of_nonneg (by omega)];omega
   rw [h1,adH]
   congr 2
   exact UInt8.ofNat_mod_size
  have wq:IntKind.i64.wrap (((Z:Nat):Int).tdiv 256)=((Z / 256:Nat):Int):=by
   have h1:((Z:Nat):Int).tdiv 256=((Z / 256:Nat):Int):=by rw [Int.tdiv_eq_ediv_of_nonneg (by omega)];omega
   rw [h1]
   exact dT (by omega)
  have hb:=hJ.out
  have hlen:(aT (List.replicate (d+1) 0++B.drop (d+1))).length=c:=by rw [iO,List.length_append,List.length_replicate,List.length_drop];have:=hnl.out;omega
  have hl1:d+1≤(aT (List.replicate (d+1) 0++B.drop (d+1))).length:=by rw [hlen];omega
  have hput:List.take d (aT (List.replicate (d+1) 0++B.drop (d+1)))++[AV.val (.int .u8 ((UInt8.ofNat Z).toNat:Int))]++List.drop (d+1) (aT (List.replicate (d+1) 0++B.drop (d+1)))=aT (List.replicate d 0++B.drop d):=by
   rw [hdr,List.replicate_succ',qZ,qZ,qZ]
   have h1:(aT (List.replicate d 0)).length=d:=by rw [iO,List.length_replicate]
   have h2:(aT (List.replicate d 0)++aT [0]).length=d+1:=by rw [List.length_append,h1];rfl
   rw [List.append_assoc (aT (List.replicate d 0)),List.take_left' h1,←List.append_assoc,List.drop_left' h2]
   unfold aT
   rw [List.map_cons,List.append_assoc]
   rfl
  generalize hC:aT (List.replicate (d+1) 0++B.drop (d+1))=CL at *
  replace hZ:=aB.mk hZ
  replace hdr:=aB.mk hdr
  replace hC:=aB.mk hC
  replace hlen:=aB.mk hlen
  replace hJ:=aB.mk hJ
  replace hZN:=aB.mk hZN
  simp only [↓pre,simprocAttr,aA,sx,agp,aE,aC,aI,aL,aJ,aG,aH,hmk,e0,e5,e6,hyes,w2,hdc,wr,wq,hb,hl1,hput,sr]
  exact ⟨d,by omega,by have:=hq.out;omega,by rw [hZ2],rfl,⟨by simp [aG,hput]⟩⟩
theorem ae4 {n:Int} (h:0≤n):∃ N:Nat,n=(N:Int):=⟨n.toNat,by omega⟩
theorem avw (l:List bP) (y:bP):dO (l++[y])=dO l++(cU y.1 2++cU y.2 4):=by simp [dO]
theorem ahB {m:aF} (bs:List UInt8) (n:Nat) (f:Bool) (h:bs.length=n):eZ Tryz.prog 5 1 m (.tree n n (aT bs) f)=some (aT bs,n):=by
 rw [uD (by rw [iO];omega),Nat.mul_one,List.take_of_length_le (by rw [iO];omega)]
theorem aoq (v:AV) (l:List bP) (hv:sO v l) (hn:l.length≤1000) (hl:∀ x∈l,(0≤x.1∧x.1≤1073741824)∧0≤x.2∧x.2≤1073741824):aX Tryz.prog 249 [v] ⟨bJ (l.length*6) (aT (dO l)),[]⟩:=by
 refine eA ?_
 obtain ⟨x,hv⟩:=hv
 have hp:=hv.plain
 replace hl:=aB.mk hl
 replace hn:=aB.mk hn
 refine bZ follows Tryz.func249 (by unfold Tryz.f249;rfl) (by unfold Tryz.f249;simp) aE (by unfold Tryz.f249;simp) (by kernel_rfl) ?_;unfold Tryz.f249
 simp only [↓pre,simprocAttr,aA,sx,zF,aE,aC,aI,aL,sr]
 rw [b9]
 refine cA (fun q e m=>∃ i lv,q+i=l.length∧e 0=v∧e 3=lv∧e 4=aD (i:Nat)∧aB (cY m 5 1 lv (i*6) (aT (dO (l.take i))))) l.length ⟨0,aO,by omega,rfl,rfl,rfl,⟨fB⟩⟩ ?_
 rintro q e m ⟨i,lv,hq,e0,e3,e4,hJ⟩
 replace hq:=aB.mk hq
 by_cases hlt:i < l.length
 ·have hlt':((i:Nat):Int) < ((l.length:Nat):Int):=by omega
  have wi:=cI (n:=i) (by have:=hn.out;omega)
  obtain ⟨y,hy⟩:∃ y,l[i]? = some y:=⟨_,List.getElem?_eq_getElem hlt⟩
  obtain ⟨ha,hb⟩:=qX l x i y hy
  have hy2:=hl.out y (List.mem_of_getElem? hy)
  have htk:l.take (i+1)=l.take i++[y]:=by rw [List.take_add_one,hy];rfl
  obtain ⟨A,hA⟩:=ae4 hy2.1.1
  obtain ⟨B,hB⟩:=ae4 hy2.2.1
  have c1:=ae3 A 2 (by omega) (by omega)
  have c2:=ae3 B 4 (by omega) (by omega)
  have hsn:=avw (l.take i) y
  rw [←htk,hA,hB] at hsn
  rw [hA] at ha
  rw [hB] at hb
  have s1:=fun m:aF=>ahB (m:=m) (cU (A:Nat) 2) 2 true (kF _ _)
  have s2:=fun m:aF=>ahB (m:=m) (cU (B:Nat) 4) 4 true (kF _ _)
  have n1:=kF ((A:Nat):Int) 2
  have n2:=kF ((B:Nat):Int) 4
  generalize cU ((A:Nat):Int) 2=NA at *
  generalize cU ((B:Nat):Int) 4=NB at *
  simp only [aD] at ha hb c1 c2
  replace hy:=aB.mk hy
  replace hA:=aB.mk hA
  replace hB:=aB.mk hB
  replace hy2:=aB.mk hy2
  replace htk:=aB.mk htk
  replace hsn:=aB.mk hsn
  replace n1:=aB.mk n1
  replace n2:=aB.mk n2
  simp only [↓pre,simprocAttr,aA,sx,zF,aE,aC,aI,aL,e0,e3,e4,hlt',hv.len',hv.addr',hlt,ha,sr]
  refine aM (c1) (by rfl) ?_;simp only [↓pre,simprocAttr,aA,sx,zF,aE,aC,aI,aL,e0,e3,e4,sr]
  refine oT (kd := .flat) (sz:=1) (y:=1) (zl:=[.int .u8 0]) (by kernel_rfl) hJ.out (by kernel_rfl) (by kernel_rfl) (by kernel_rfl) rfl (s1 _) (by rw [iO,Nat.mul_one];exact n1.out) (by have:=hn.out;omega) (by have:=hn.out;omega) ?_
  intro lv1 m1 ho1 hn1
  replace ho1:=aB.mk ho1
  simp only [↓pre,simprocAttr,aA,sx,zF,aE,aC,aI,aL,e0,e3,e4,hlt,hv.addr',hb,sr]
  refine aM (c2) (by rfl) ?_;simp only [↓pre,simprocAttr,aA,sx,zF,aE,aC,aI,aL,e0,e3,e4,sr]
  refine oT (kd := .flat) (sz:=1) (y:=1) (zl:=[.int .u8 0]) (by kernel_rfl) ho1.out (by kernel_rfl) (by kernel_rfl) (by kernel_rfl) rfl (s2 _) (by rw [iO,Nat.mul_one];exact n2.out) (by have:=hn.out;omega) (by have:=hn.out;omega) ?_
  intro lv2 m2 ho2 hn2
  have ho3:cY m2 5 1 lv2 ((i+1)*6) (aT (dO (l.take (i+1)))):=by
   rw [hsn.out,qZ,qZ,←List.append_assoc,show (i+1)*6=i*6+2+4 by omega]
   exact ho2
  replace ho3:=aB.mk ho3
  clear ho2
  simp only [↓pre,simprocAttr,aA,sx,zF,aE,aC,aI,aL,e0,e3,e4,wi,sr]
  exact ⟨q - 1,by have:=hq.out;omega,i+1,lv2,by have:=hq.out;omega,rfl,rfl,ho3⟩
 ·have hlt':¬ ((i:Nat):Int) < ((l.length:Nat):Int):=by omega
  have hi:i=l.length:=by have:=hq.out;omega
  have hfin:=hJ.out
  rw [hi,List.take_length] at hfin
  replace hfin:=aB.mk hfin
  simp only [↓pre,simprocAttr,aA,sx,zF,aE,aC,aI,aL,e0,e3,e4,hlt',hv.len',sr]
  exact ⟨0,tY hfin.out 0⟩
theorem avx (bs:List UInt8):bA bs.length (fun j=>bs.getD j 0)=aT bs:=by
 unfold bA tab aT
 congr 1
 refine List.ext_getElem? fun i => ?_
 rw [List.getElem?_map]
 by_cases h:i < bs.length
 ·rw [List.getElem?_range h,List.getElem?_eq_getElem h,Option.map_some,List.getD_eq_getElem?_getD,List.getElem?_eq_getElem h]
  rfl
 ·rw [List.getElem?_eq_none (by simpa using h),List.getElem?_eq_none (by omega)]
  rfl
theorem avy {bs:List UInt8} {W:Nat} (h:bs.length≤W):bA W (fun j=>if j < bs.length then bs.getD j 0 else 0)=aT (pA bs W):=by
 unfold bA tab aT pA
 congr 1
 refine List.ext_getElem? fun i => ?_
 rw [List.getElem?_map]
 by_cases h1:i < W
 ·rw [List.getElem?_range h1,Option.map_some]
  by_cases h2:i < bs.length
  ·rw [if_pos h2,List.getElem?_append_left h2,List.getD_eq_getElem?_getD,List.getElem?_eq_getElem h2]
   rfl
  ·rw [if_neg h2,List.getElem?_append_right (by omega),List.getElem?_replicate,if_pos (by omega)]
 ·rw [List.getElem?_eq_none (by simpa using h1),List.getElem?_eq_none (by simp;omega)]
  rfl
theorem aor (k r c w:Int) (hm:bU k r c w=true) (v:AV) (bs:List UInt8) (x:List AV) (hv:bC v bs.length (aT bs++x)) (hl:bs.length≤(wI k c).toNat):aX Tryz.prog 248 [aA k r c w,v] ⟨.tree (wI k c).toNat (wI k c).toNat (aT (pA bs (wI k c).toNat)) true,[]⟩:=by
 refine eA ?_
 have h1:=zL k r c w hm
 have hw:=gZ hm
 obtain ⟨W,hW⟩:∃ W:Nat,wI k c=(W:Int):=⟨(wI k c).toNat,by unfold wI;omega⟩
 have hWn:(wI k c).toNat=W:=by omega
 have hW8:W≤768:=by unfold wI at hW;omega
 rw [hWn] at hl ⊢
 rw [hW] at h1
 have hp:=hv.plain
 have hmk:=fun m=>sH m (n:=W) (by omega)
 have hcp:=fun (m:aF) (b:Nat) (f:Bool) hb=>aog (m:=m) (b:=b) (f:=f) (w:=W) hb (F:=fun j=>bs.getD j 0) (x:=x) (v:=v) (n:=bs.length) (by rw [avx];exact hv) hl
 rw [avy hl] at hcp
 have hcp2:=hcp (aF.empty.push ⟨bA W fun _=>0,5,.flat,true⟩) aF.empty.next true (by rw [aH,if_pos rfl])
 replace hcp:=aB.mk hcp
 refine bZ follows Tryz.func248 (by unfold Tryz.f248;rfl) (by unfold Tryz.f248;simp) aE (by unfold Tryz.f248;simp) (by kernel_rfl) ?_;unfold Tryz.f248
 simp only [↓pre,simprocAttr,aA,sx,alz,aE,aC,sr]
 refine aM (h1) (by rfl) ?_;simp only [↓pre,simprocAttr,aA,sx,alz,aE,aC,hmk,lX,hcp2,sr]
 exact ⟨0,by rw [rU (by rw [aG,if_pos rfl]),List.drop_zero]⟩
theorem avz (k r c w len dep:Int) (v:AV) (l:List bP) (hv:sO v l) (hc:kT k r c w len dep l=0):aX Tryz.prog 200 [aA k r c w,.agg [aD len,aD dep,v]] ⟨.tree (wI k c).toNat (wI k c).toNat (aT (kU k c len dep l)) true,[]⟩:=by
 refine eA ?_
 obtain ⟨hlen0,hlen1,hdep,hll,hlr⟩:=wM hc
 obtain ⟨hm,_⟩:=aeT hc
 have hw:=gZ hm
 have hdb:=vX hw.1 hw.2
 have hl126:l.length≤126:=by unfold dI at hll;omega
 obtain ⟨A,rfl⟩:=ae4 hlen0
 obtain ⟨D,rfl⟩:=ae4 (n:=dep) (by omega)
 have c1:=ae3 A 4 (by omega) (by omega)
 have c2:=ae3 l.length 2 (by omega) (by omega)
 have c3:=aoq v l hv (by omega) (fun x hx=>by have:=hlr x hx;have:=jN.1 hm;omega)
 have hfit:(oH (A:Nat) (D:Nat) l.length++dO l).length≤(wI k c).toNat:=by
  unfold oH
  simp only [List.length_append,kF,qY]
  unfold dI at hll
  unfold wI
  omega
 have c4:=fun v hv=>aor k r c w hm v (oH (A:Nat) (D:Nat) l.length++dO l) [] hv hfit
 obtain ⟨x,hv⟩:=hv
 have f1:=cM hv
 have q1:=b6 hv
 have hp:=hv.plain
 have hhead:oH ((A:Nat):Int) ((D:Nat):Int) l.length=cU (A:Nat) 4++([UInt8.ofNat D]++cU ((l.length:Nat):Int) 2):=by
  unfold oH
  rw [ahA D 0]
  simp [cU]
 have hmade:kU k c ((A:Nat):Int) ((D:Nat):Int) l=pA (oH (A:Nat) (D:Nat) l.length++dO l) (wI k c).toNat:=rfl
 rw [hmade]
 have n1:=kF ((A:Nat):Int) 4
 have n2:=kF ((l.length:Nat):Int) 2
 have s2:=fun m:aF=>ahB (m:=m) (cU ((l.length:Nat):Int) 2) 2 true n2
 have hT:=dX (l.length*6) (aT (dO l))
 have s3:=fun m:aF=>bC.src (P:=Tryz.prog) (el:=5) (sz:=1) (m:=m) hT (by rw [iO,qY];omega)
 rw [Nat.mul_one,List.take_of_length_le (by rw [iO,qY];exact Nat.le_refl _)] at s3
 have t3:=cQ hT
 have hrl:(aT (dO l)).length=l.length*6:=by rw [iO,qY]
 generalize bJ (l.length*6) (aT (dO l))=TV at *
 have happ:∀ m:aF,dW Tryz.prog 5 m (.tree 4 4 (aT (cU (A:Nat) 4)) true) (.tree 1 1 [.val (.int .u8 ((UInt8.ofNat D).toNat:Int))] true)=some ⟨.sl m.next 0 5 5 false,m.push ⟨aT (cU (A:Nat) 4)++[.val (.int .u8 ((UInt8.ofNat D).toNat:Int))],5,.flat,true⟩,none⟩:=fun m=>by
  have g1:cH Tryz.prog 5=some 1:=by kernel_rfl
  have g2:hY Tryz.prog 5=some 1:=by kernel_rfl
  have g3:eX Tryz.prog 5=some [.int .u8 0]:=by kernel_rfl
  have g4:bW Tryz.prog 5 = .flat:=by kernel_rfl
  have hbl:(aT (cU ((A:Nat):Int) 4)).length=4:=by rw [iO,n1]
  simp only [dW,g1,g2,g3,g4,l8,dR,Option.bind_some]
  simp [bO,hbl,List.take_of_length_le]
 generalize hNA:cU ((A:Nat):Int) 4=NA at *
 generalize hNL:cU ((l.length:Nat):Int) 2=NL at *
 generalize oH ((A:Nat):Int) ((D:Nat):Int) l.length=HB at *
 have hap2:∀ m:aF,cY (m.push ⟨aT NA++[.val (.int .u8 ((UInt8.ofNat D).toNat:Int))],5,.flat,true⟩) 5 1 (.sl m.next 0 5 5 false) 5 (aT NA++[.val (.int .u8 ((UInt8.ofNat D).toNat:Int))]):=fun m=>⟨.inr ⟨m.next,rfl,by rw [aH,if_pos rfl],by rw [aW];omega,by omega⟩,by rw [List.length_append,iO,n1];rfl⟩
 simp only [aD] at c1 c2
 replace hlr:=aB.mk hlr
 replace hfit:=aB.mk hfit
 replace hap2:=aB.mk hap2
 replace n1:=aB.mk n1
 replace n2:=aB.mk n2
 replace hhead:=aB.mk hhead
 replace hrl:=aB.mk hrl
 replace hc:=aB.mk hc
 replace hNA:=aB.mk hNA
 replace hNL:=aB.mk hNL
 replace hdep:=aB.mk hdep
 replace hmade:=aB.mk hmade
 replace c4:=aB.mk c4
 refine bZ follows Tryz.func200 (by unfold Tryz.f200;rfl) (by unfold Tryz.f200;simp) aE (by unfold Tryz.f200;simp) (by kernel_rfl) ?_;unfold Tryz.f200
 simp only [↓pre,simprocAttr,aA,sx,zD,aE,aC,aI,aL,f1,q1,sr]
 refine aM (c1) (by rfl) ?_;simp only [↓pre,simprocAttr,aA,sx,zD,aE,aC,aI,aL,f1,q1,happ,hv.len',sr];refine aM (c2) (by rfl) ?_;simp only [↓pre,simprocAttr,aA,sx,zD,aE,aC,aI,aL,f1,q1,happ,hv.len',sr]
 refine oT (kd := .flat) (sz:=1) (y:=1) (zl:=[.int .u8 0]) (by kernel_rfl) (hap2.out _) (by kernel_rfl) (by kernel_rfl) (by kernel_rfl) rfl (s2 _) (by rw [iO,Nat.mul_one];exact n2.out) (by omega) (by omega) ?_
 intro lv1 m1 ho1 hn1
 replace ho1:=aB.mk ho1
 simp only [↓pre,simprocAttr,aA,sx,zD,aE,aC,aI,aL,f1,q1,sr]
 refine aM (c3) (by simp only [aA,aV, *]) ?_;simp only [↓pre,simprocAttr,aA,sx,zD,aE,aC,aI,aL,f1,q1,t3,sr]
 refine oT (kd := .flat) (sz:=1) (y:=1) (zl:=[.int .u8 0]) (by kernel_rfl) ho1.out (by kernel_rfl) (by kernel_rfl) (by kernel_rfl) rfl (s3 _) (by rw [Nat.mul_one];exact hrl.out) (by omega) (by omega) ?_
 intro lv2 m2 ho2 hn2
 have hcs:aT NA++[.val (.int .u8 ((UInt8.ofNat D).toNat:Int))]++aT NL++aT (dO l)=aT (HB++dO l):=by
  rw [hhead.out]
  simp [qZ,aT,aU]
 have hcl:5+2+l.length*6=(HB++dO l).length:=by
  rw [hhead.out]
  rw [List.length_append,List.length_append,List.length_append,qY,n1.out,n2.out,List.length_cons,List.length_nil]
 rw [hcs,hcl] at ho2
 obtain ⟨av,m3,hfz,hav,_⟩:=(y6 ho2 (.inl rfl)).fz
 have c5:=c4.out av (by rw [List.append_nil];exact hav)
 have hfs:fzs m2 [.agg [.val (.int .i64 k),.val (.int .i64 r),.val (.int .i64 c),.val (.int .i64 w)],lv2]=some ([.agg [.val (.int .i64 k),.val (.int .i64 r),.val (.int .i64 c),.val (.int .i64 w)],av],m3):=by simp [fzs,fz,hfz]
 have t5:=lN (wI k c).toNat (aT (pA (HB++dO l) (wI k c).toNat)) true
 have s5:=cQ t5
 generalize AV.tree (wI k c).toNat (wI k c).toNat (aT (pA (HB++dO l) (wI k c).toNat)) true=WV at *
 simp only [aA,aD] at c5
 replace ho2:=aB.mk ho2
 replace hcs:=aB.mk hcs
 replace hcl:=aB.mk hcl
 simp only [↓pre,simprocAttr,aA,sx,zD,aE,aC,aI,aL,f1,q1,sr]
 refine yX c5 hfs ?_
 simp only [↓pre,simprocAttr,aA,sx,zD,aE,aC,aI,aL,f1,q1,s5,sr]
 exact ⟨0,ach t5⟩
theorem avA {bs:List UInt8} {i:Nat} {a:UInt8} (h:bs[i]? = some a):dN ((bs.drop i).take 1)=a.toNat:=by
 have:(bs.drop i).take 1=[a]:=by
  have h1:(bs.drop i)[0]? = some a:=by rw [List.getElem?_drop];simpa using h
  cases hd:bs.drop i with
  | nil=>rw [hd] at h1;cases h1
  | cons y ys=>rw [hd] at h1;cases h1;rfl
 rw [this]
 simp [dN]
theorem aos {k r c w len dep:Int} {l:List bP} (hm:bU k r c w=true):decide (kT k r c w len dep l=0)=sP k r c w len dep l:=by
 unfold kT
 rw [if_pos hm]
 cases sP k r c w len dep l <;> rfl
def eO:Nat→Bool:=fun d=>d != 4 && d != 6 && d != 40 && d != 45 && d != 53
set_option maxHeartbeats 1000000 in
theorem avB (k r c w:Int) (hm:bU k r c w=true) (v:AV) (bs:List UInt8) (x:List AV) (hv:bC v bs.length (aT bs++x)) (hl:(bs.length:Int)=wI k c):aX Tryz.prog 117 [aA k r c w,v] ⟨.tup [abC k r c w bs,aD (mJ k r c w bs)],[]⟩:=by
 refine eA ?_
 have hp:=hv.plain
 have h1:=abe k r c w
 have h2:=zL k r c w hm
 have h3:=agv k r c w hm
 rw [hm] at h1
 have hw:=gZ hm
 have hbl:bs.length≤768∧32≤bs.length:=by unfold wI at hl;omega
 have hE:mJ k r c w bs=if q9 k r c w bs=true then 0 else 150:=by unfold mJ;rw [if_pos hm,if_pos hl]
 have hfz:∀ E,mJ k r c w bs=E→E≠0→∀ m,fzT 0 m (.tup [.agg [.val (.int .i64 0),.val (.int .i64 0),.val (.slice none 0 0)],.val (.int .i64 E)])=some (.tup [abC k r c w bs,aD E]):=fun E hE h0 m=>by
  unfold abC
  rw [hE,if_neg h0]
  exact aul E 0 m
 obtain ⟨v1,s1,r1⟩:=hv.slice (P:=Tryz.prog) (t:=52) (sz:=1) (lo:=none) (hi:=some 4) (by kernel_rfl) (by simp) (by simp only [Option.getD_some];omega)
 obtain ⟨v3,s3,r3⟩:=hv.slice (P:=Tryz.prog) (t:=52) (sz:=1) (lo:=some 5) (hi:=some 7) (by kernel_rfl) (by simp) (by simp only [Option.getD_some];omega)
 obtain ⟨v4,s4,r4⟩:=hv.slice (P:=Tryz.prog) (t:=52) (sz:=1) (lo:=some 7) (hi:=none) (by kernel_rfl) (by simp only [Option.getD_some,Option.getD_none];omega) (by simp)
 simp only [Option.getD_some,Option.getD_none,Nat.mul_one,Nat.sub_zero,List.drop_zero] at r1 r3 r4
 rw [rY _ x 5 (by omega)] at r3
 rw [rY _ x 7 (by omega),←List.length_drop] at r4
 have c1:=ae2 v1 4 bs x r1 (by omega) (by omega)
 have c3:=ae2 v3 2 (bs.drop 5) x r3 (by rw [List.length_drop];omega) (by omega)
 have pl1:=r1.plain
 have pl3:=r3.plain
 have pl4:=r4.plain
 obtain ⟨a,ha⟩:∃ a,bs[4]? = some a:=⟨_,List.getElem?_eq_getElem (by omega)⟩
 have ha1:=lR (x:=x) ha
 have hdep:((a.toNat:Nat):Int)=dQ bs:=by unfold dQ;rw [avA ha]
 have h4l:4 < bs.length:=by omega
 have hn2:pN bs < 65536:=zO 2 (bs.drop 5)
 rw [show dN ((bs.drop 5).take 2)=pN bs from rfl] at c3
 rw [show ((dN (bs.take 4):Nat):Int)=dK bs from rfl] at c1
 have n4:iA (.val (.int .i64 4))=some 4:=rfl
 have n5:iA (.val (.int .i64 5))=some 5:=rfl
 have n7:iA (.val (.int .i64 7))=some 7:=rfl
 have wa:IntKind.i64.wrap ((a.toNat:Nat):Int)=((a.toNat:Nat):Int):=dT (by have:=a.toNat_lt;omega)
 rw [hdep] at wa
 have hso:=fun m=>hv.slOk (P:=Tryz.prog) (m:=m) (t:=52)
 have hsx:=fun d c m lo hi mx=>hv.sliceX (P:=Tryz.prog) (m:=m) (t:=52) (d:=d) (c:=c) (lo:=lo) (hi:=hi) (mx:=mx)
 have hneq:¬ ((bs.length:Nat):Int)=wI k c→False:=fun h=>h hl
 rw [←hl] at h2
 by_cases hfit:7+6*pN bs≤bs.length
 ·have hfit':¬ dI k c < ((pN bs:Nat):Int):=by unfold dI;unfold wI at hl;omega
  have c4:=aoo v4 (bs.drop 7) x (pN bs) r4 (by rw [List.length_drop];omega) (by rw [List.length_drop];omega)
  rw [show dP (bs.drop 7) (pN bs)=cS bs from rfl] at c4
  have hpl:(cS bs).length=pN bs:=abB _ _
  have hRV:sO (bJ (pN bs) (bI (cS bs))) (cS bs):=⟨[],by rw [List.append_nil,hpl];exact dX _ _⟩
  have c5:=avv k r c w (dK bs) (dQ bs) hm _ _ hRV (by omega)
  have pt:=(dX (pN bs) (bI (cS bs))).plain
  have hTRf:bJ (pN bs) (bI (cS bs)) = .val (.slice none 0 0)∨bJ (pN bs) (bI (cS bs)) = .tree (pN bs) (pN bs) (bI (cS bs)) false:=by unfold bJ;split;exact .inl rfl;exact .inr rfl
  have hok:q9 k r c w bs=(sP k r c w (dK bs) (dQ bs) (cS bs) && decide (kU k c (dK bs) (dQ bs) (cS bs)=bs)):=by unfold q9;rw [decide_eq_true hfit,aos hm];rfl
  by_cases hck:sP k r c w (dK bs) (dQ bs) (cS bs)=true
  ·have hck0:kT k r c w (dK bs) (dQ bs) (cS bs)=0:=by have:=aos (len:=dK bs) (dep:=dQ bs) (l:=cS bs) hm;rw [hck] at this;exact of_decide_eq_true this
   have c6:=avz k r c w (dK bs) (dQ bs) _ _ hRV hck0
   rw [hck,Bool.true_and] at hok
   rw [hck] at c5
   have hml:(kU k c (dK bs) (dQ bs) (cS bs)).length=(wI k c).toNat:=by
    unfold kU
    refine aeS ?_
    obtain ⟨_,_,_,hll,_⟩:=wM hck0
    unfold oH
    simp only [List.length_append,kF,qY]
    unfold dI at hll
    unfold wI
    omega
   have hMR:bC (.tree (wI k c).toNat (wI k c).toNat (aT (kU k c (dK bs) (dQ bs) (cS bs))) true) (kU k c (dK bs) (dQ bs) (cS bs)).length (aT (kU k c (dK bs) (dQ bs) (cS bs))++[]):=by rw [hml,List.append_nil];exact lN _ _ _
   have hfin:q9 k r c w bs=true→∀ m,fzT 0 m (.tup [.agg [.val (.int .i64 (dK bs)),.val (.int .i64 (dQ bs)),bJ (pN bs) (bI (cS bs))],.val (.int .i64 0)])=some (.tup [abC k r c w bs,aD 0]):=fun h m=>by
    have:=iI (anB (dK bs) (dQ bs) (cS bs)) (b8 (.int .i64 0)) 0 m
    unfold abC
    rw [hE,h,if_pos rfl,if_pos rfl]
    unfold rA at this ⊢
    rw [hpl] at this ⊢
    exact this
   have tM:=cQ hMR
   generalize AV.tree (wI k c).toNat (wI k c).toNat (aT (kU k c (dK bs) (dQ bs) (cS bs))) true=MV at *
   generalize kU k c (dK bs) (dQ bs) (cS bs)=MB at *
   have hx1:=fun (d c:Bool) (m:aF)=>wC (d:=d) (c:=c) (m:=m) hMR
   have hx2:=fun (d c:Bool) (m:aF)=>wC (d:=d) (c:=c) (m:=m) hv
   replace hRV:=aB.mk hRV
   replace hck:=aB.mk hck
   replace hck0:=aB.mk hck0
   replace hfit:=aB.mk hfit
   replace hpl:=aB.mk hpl
   replace hml:=aB.mk hml
   replace hMR:=aB.mk hMR
   replace hw:=aB.mk hw
   replace hbl:=aB.mk hbl
   replace hn2:=aB.mk hn2
   replace ha:=aB.mk ha
   replace hl:=aB.mk hl
   replace hneq:=aB.mk hneq
   by_cases heq:MB=bs
   ·rw [decide_eq_true heq] at hok
    have hst:∀ x y,dV Tryz.prog .neq 9 x y (n9 MB) (n9 bs)=some (.val (.bool false)):=fun x y=>by rw [acZ,decide_eq_true heq];rfl
    rw [hok,if_pos rfl] at hE
    rw [hE]
    replace hfin:=aB.mk (hfin hok)
    replace hok:=aB.mk hok
    replace hE:=aB.mk hE
    replace hfz:=aB.mk hfz
    replace heq:=aB.mk heq
    rcases hTRf with hT | hT
    all_goals rw [hT] at c4 c5 c6 hfin
    all_goals clear pt
    all_goals replace hT:=aB.mk hT
    all_goals (
     refine bZ follows Tryz.func117 (by unfold Tryz.f117;rfl) (by unfold Tryz.f117;simp) eO (by unfold Tryz.f117;simp) (by kernel_rfl) ?_;unfold Tryz.f117
     simp only [↓pre,simprocAttr,aA,sx,fH,eO,bne,aC,aL,aI,bQ,bH,Option.map_none,Option.map_some,aJ,aK,aG,aH,aQ,Nat.one_ne_zero,Nat.zero_ne_one,n4,n5,n7,hso,hsx,s1,s3,s4,hv.len',hv.addr',h4l,ha1,hdep,wa,sr]
     refine aM (h1) (by rfl) ?_;simp only [↓pre,simprocAttr,aA,sx,fH,eO,bne,aC,aL,aI,bQ,bH,Option.map_none,Option.map_some,aJ,aK,aG,aH,aQ,Nat.one_ne_zero,Nat.zero_ne_one,n4,n5,n7,hso,hsx,s1,s3,s4,hv.len',hv.addr',h4l,ha1,hdep,wa,sr];refine aM (h2) (by rfl) ?_;simp only [↓pre,simprocAttr,aA,sx,fH,eO,bne,aC,aL,aI,bQ,bH,Option.map_none,Option.map_some,aJ,aK,aG,aH,aQ,Nat.one_ne_zero,Nat.zero_ne_one,n4,n5,n7,hso,hsx,s1,s3,s4,hv.len',hv.addr',h4l,ha1,hdep,wa,sr];(refine cE (c1) (by simp only [aA,aV, *]) (by intro k;rfl) ?_);simp only [↓pre,simprocAttr,aA,sx,fH,eO,bne,aC,aL,aI,bQ,bH,Option.map_none,Option.map_some,aJ,aK,aG,aH,aQ,Nat.one_ne_zero,Nat.zero_ne_one,n4,n5,n7,hso,hsx,s1,s3,s4,hv.len',hv.addr',h4l,ha1,hdep,wa,sr]
     refine nT (by kernel_rfl) ?_
     simp only [↓pre,simprocAttr,aA,sx,fH,eO,bne,aC,aL,aI,bQ,bH,Option.map_none,Option.map_some,aJ,aK,aG,aH,aQ,Nat.one_ne_zero,Nat.zero_ne_one,n4,n5,n7,hso,hsx,s1,s3,s4,hv.len',hv.addr',h4l,ha1,hdep,wa,sr]
     refine dJ (by kernel_rfl) ?_
     simp only [↓pre,simprocAttr,aA,sx,fH,eO,bne,aC,aL,aI,bQ,bH,Option.map_none,Option.map_some,aJ,aK,aG,aH,aQ,Nat.one_ne_zero,Nat.zero_ne_one,n4,n5,n7,hso,hsx,s1,s3,s4,hv.len',hv.addr',h4l,ha1,hdep,wa,sr]
     refine aM (c3) (by simp only [aA,aV, *]) ?_;simp only [↓pre,simprocAttr,aA,sx,fH,eO,bne,aC,aL,aI,bQ,bH,Option.map_none,Option.map_some,aJ,aK,aG,aH,aQ,Nat.one_ne_zero,Nat.zero_ne_one,n4,n5,n7,hso,hsx,s1,s3,s4,hv.len',hv.addr',h4l,ha1,hdep,wa,hfit',tM,hx1,hx2,hst,sr];refine aM (h3) (by rfl) ?_;simp only [↓pre,simprocAttr,aA,sx,fH,eO,bne,aC,aL,aI,bQ,bH,Option.map_none,Option.map_some,aJ,aK,aG,aH,aQ,Nat.one_ne_zero,Nat.zero_ne_one,n4,n5,n7,hso,hsx,s1,s3,s4,hv.len',hv.addr',h4l,ha1,hdep,wa,hfit',tM,hx1,hx2,hst,sr];refine aM (c4) (by simp only [aA,aV, *]) ?_;simp only [↓pre,simprocAttr,aA,sx,fH,eO,bne,aC,aL,aI,bQ,bH,Option.map_none,Option.map_some,aJ,aK,aG,aH,aQ,Nat.one_ne_zero,Nat.zero_ne_one,n4,n5,n7,hso,hsx,s1,s3,s4,hv.len',hv.addr',h4l,ha1,hdep,wa,hfit',tM,hx1,hx2,hst,sr];(refine cE (c5) (by rfl) (by intro k;rfl) ?_);simp only [↓pre,simprocAttr,aA,sx,fH,eO,bne,aC,aL,aI,bQ,bH,Option.map_none,Option.map_some,aJ,aK,aG,aH,aQ,Nat.one_ne_zero,Nat.zero_ne_one,n4,n5,n7,hso,hsx,s1,s3,s4,hv.len',hv.addr',h4l,ha1,hdep,wa,hfit',tM,hx1,hx2,hst,sr];(refine cE (c6) (by rfl) (by intro k;simp only [sq,sr, *]) ?_);simp only [↓pre,simprocAttr,aA,sx,fH,eO,bne,aC,aL,aI,bQ,bH,Option.map_none,Option.map_some,aJ,aK,aG,aH,aQ,Nat.one_ne_zero,Nat.zero_ne_one,n4,n5,n7,hso,hsx,s1,s3,s4,hv.len',hv.addr',h4l,ha1,hdep,wa,hfit',tM,hx1,hx2,hst,sr]
     exact ⟨0,hfin.out _⟩
     )
   ·rw [decide_eq_false heq] at hok
    have hst:∀ x y,dV Tryz.prog .neq 9 x y (n9 MB) (n9 bs)=some (.val (.bool true)):=fun x y=>by rw [acZ,decide_eq_false heq];rfl
    rw [hok,if_neg (by decide)] at hE
    have hz:=hfz 150 hE (by decide)
    rw [hE]
    replace hz:=aB.mk hz
    replace hok:=aB.mk hok
    replace hE:=aB.mk hE
    replace hfz:=aB.mk hfz
    replace heq:=aB.mk heq
    replace hfin:=aB.mk hfin
    rcases hTRf with hT | hT
    all_goals rw [hT] at c4 c5 c6
    all_goals clear pt
    all_goals replace hT:=aB.mk hT
    all_goals (
     refine bZ follows Tryz.func117 (by unfold Tryz.f117;rfl) (by unfold Tryz.f117;simp) eO (by unfold Tryz.f117;simp) (by kernel_rfl) ?_;unfold Tryz.f117
     simp only [↓pre,simprocAttr,aA,sx,fH,eO,bne,aC,aL,aI,bQ,bH,Option.map_none,Option.map_some,aJ,aK,aG,aH,aQ,Nat.one_ne_zero,Nat.zero_ne_one,n4,n5,n7,hso,hsx,s1,s3,s4,hv.len',hv.addr',h4l,ha1,hdep,wa,sr]
     refine aM (h1) (by rfl) ?_;simp only [↓pre,simprocAttr,aA,sx,fH,eO,bne,aC,aL,aI,bQ,bH,Option.map_none,Option.map_some,aJ,aK,aG,aH,aQ,Nat.one_ne_zero,Nat.zero_ne_one,n4,n5,n7,hso,hsx,s1,s3,s4,hv.len',hv.addr',h4l,ha1,hdep,wa,sr];refine aM (h2) (by rfl) ?_;simp only [↓pre,simprocAttr,aA,sx,fH,eO,bne,aC,aL,aI,bQ,bH,Option.map_none,Option.map_some,aJ,aK,aG,aH,aQ,Nat.one_ne_zero,Nat.zero_ne_one,n4,n5,n7,hso,hsx,s1,s3,s4,hv.len',hv.addr',h4l,ha1,hdep,wa,sr];(refine cE (c1) (by simp only [aA,aV, *]) (by intro k;rfl) ?_);simp only [↓pre,simprocAttr,aA,sx,fH,eO,bne,aC,aL,aI,bQ,bH,Option.map_none,Option.map_some,aJ,aK,aG,aH,aQ,Nat.one_ne_zero,Nat.zero_ne_one,n4,n5,n7,hso,hsx,s1,s3,s4,hv.len',hv.addr',h4l,ha1,hdep,wa,sr]
     refine nT (by kernel_rfl) ?_
     simp only [↓pre,simprocAttr,aA,sx,fH,eO,bne,aC,aL,aI,bQ,bH,Option.map_none,Option.map_some,aJ,aK,aG,aH,aQ,Nat.one_ne_zero,Nat.zero_ne_one,n4,n5,n7,hso,hsx,s1,s3,s4,hv.len',hv.addr',h4l,ha1,hdep,wa,sr]
     refine dJ (by kernel_rfl) ?_
     simp only [↓pre,simprocAttr,aA,sx,fH,eO,bne,aC,aL,aI,bQ,bH,Option.map_none,Option.map_some,aJ,aK,aG,aH,aQ,Nat.one_ne_zero,Nat.zero_ne_one,n4,n5,n7,hso,hsx,s1,s3,s4,hv.len',hv.addr',h4l,ha1,hdep,wa,sr]
     refine aM (c3) (by simp only [aA,aV, *]) ?_;simp only [↓pre,simprocAttr,aA,sx,fH,eO,bne,aC,aL,aI,bQ,bH,Option.map_none,Option.map_some,aJ,aK,aG,aH,aQ,Nat.one_ne_zero,Nat.zero_ne_one,n4,n5,n7,hso,hsx,s1,s3,s4,hv.len',hv.addr',h4l,ha1,hdep,wa,hfit',tM,hx1,hx2,hst,sr];refine aM (h3) (by rfl) ?_;simp only [↓pre,simprocAttr,aA,sx,fH,eO,bne,aC,aL,aI,bQ,bH,Option.map_none,Option.map_some,aJ,aK,aG,aH,aQ,Nat.one_ne_zero,Nat.zero_ne_one,n4,n5,n7,hso,hsx,s1,s3,s4,hv.len',hv.addr',h4l,ha1,hdep,wa,hfit',tM,hx1,hx2,hst,sr];refine aM (c4) (by simp only [aA,aV, *]) ?_;simp only [↓pre,simprocAttr,aA,sx,fH,eO,bne,aC,aL,aI,bQ,bH,Option.map_none,Option.map_some,aJ,aK,aG,aH,aQ,Nat.one_ne_zero,Nat.zero_ne_one,n4,n5,n7,hso,hsx,s1,s3,s4,hv.len',hv.addr',h4l,ha1,hdep,wa,hfit',tM,hx1,hx2,hst,sr];(refine cE (c5) (by rfl) (by intro k;rfl) ?_);simp only [↓pre,simprocAttr,aA,sx,fH,eO,bne,aC,aL,aI,bQ,bH,Option.map_none,Option.map_some,aJ,aK,aG,aH,aQ,Nat.one_ne_zero,Nat.zero_ne_one,n4,n5,n7,hso,hsx,s1,s3,s4,hv.len',hv.addr',h4l,ha1,hdep,wa,hfit',tM,hx1,hx2,hst,sr];(refine cE (c6) (by rfl) (by intro k;simp only [sq,sr, *]) ?_);simp only [↓pre,simprocAttr,aA,sx,fH,eO,bne,aC,aL,aI,bQ,bH,Option.map_none,Option.map_some,aJ,aK,aG,aH,aQ,Nat.one_ne_zero,Nat.zero_ne_one,n4,n5,n7,hso,hsx,s1,s3,s4,hv.len',hv.addr',h4l,ha1,hdep,wa,hfit',tM,hx1,hx2,hst,sr]
     exact ⟨0,hz.out _⟩
     )
  ·rw [Bool.not_eq_true] at hck
   rw [hck,Bool.false_and] at hok
   rw [hck] at c5
   rw [hok,if_neg (by decide)] at hE
   have hz:=hfz 150 hE (by decide)
   rw [hE]
   replace hz:=aB.mk hz
   replace hok:=aB.mk hok
   replace hE:=aB.mk hE
   replace hfz:=aB.mk hfz
   replace hRV:=aB.mk hRV
   replace hck:=aB.mk hck
   replace hfit:=aB.mk hfit
   replace hpl:=aB.mk hpl
   replace hw:=aB.mk hw
   replace hbl:=aB.mk hbl
   replace hn2:=aB.mk hn2
   replace ha:=aB.mk ha
   replace hl:=aB.mk hl
   replace hneq:=aB.mk hneq
   rcases hTRf with hT | hT
   all_goals rw [hT] at c4 c5
   all_goals clear pt
   all_goals replace hT:=aB.mk hT
   all_goals (
    refine bZ follows Tryz.func117 (by unfold Tryz.f117;rfl) (by unfold Tryz.f117;simp) eO (by unfold Tryz.f117;simp) (by kernel_rfl) ?_;unfold Tryz.f117
    simp only [↓pre,simprocAttr,aA,sx,fH,eO,bne,aC,aL,aI,bQ,bH,Option.map_none,Option.map_some,aJ,aK,aG,aH,aQ,Nat.one_ne_zero,Nat.zero_ne_one,n4,n5,n7,hso,hsx,s1,s3,s4,hv.len',hv.addr',h4l,ha1,hdep,wa,sr]
    refine aM (h1) (by rfl) ?_;simp only [↓pre,simprocAttr,aA,sx,fH,eO,bne,aC,aL,aI,bQ,bH,Option.map_none,Option.map_some,aJ,aK,aG,aH,aQ,Nat.one_ne_zero,Nat.zero_ne_one,n4,n5,n7,hso,hsx,s1,s3,s4,hv.len',hv.addr',h4l,ha1,hdep,wa,sr];refine aM (h2) (by rfl) ?_;simp only [↓pre,simprocAttr,aA,sx,fH,eO,bne,aC,aL,aI,bQ,bH,Option.map_none,Option.map_some,aJ,aK,aG,aH,aQ,Nat.one_ne_zero,Nat.zero_ne_one,n4,n5,n7,hso,hsx,s1,s3,s4,hv.len',hv.addr',h4l,ha1,hdep,wa,sr];(refine cE (c1) (by simp only [aA,aV, *]) (by intro k;rfl) ?_);simp only [↓pre,simprocAttr,aA,sx,fH,eO,bne,aC,aL,aI,bQ,bH,Option.map_none,Option.map_some,aJ,aK,aG,aH,aQ,Nat.one_ne_zero,Nat.zero_ne_one,n4,n5,n7,hso,hsx,s1,s3,s4,hv.len',hv.addr',h4l,ha1,hdep,wa,sr]
    refine nT (by kernel_rfl) ?_
    simp only [↓pre,simprocAttr,aA,sx,fH,eO,bne,aC,aL,aI,bQ,bH,Option.map_none,Option.map_some,aJ,aK,aG,aH,aQ,Nat.one_ne_zero,Nat.zero_ne_one,n4,n5,n7,hso,hsx,s1,s3,s4,hv.len',hv.addr',h4l,ha1,hdep,wa,sr]
    refine dJ (by kernel_rfl) ?_
    simp only [↓pre,simprocAttr,aA,sx,fH,eO,bne,aC,aL,aI,bQ,bH,Option.map_none,Option.map_some,aJ,aK,aG,aH,aQ,Nat.one_ne_zero,Nat.zero_ne_one,n4,n5,n7,hso,hsx,s1,s3,s4,hv.len',hv.addr',h4l,ha1,hdep,wa,sr]
    refine aM (c3) (by simp only [aA,aV, *]) ?_;simp only [↓pre,simprocAttr,aA,sx,fH,eO,bne,aC,aL,aI,bQ,bH,Option.map_none,Option.map_some,aJ,aK,aG,aH,aQ,Nat.one_ne_zero,Nat.zero_ne_one,n4,n5,n7,hso,hsx,s1,s3,s4,hv.len',hv.addr',h4l,ha1,hdep,wa,hfit',sr];refine aM (h3) (by rfl) ?_;simp only [↓pre,simprocAttr,aA,sx,fH,eO,bne,aC,aL,aI,bQ,bH,Option.map_none,Option.map_some,aJ,aK,aG,aH,aQ,Nat.one_ne_zero,Nat.zero_ne_one,n4,n5,n7,hso,hsx,s1,s3,s4,hv.len',hv.addr',h4l,ha1,hdep,wa,hfit',sr];refine aM (c4) (by simp only [aA,aV, *]) ?_;simp only [↓pre,simprocAttr,aA,sx,fH,eO,bne,aC,aL,aI,bQ,bH,Option.map_none,Option.map_some,aJ,aK,aG,aH,aQ,Nat.one_ne_zero,Nat.zero_ne_one,n4,n5,n7,hso,hsx,s1,s3,s4,hv.len',hv.addr',h4l,ha1,hdep,wa,hfit',sr];(refine cE (c5) (by rfl) (by intro k;rfl) ?_);simp only [↓pre,simprocAttr,aA,sx,fH,eO,bne,aC,aL,aI,bQ,bH,Option.map_none,Option.map_some,aJ,aK,aG,aH,aQ,Nat.one_ne_zero,Nat.zero_ne_one,n4,n5,n7,hso,hsx,s1,s3,s4,hv.len',hv.addr',h4l,ha1,hdep,wa,hfit',sr]
    exact ⟨0,hz.out _⟩
    )
 ·have hfit':dI k c < ((pN bs:Nat):Int):=by unfold dI;unfold wI at hl;omega
  have hok:q9 k r c w bs=false:=by unfold q9;rw [decide_eq_false hfit];rfl
  rw [hok,if_neg (by decide)] at hE
  have hz:=hfz 150 hE (by decide)
  rw [hE]
  replace hz:=aB.mk hz
  replace hok:=aB.mk hok
  replace hE:=aB.mk hE
  replace hfz:=aB.mk hfz
  replace hfit:=aB.mk hfit
  replace hw:=aB.mk hw
  replace hbl:=aB.mk hbl
  replace hn2:=aB.mk hn2
  replace ha:=aB.mk ha
  replace hl:=aB.mk hl
  replace hneq:=aB.mk hneq
  refine bZ follows Tryz.func117 (by unfold Tryz.f117;rfl) (by unfold Tryz.f117;simp) eO (by unfold Tryz.f117;simp) (by kernel_rfl) ?_;unfold Tryz.f117
  simp only [↓pre,simprocAttr,aA,sx,fH,eO,bne,aC,aL,aI,bQ,bH,Option.map_none,Option.map_some,aJ,aK,aG,aH,aQ,Nat.one_ne_zero,Nat.zero_ne_one,n4,n5,n7,hso,hsx,s1,s3,s4,hv.len',hv.addr',h4l,ha1,hdep,wa,sr]
  refine aM (h1) (by rfl) ?_;simp only [↓pre,simprocAttr,aA,sx,fH,eO,bne,aC,aL,aI,bQ,bH,Option.map_none,Option.map_some,aJ,aK,aG,aH,aQ,Nat.one_ne_zero,Nat.zero_ne_one,n4,n5,n7,hso,hsx,s1,s3,s4,hv.len',hv.addr',h4l,ha1,hdep,wa,sr];refine aM (h2) (by rfl) ?_;simp only [↓pre,simprocAttr,aA,sx,fH,eO,bne,aC,aL,aI,bQ,bH,Option.map_none,Option.map_some,aJ,aK,aG,aH,aQ,Nat.one_ne_zero,Nat.zero_ne_one,n4,n5,n7,hso,hsx,s1,s3,s4,hv.len',hv.addr',h4l,ha1,hdep,wa,sr];(refine cE (c1) (by simp only [aA,aV, *]) (by intro k;rfl) ?_);simp only [↓pre,simprocAttr,aA,sx,fH,eO,bne,aC,aL,aI,bQ,bH,Option.map_none,Option.map_some,aJ,aK,aG,aH,aQ,Nat.one_ne_zero,Nat.zero_ne_one,n4,n5,n7,hso,hsx,s1,s3,s4,hv.len',hv.addr',h4l,ha1,hdep,wa,sr]
  refine nT (by kernel_rfl) ?_
  simp only [↓pre,simprocAttr,aA,sx,fH,eO,bne,aC,aL,aI,bQ,bH,Option.map_none,Option.map_some,aJ,aK,aG,aH,aQ,Nat.one_ne_zero,Nat.zero_ne_one,n4,n5,n7,hso,hsx,s1,s3,s4,hv.len',hv.addr',h4l,ha1,hdep,wa,sr]
  refine dJ (by kernel_rfl) ?_
  simp only [↓pre,simprocAttr,aA,sx,fH,eO,bne,aC,aL,aI,bQ,bH,Option.map_none,Option.map_some,aJ,aK,aG,aH,aQ,Nat.one_ne_zero,Nat.zero_ne_one,n4,n5,n7,hso,hsx,s1,s3,s4,hv.len',hv.addr',h4l,ha1,hdep,wa,sr]
  refine aM (c3) (by simp only [aA,aV, *]) ?_;simp only [↓pre,simprocAttr,aA,sx,fH,eO,bne,aC,aL,aI,bQ,bH,Option.map_none,Option.map_some,aJ,aK,aG,aH,aQ,Nat.one_ne_zero,Nat.zero_ne_one,n4,n5,n7,hso,hsx,s1,s3,s4,hv.len',hv.addr',h4l,ha1,hdep,wa,hfit',sr];refine aM (h3) (by rfl) ?_;simp only [↓pre,simprocAttr,aA,sx,fH,eO,bne,aC,aL,aI,bQ,bH,Option.map_none,Option.map_some,aJ,aK,aG,aH,aQ,Nat.one_ne_zero,Nat.zero_ne_one,n4,n5,n7,hso,hsx,s1,s3,s4,hv.len',hv.addr',h4l,ha1,hdep,wa,hfit',sr]
  exact ⟨0,hz.out _⟩
theorem avC (k r c w:Int) (hm:bU k r c w=true) (v:AV) (bs:List UInt8) (x:List AV) (hv:bC v bs.length (aT bs++x)) (hl:(bs.length:Int)=wI k c) (n:Int):aX Tryz.prog 189 [aA k r c w,v,aD n] ⟨abG k c w bs n,[]⟩:=by
 refine eA ?_
 have h1:=abe k r c w
 have h2:=zL k r c w hm
 have h3:=aeh k r c w hm
 rw [hm] at h1
 rw [←hl] at h2
 have hw:=gZ hm
 have hlb:=tN hw.1 hw.2
 have hp:=hv.plain
 unfold abG rE
 by_cases hn:n < 1∨lI k c < n
 ·rw [if_pos hn,if_neg (by decide)]
  have hf:=fun m=>iI (b8 (.slice none 0 0)) (b8 (.int .i64 20)) 1 m
  replace hf:=aB.mk hf
  replace hlb:=aB.mk hlb
  by_cases k1:n < 1
  ·refine bZ follows Tryz.func189 (by unfold Tryz.f189;rfl) (by unfold Tryz.f189;simp) aE (by unfold Tryz.f189;simp) (by kernel_rfl) ?_;unfold Tryz.f189
   simp only [↓pre,simprocAttr,aA,sx,iK,aE,aC,hv.len',sr]
   refine aM (h1) (by rfl) ?_;simp only [↓pre,simprocAttr,aA,sx,iK,aE,aC,hv.len',k1,sr];refine aM (h2) (by rfl) ?_;simp only [↓pre,simprocAttr,aA,sx,iK,aE,aC,hv.len',k1,sr]
   exact ⟨1,hf.out _⟩
  ·have k2:lI k c < n:=by omega
   refine bZ follows Tryz.func189 (by unfold Tryz.f189;rfl) (by unfold Tryz.f189;simp) aE (by unfold Tryz.f189;simp) (by kernel_rfl) ?_;unfold Tryz.f189
   simp only [↓pre,simprocAttr,aA,sx,iK,aE,aC,hv.len',sr]
   refine aM (h1) (by rfl) ?_;simp only [↓pre,simprocAttr,aA,sx,iK,aE,aC,hv.len',k1,k2,sr];refine aM (h2) (by rfl) ?_;simp only [↓pre,simprocAttr,aA,sx,iK,aE,aC,hv.len',k1,k2,sr];refine aM (h3) (by rfl) ?_;simp only [↓pre,simprocAttr,aA,sx,iK,aE,aC,hv.len',k1,k2,sr]
   exact ⟨1,hf.out _⟩
 ·rw [if_neg hn]
  have k1:¬ n < 1:=by omega
  have k2:¬ lI k c < n:=by omega
  obtain ⟨N,hN⟩:∃ N:Nat,n=(N:Int):=⟨n.toNat,by omega⟩
  subst hN
  rw [Int.toNat_natCast]
  have h6:6*N≤bs.length:=by unfold wI at hl;unfold lI at k2;omega
  have hbl:bs.length≤768:=by unfold wI at hl;omega
  have c4:=aoo v bs x N hv h6 (by omega)
  have hpl:(dP bs N).length=N:=abB _ _
  have hrd:=dX N (bI (dP bs N))
  have hRV:sO (bJ N (bI (dP bs N))) (dP bs N):=⟨[],by rw [List.append_nil,hpl];exact hrd⟩
  have c5:=aon k r c w _ _ hRV (by omega)
  have hll:(pB k c (dP bs N)).length=(wI k c).toNat:=by
   unfold pB
   refine aeS ?_
   rw [qY,hpl]
   omega
  have hLR:bC (.tree (wI k c).toNat (wI k c).toNat (aT (pB k c (dP bs N))) true) (pB k c (dP bs N)).length (aT (pB k c (dP bs N))++[]):=by rw [hll,List.append_nil];exact lN _ _ _
  have hfin:=fun m=>iI (kD hrd) (b8 (.int .i64 0)) 1 m
  have hf:=fun m=>iI (b8 (.slice none 0 0)) (b8 (.int .i64 150)) 1 m
  have pt:=hrd.plain
  have st:=cQ hrd
  have c6:=fun (hok:jW w (dP bs N)=true)=>aoq _ _ hRV (by omega) (fun x hx=>by
   have:=anN (List.all_eq_true.1 hok x hx)
   have:=jN.1 hm
   omega)
  rw [hpl] at c6
  have hTr:=dX (N*6) (aT (dO (dP bs N)))
  have c7:=aor k r c w hm (bJ (N*6) (aT (dO (dP bs N)))) (dO (dP bs N)) [] (by rw [qY,hpl,List.append_nil];exact hTr) (by rw [qY,hpl];omega)
  rw [show pA (dO (dP bs N)) (wI k c).toNat=pB k c (dP bs N) from rfl] at c7
  have pT:=hTr.plain
  have sT:=cQ hTr
  have sL:=cQ hLR
  generalize AV.tree (wI k c).toNat (wI k c).toNat (aT (pB k c (dP bs N))) true=LV at *
  generalize bJ (N*6) (aT (dO (dP bs N)))=TT at *
  generalize bJ N (bI (dP bs N))=TR at *
  generalize pB k c (dP bs N)=LB at *
  have hx1:=fun (d c:Bool) (m:aF)=>wC (d:=d) (c:=c) (m:=m) hLR
  have hx2:=fun (d c:Bool) (m:aF)=>wC (d:=d) (c:=c) (m:=m) hv
  replace hfin:=aB.mk hfin
  replace hf:=aB.mk hf
  replace hpl:=aB.mk hpl
  replace hrd:=aB.mk hrd
  replace hlb:=aB.mk hlb
  replace hRV:=aB.mk hRV
  replace hn:=aB.mk hn
  replace h6:=aB.mk h6
  replace hll:=aB.mk hll
  replace hLR:=aB.mk hLR
  replace hTr:=aB.mk hTr
  replace hw:=aB.mk hw
  replace hl:=aB.mk hl
  by_cases hok:jW w (dP bs N)=true
  ·have c6:=c6 hok
   rw [hok] at c5
   by_cases heq:LB=bs
   ·rw [show (if jW w (dP bs N)=true∧LB=bs then (0:Int) else 150)=0 from if_pos ⟨hok,heq⟩,if_pos rfl]
    have hst:∀ x y,dV Tryz.prog .neq 9 x y (n9 LB) (n9 bs)=some (.val (.bool false)):=fun x y=>by rw [acZ,decide_eq_true heq];rfl
    replace hok:=aB.mk hok
    replace heq:=aB.mk heq
    refine bZ follows Tryz.func189 (by unfold Tryz.f189;rfl) (by unfold Tryz.f189;simp) aE (by unfold Tryz.f189;simp) (by kernel_rfl) ?_;unfold Tryz.f189
    simp only [↓pre,simprocAttr,aA,sx,iK,aE,aC,hv.len',sr]
    refine aM (h1) (by rfl) ?_;simp only [↓pre,simprocAttr,aA,sx,iK,aE,aC,hv.len',k1,k2,st,sT,sL,hx1,hx2,hst,sr];refine aM (h2) (by rfl) ?_;simp only [↓pre,simprocAttr,aA,sx,iK,aE,aC,hv.len',k1,k2,st,sT,sL,hx1,hx2,hst,sr];refine aM (h3) (by rfl) ?_;simp only [↓pre,simprocAttr,aA,sx,iK,aE,aC,hv.len',k1,k2,st,sT,sL,hx1,hx2,hst,sr];refine aM (c4) (by simp only [aA,aV, *]) ?_;simp only [↓pre,simprocAttr,aA,sx,iK,aE,aC,hv.len',k1,k2,st,sT,sL,hx1,hx2,hst,sr];(refine cE (c5) (by simp only [aA,aV, *]) (by intro k;rfl) ?_);simp only [↓pre,simprocAttr,aA,sx,iK,aE,aC,hv.len',k1,k2,st,sT,sL,hx1,hx2,hst,sr];(refine cE (c6) (by simp only [aA,aV, *]) (by intro k;simp only [sq,sr, *]) ?_);simp only [↓pre,simprocAttr,aA,sx,iK,aE,aC,hv.len',k1,k2,st,sT,sL,hx1,hx2,hst,sr];(refine cE (c7) (by simp only [aA,aV, *]) (by intro k;simp only [sq,sr, *]) ?_);simp only [↓pre,simprocAttr,aA,sx,iK,aE,aC,hv.len',k1,k2,st,sT,sL,hx1,hx2,hst,sr]
    exact ⟨1,hfin.out _⟩
   ·rw [show (if jW w (dP bs N)=true∧LB=bs then (0:Int) else 150)=150 from if_neg (fun h=>heq h.2),if_neg (by decide)]
    have hst:∀ x y,dV Tryz.prog .neq 9 x y (n9 LB) (n9 bs)=some (.val (.bool true)):=fun x y=>by rw [acZ,decide_eq_false heq];rfl
    replace hok:=aB.mk hok
    replace heq:=aB.mk heq
    refine bZ follows Tryz.func189 (by unfold Tryz.f189;rfl) (by unfold Tryz.f189;simp) aE (by unfold Tryz.f189;simp) (by kernel_rfl) ?_;unfold Tryz.f189
    simp only [↓pre,simprocAttr,aA,sx,iK,aE,aC,hv.len',sr]
    refine aM (h1) (by rfl) ?_;simp only [↓pre,simprocAttr,aA,sx,iK,aE,aC,hv.len',k1,k2,st,sT,sL,hx1,hx2,hst,sr];refine aM (h2) (by rfl) ?_;simp only [↓pre,simprocAttr,aA,sx,iK,aE,aC,hv.len',k1,k2,st,sT,sL,hx1,hx2,hst,sr];refine aM (h3) (by rfl) ?_;simp only [↓pre,simprocAttr,aA,sx,iK,aE,aC,hv.len',k1,k2,st,sT,sL,hx1,hx2,hst,sr];refine aM (c4) (by simp only [aA,aV, *]) ?_;simp only [↓pre,simprocAttr,aA,sx,iK,aE,aC,hv.len',k1,k2,st,sT,sL,hx1,hx2,hst,sr];(refine cE (c5) (by simp only [aA,aV, *]) (by intro k;rfl) ?_);simp only [↓pre,simprocAttr,aA,sx,iK,aE,aC,hv.len',k1,k2,st,sT,sL,hx1,hx2,hst,sr];(refine cE (c6) (by simp only [aA,aV, *]) (by intro k;simp only [sq,sr, *]) ?_);simp only [↓pre,simprocAttr,aA,sx,iK,aE,aC,hv.len',k1,k2,st,sT,sL,hx1,hx2,hst,sr];(refine cE (c7) (by simp only [aA,aV, *]) (by intro k;simp only [sq,sr, *]) ?_);simp only [↓pre,simprocAttr,aA,sx,iK,aE,aC,hv.len',k1,k2,st,sT,sL,hx1,hx2,hst,sr]
    exact ⟨1,hf.out _⟩
  ·have hok2:=Bool.not_eq_true _ ▸ hok
   rw [show (if jW w (dP bs N)=true∧LB=bs then (0:Int) else 150)=150 from if_neg (fun h=>hok h.1),if_neg (by decide)]
   rw [hok2] at c5
   replace hok:=aB.mk hok
   replace hok2:=aB.mk hok2
   clear c6
   refine bZ follows Tryz.func189 (by unfold Tryz.f189;rfl) (by unfold Tryz.f189;simp) aE (by unfold Tryz.f189;simp) (by kernel_rfl) ?_;unfold Tryz.f189
   simp only [↓pre,simprocAttr,aA,sx,iK,aE,aC,hv.len',sr]
   refine aM (h1) (by rfl) ?_;simp only [↓pre,simprocAttr,aA,sx,iK,aE,aC,hv.len',k1,k2,st,sr];refine aM (h2) (by rfl) ?_;simp only [↓pre,simprocAttr,aA,sx,iK,aE,aC,hv.len',k1,k2,st,sr];refine aM (h3) (by rfl) ?_;simp only [↓pre,simprocAttr,aA,sx,iK,aE,aC,hv.len',k1,k2,st,sr];refine aM (c4) (by simp only [aA,aV, *]) ?_;simp only [↓pre,simprocAttr,aA,sx,iK,aE,aC,hv.len',k1,k2,st,sr];(refine cE (c5) (by simp only [aA,aV, *]) (by intro k;rfl) ?_);simp only [↓pre,simprocAttr,aA,sx,iK,aE,aC,hv.len',k1,k2,st,sr]
   exact ⟨1,hf.out _⟩
end Go.Proofs.YtaekhhlgnbhnpaaGreat