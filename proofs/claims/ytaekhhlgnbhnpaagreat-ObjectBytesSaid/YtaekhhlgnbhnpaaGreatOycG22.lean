import Derived.Test.YtaekhhlgnbhnpaaGreatOycG21
import Derived.Test.YtaekhhlgnbhnpaaGreatOycG20
import Derived.Test.YtaekhhlgnbhnpaaGreatOycG16
set_option linter.unusedVariables false
set_option linter.unusedSimpArgs false
set_option maxRecDepth 10000
namespace Go.Proofs.YtaekhhlgnbhnpaaGreat
open Go Go.Tw Go.Proofs Go.Gf
theorem ani {N:Nat} (x:Mx):∀ j,(rsol N x j).1≤N
 | 0=>Nat.zero_le _
 | j+1=>by
  have ih:=ani (N:=N) x j
  have hp:=wV (rsol N x j).2 j (N - (rsol N x j).1) (rsol N x j).1
  show (rM N j (rsol N x j)).1≤N
  unfold rM
  simp only
  split
  ·exact ih
  ·simp only
   omega
theorem anj {N:Nat} {x:Mx} {j:Nat} (h:(rsol N x j).1=N):∀ m,rsol N x (j+m)=rsol N x j
 | 0=>rfl
 | m+1=>by
  show rM N (j+m) (rsol N x (j+m))=_
  rw [anj h m]
  unfold rM
  have hp:=wV (rsol N x j).2 (j+m) (N - (rsol N x j).1) (rsol N x j).1
  simp only
  rw [if_pos (by omega)]
def oU:Nat→Bool:=fun d=>d != 69 && d != 73 && d != 75
set_option maxHeartbeats 1000000 in
theorem atT (m0:aH) (b N w:Nat) (g:Bool) (β:Nat→Nat) (M:Mx) (hN:1≤N) (hN2:N≤16) (hw:N≤w) (hw2:w≤64) (h:dA m0 b N w N true β M):gO Tryz.prog 336 [.sl b 0 N N g,aE (N:Nat)] m0 fun r m'=>∃ β',r=aE ((rsol N M N).1:Nat)∧dA m' b N w N true β' (rsol N M N).2:=by
 replace hN:=aB.mk hN
 refine bJ follows Tryz.func336 (by unfold Tryz.f336;rfl) (by unfold Tryz.f336;simp) oU (by unfold Tryz.f336;simp) (by kernel_rfl) ?_;unfold Tryz.f336
 simp only [↓pre,simprocAttr,aA,sx,pF,oU,bne,aC,aI,aJ,aF,aG,bY,aU,sr]
 rw [b7]
 refine b8 (fun q e m=>∃ j β,q+j=N∧e 0 = .sl b 0 N N g∧e 1=aE (N:Nat)∧e 5=aE ((rsol N M j).1:Nat)∧e 6=aE (j:Nat)∧aB (dA m b N w N true β (rsol N M j).2)) N ⟨0,β,by omega,rfl,rfl,rfl,rfl,⟨h⟩⟩ ?_
 rintro q e m ⟨j,β,hq,e0,e1,e5,e6,hJ⟩
 replace hq:=aB.mk hq
 have hgs:rsol N M (j+1)=rM N j (rsol N M j):=rfl
 have hsn:=ani (N:=N) M j
 have hst:=fun h=>anj (N:=N) (x:=M) (j:=j) h
 generalize hse:rsol N M j=s at *
 replace hse:=aB.mk hse
 by_cases hlt:j < N
 ·have hlt':((j:Nat):Int) < ((N:Nat):Int):=by omega
  by_cases hnn:s.1 < N
  ·have hnn':((s.1:Nat):Int) < ((N:Nat):Int):=by omega
   have w1:=cF (n:=j) (by omega)
   replace hst:=aB.mk hst
   simp only [↓pre,simprocAttr,aA,sx,pF,oU,bne,aC,aI,aJ,aF,aG,bY,aU,e0,e1,e5,e6,hlt',hnn',sr]
   rw [b7]
   refine vW (fun e m'=>e 0 = .sl b 0 N N g∧e 1=aE (N:Nat)∧e 5=aE (s.1:Nat)∧e 6=aE (j:Nat)∧e 7=aE (dR s.2 j (N - s.1) s.1:Nat)∧m'=m) (fun e m' hR => ?_) ?_
   ·clear e0 e1 e5 e6
    obtain ⟨e0,e1,e5,e6,e7,rfl⟩:=hR
    have hpg:=wV s.2 j (N - s.1) s.1
    by_cases hp:dR s.2 j (N - s.1) s.1=N
    ·have hst:rM N j s=s:=by unfold rM;simp only [hp,Nat.le_refl,if_true]
     rw [hp] at e7
     rw [hst] at hgs
     replace hpg:=aB.mk hpg
     replace hgs:=aB.mk hgs
     replace hst:=aB.mk hst
     simp only [↓pre,simprocAttr,aA,sx,pF,oU,bne,aC,aI,aJ,aF,aG,bY,aU,e0,e1,e5,e6,e7,w1,sr]
     exact ⟨q - 1,by have:=hq.out;omega,j+1,β,by have:=hq.out;omega,by rw [hgs.out],rfl,⟨by rw [hgs.out];exact hJ.out⟩⟩
    ·have hpN:dR s.2 j (N - s.1) s.1 < N:=by omega
     have hne:=aca s.2 j (N - s.1) s.1 (by omega)
     have hgs2:rM N j s=(s.1+1,fA (eA s.2 (dR s.2 j (N - s.1) s.1) s.1) s.1 (fun i=>aS (eA s.2 (dR s.2 j (N - s.1) s.1) s.1 i j) (cL (eA s.2 (dR s.2 j (N - s.1) s.1) s.1 s.1 j)))):=by unfold rM;simp only [if_neg (show ¬ N≤dR s.2 j (N - s.1) s.1 by omega)]
     rw [hgs2] at hgs
     clear hgs2
     obtain ⟨n,X⟩:=s
     simp only at *
     generalize dR X j (N - n) n=a at *
     have hpa:¬ ((a:Nat):Int)=((N:Nat):Int):=by omega
     replace hgs:=aB.mk hgs
     replace hpg:=aB.mk hpg
     obtain ⟨cells,hrow,hcl,hat⟩:=hJ.out.row
     have hca:=hat a hpN
     have hcn:=hat n hnn
     have hsw:=hJ.out.swap hpN hnn hrow
     have hla1:a+1≤cells.length:=by omega
     have hln1:n+1≤(cells.take a++[AV.sl (β n) 0 w w true]++cells.drop (a+1)).length:=by simp;omega
     unfold cI at hsw
     simp only [List.length_cons,List.length_nil,Nat.zero_add] at hsw
     replace hat:=aB.mk hat
     have hpiv:eA X a n n j≠0:=by
      unfold eA
      by_cases e9:n=a
      ·rw [if_pos e9,e9];exact hne
      ·rw [if_neg e9,if_pos rfl];exact hne
     replace hne:=aB.mk hne
     replace hsw:=aB.mk hsw
     replace hpiv:=aB.mk hpiv
     simp only [↓pre,simprocAttr,aA,sx,pF,oU,bne,aC,aI,aJ,aF,aG,bY,aU,e0,e1,e5,e6,e7,hpa,hpN,hnn,hrow,hca,hcn,hla1,hln1,w9,sr]
     generalize hβ1:(fun i=>if i=a then β n else if i=n then β a else β i)=β1 at hsw
     generalize hM2:eA X a n=M2 at hsw hgs hpiv
     generalize hmm1:aH.put m' b _=m1 at hsw ⊢
     clear hmm1
     have wn:=cF (n:=n) (by omega)
     generalize hκ:(fun i=>aS (M2 i j) (cL (M2 n j)))=κ at hgs
     have hel:fA M2 n κ n=M2 n:=by funext q;unfold fA;rw [if_pos rfl]
     rw [b7]
     refine vW (fun e m'=>e 0 = .sl b 0 N N g∧e 1=aE (N:Nat)∧e 5=aE (n:Nat)∧e 6=aE (j:Nat)∧aB (dA m' b N w N true β1 (fA M2 n κ))) (fun e m' hR => ?_) ?_
     ·clear e0 e1 e5 e6 e7
      obtain ⟨e0,e1,e5,e6,hE⟩:=hR
      replace hel:=aB.mk hel
      simp only [↓pre,simprocAttr,aA,sx,pF,oU,bne,aC,aI,aJ,aF,aG,bY,aU,e0,e1,e5,e6,wn,w1,sr]
      exact ⟨q - 1,by have:=hq.out;omega,j+1,β1,by have:=hq.out;omega,by rw [hgs.out],rfl,⟨by rw [hgs.out];exact hE.out⟩⟩
     ·refine b8 (fun q' e m'=>∃ i,q'+i=N∧e 0 = .sl b 0 N N g∧e 1=aE (N:Nat)∧e 5=aE (n:Nat)∧e 6=aE (j:Nat)∧e 9=aE (i:Nat)∧aB (dA m' b N w N true β1 (fun i' q=>if i' < i then fA M2 n κ i' q else M2 i' q))) N ⟨0,by omega,e0,e1,e5,e6,rfl,⟨hsw.out.congr fun i hi q hq=>by rw [if_neg (by omega)]⟩⟩ ?_
      clear e0 e1 e5 e6 e7
      rintro q' e m' ⟨i,hq',e0,e1,e5,e6,e9,hJ3⟩
      replace hq':=aB.mk hq'
      by_cases hli:i < N
      ·have hli':((i:Nat):Int) < ((N:Nat):Int):=by omega
       have wi:=cF (n:=i) (by omega)
       by_cases hin:i=n
       ·have hnew:dA m' b N w N true β1 (fun i' q=>if i' < i+1 then fA M2 n κ i' q else M2 i' q):=hJ3.out.congr fun i' hi' q hq=>by
         by_cases h1:i' < i
         ·rw [if_pos h1,if_pos (by omega)]
         ·rw [if_neg h1]
          by_cases h2:i'=i
          ·rw [if_pos (by omega),h2,hin,hel]
          ·rw [if_neg (by omega)]
        subst hin
        replace hel:=aB.mk hel
        replace hnew:=aB.mk hnew
        simp only [↓pre,simprocAttr,aA,sx,pF,oU,bne,aC,aI,aJ,aF,aG,bY,aU,e0,e1,e5,e6,e9,hli',wi,sr]
        exact ⟨q' - 1,by have:=hq'.out;omega,i+1,by have:=hq'.out;omega,rfl,hnew⟩
       ·have hin':¬ ((i:Nat):Int)=((n:Nat):Int):=by omega
        obtain ⟨cells3,hrow3,hcl3,hat3⟩:=hJ3.out.row
        have hr3i:=hat3 i hli
        have hr3n:=hat3 n hnn
        obtain ⟨_,hbi⟩:=hJ3.out.own i hli
        obtain ⟨_,hbn⟩:=hJ3.out.own n hnn
        have hc1:(fun q=>if i < i then fA M2 n κ i q else M2 i q)=M2 i:=by funext q;rw [if_neg (Nat.lt_irrefl _)]
        have hc2:(fun q=>if n < i then fA M2 n κ n q else M2 n q)=M2 n:=by funext q;rw [hel];split <;> rfl
        rw [hc1] at hbi
        rw [hc2] at hbn
        have hcd:=atM m' (β1 i) (β1 n) w j true true (M2 i) (M2 n) hw2 (by omega) (fun h=>hin (hJ3.out.inj i n hli hnn h)) hpiv.out hbi hbn
        have hnew:dA (m'.put (β1 i) (some ⟨aZ w (fun q=>M2 i q ^^^ aS (aS (M2 i j) (cL (M2 n j))) (M2 n q)),5,.flat,true⟩)) b N w N true β1 (fun i' q=>if i' < i+1 then fA M2 n κ i' q else M2 i' q):=(hJ3.out.put_row hli _).congr fun i' hi' q hq=>by
         by_cases h2:i'=i
         ·subst h2
          rw [if_pos rfl,if_pos (by omega)]
          unfold fA
          rw [if_neg hin,←hκ]
         ·rw [if_neg h2]
          by_cases h1:i' < i
          ·rw [if_pos h1,if_pos (by omega)]
          ·rw [if_neg h1,if_neg (by omega)]
        generalize hmm2:aH.put m' (β1 i) _=m2 at hcd hnew
        clear hmm2
        replace hat3:=aB.mk hat3
        replace hel:=aB.mk hel
        replace hnew:=aB.mk hnew
        replace hc1:=aB.mk hc1
        replace hc2:=aB.mk hc2
        simp only [↓pre,simprocAttr,aA,sx,pF,oU,bne,aC,aI,aJ,aF,aG,bY,aU,e0,e1,e5,e6,e9,hli',hin',hrow3,hli,hnn,hr3i,hr3n,sr]
        refine qF hcd ?_
        refine cU (by kernel_rfl) ?_
        simp only [↓pre,simprocAttr,aA,sx,pF,oU,bne,aC,aI,aJ,aF,aG,bY,aU,e0,e1,e5,e6,e9,wi,sr]
        exact ⟨q' - 1,by have:=hq'.out;omega,i+1,by have:=hq'.out;omega,rfl,hnew⟩
      ·have hli':¬ ((i:Nat):Int) < ((N:Nat):Int):=by omega
       have hi:i=N:=by have:=hq'.out;omega
       have hfin:dA m' b N w N true β1 (fA M2 n κ):=hJ3.out.congr fun i' hi' q hq=>by rw [if_pos (by omega)]
       replace hfin:=aB.mk hfin
       replace hel:=aB.mk hel
       subst hi
       simp only [↓pre,simprocAttr,aA,sx,pF,oU,bne,aC,aI,aJ,aF,aG,bY,aU,e0,e1,e5,e6,e9,hli',sr]
       exact hfin
   ·refine b8 (fun q e m'=>∃ a,q+a=N∧s.1≤a∧e 0 = .sl b 0 N N g∧e 1=aE (N:Nat)∧e 5=aE (s.1:Nat)∧e 6=aE (j:Nat)∧e 7=aE (a:Nat)∧m'=m∧aB (dR s.2 j (N - a) a=dR s.2 j (N - s.1) s.1)) (N - s.1) ⟨s.1,by omega,Nat.le_refl _,e0,e1,e5,e6,rfl,rfl,⟨rfl⟩⟩ ?_
    clear e0 e1 e5 e6
    rintro q2 e m' ⟨a,hq2,hsa,e0,e1,e5,e6,e7,rfl,hpv⟩
    replace hq2:=aB.mk hq2
    by_cases hla:a < N
    ·have hla':((a:Nat):Int) < ((N:Nat):Int):=by omega
     have wa:=cF (n:=a) (by omega)
     obtain ⟨cells,hrow,hcl,hat⟩:=hJ.out.row
     have hca:=hat a hla
     obtain ⟨_,hblk⟩:=hJ.out.own a hla
     have hcell:=iD (w:=w) (s.2 a) (show j < w by omega)
     have hjw:j < w:=by omega
     simp only [aU] at hcell
     have hun:dR s.2 j (N - a) a=if s.2 a j≠0 then a else dR s.2 j (N - (a+1)) (a+1):=by
      rw [show N - a=(N - (a+1))+1 by omega]
      rfl
     replace hat:=aB.mk hat
     by_cases hz:s.2 a j=0
     ·have hz':((s.2 a j).toNat:Int)=0:=by rw [hz];rfl
      rw [if_neg (by simp [hz])] at hun
      replace hun:=aB.mk hun
      simp only [↓pre,simprocAttr,aA,sx,pF,oU,bne,aC,aI,aJ,aF,aG,bY,aU,e0,e1,e5,e6,e7,hla',hla,hrow,hca,hblk,hjw,hcell,hz',wa,sr]
      exact ⟨q2 - 1,by have:=hq2.out;omega,a+1,by have:=hq2.out;omega,by omega,rfl,⟨by rw [←hun.out];exact hpv.out⟩⟩
     ·have hz':¬ ((s.2 a j).toNat:Int)=0:=fun h=>hz (UInt8.toNat_inj.1 (by show _=0;omega))
      rw [if_pos hz] at hun
      rw [←hpv.out,hun]
      replace hun:=aB.mk hun
      simp only [↓pre,simprocAttr,aA,sx,pF,oU,bne,aC,aI,aJ,aF,aG,bY,aU,e0,e1,e5,e6,e7,hla',hla,hrow,hca,hblk,hjw,hcell,hz',sr]
    ·have hla':¬ ((a:Nat):Int) < ((N:Nat):Int):=by omega
     have ha:a=N:=by have:=hq2.out;omega
     subst ha
     have hend:dR s.2 j (a - s.1) s.1=a:=by rw [←hpv.out,Nat.sub_self];rfl
     rw [hend]
     simp only [↓pre,simprocAttr,aA,sx,pF,oU,bne,aC,aI,aJ,aF,aG,bY,aU,e0,e1,e5,e6,e7,hla',sr]
  ·have hnn':¬ ((s.1:Nat):Int) < ((N:Nat):Int):=by omega
   have hend:rsol N M N=s:=by
    have:=hst (by omega) (N - j)
    rw [show j+(N - j)=N by omega] at this
    exact this
   rw [hend]
   replace hst:=aB.mk hst
   replace hend:=aB.mk hend
   simp only [↓pre,simprocAttr,aA,sx,pF,oU,bne,aC,aI,aJ,aF,aG,bY,aU,e0,e1,e5,e6,hlt',hnn',sr]
   exact ⟨_,hJ.out⟩
 ·have hlt':¬ ((j:Nat):Int) < ((N:Nat):Int):=by omega
  have hj:j=N:=by have:=hq.out;omega
  subst hj
  rw [hse.out]
  simp only [↓pre,simprocAttr,aA,sx,pF,oU,bne,aC,aI,aJ,aF,aG,bY,aU,e0,e1,e5,e6,hlt',sr]
  exact ⟨_,hJ.out⟩
theorem atU {N:Nat} {M0:Mx} (hM:adX N M0) {i:Nat} (hi:i < N):(rsol N (lC N M0) N).2 i i≠0:=by
 have h:=adW hM N (Nat.le_refl _)
 obtain ⟨hn,f,hf,hr⟩:=agm M0 N (Nat.le_refl _)
 rw [(hr i hi i hi).1,h.unit i i hi hi,if_pos rfl,tS]
 exact hf i hi
theorem ank {m:aH} {b n w:Nat} {f:Bool} {F:Nat→UInt8} {v:AV} {x:List AV} (hb:m.at_ b=some ⟨aZ w (fun _=>0),5,.flat,true⟩) (hv:bD v n (aZ n F++x)) (hn:n≤w):o5 Tryz.prog 5 m (.sl b 0 w w f) v=some ⟨aE (n:Nat),m.put b (some ⟨aZ w (fun j=>if j < n then F j else 0),5,.flat,true⟩),none⟩:=by
 have h1:cG Tryz.prog 5=some 1:=by kernel_rfl
 have h4:bR Tryz.prog 5 = .flat:=by kernel_rfl
 have hs:=hv.src (P:=Tryz.prog) (m:=m) (el:=5) (sz:=1) (by rw [List.length_append,eE];omega)
 have ht:(aZ n F++x).take (n*1)=aZ n F:=by rw [Nat.mul_one,List.take_append_of_le_length (by rw [eE];omega),List.take_of_length_le (by rw [eE];omega)]
 rw [ht] at hs
 have hsp:cI (aZ w fun _=>0) 0 (aZ n F)=aZ w (fun j=>if j < n then F j else 0):=by
  refine List.ext_getElem? fun i => ?_
  unfold cI
  rw [List.take_zero,List.nil_append,Nat.zero_add,eE]
  by_cases h5:i < n
  ·rw [List.getElem?_append_left (by rw [eE];omega),iD F h5,iD _ (by omega),if_pos h5]
  ·rw [List.getElem?_append_right (by rw [eE];omega),eE,List.getElem?_drop]
   by_cases h6:i < w
   ·rw [show n+(i - n)=i by omega,iD _ h6,iD _ h6,if_neg h5]
   ·rw [List.getElem?_eq_none (by rw [eE];omega),List.getElem?_eq_none (by rw [eE];omega)]
 simp only [o5,h1,hs,hb,Option.bind_some,h4]
 rw [if_pos ⟨trivial,trivial,by rw [eE];omega⟩,Nat.min_eq_left hn,Nat.mul_one,List.take_of_length_le (by rw [eE];omega),hsp]
 rfl
def nG:Nat→Bool:=fun d=>d != 36 && d != 41 && d != 72 && d != 77 && d != 82 && d != 86 && d != 89
theorem atV (v:AV) (n:Nat) (M:Mx) (cells:List AV) (hv:rN v n n M cells) (hn:1≤n) (hn2:n≤16) (hM:adX n M):aY Tryz.prog 310 [v] ⟨.tup [.tree n n (mB true n n (lO n M)) false,aE 0],[]⟩:=by
 refine dY ?_
 have hp:=hv.rd.plain
 have hck:=atL v n n M cells hv hn (by omega) hn (by omega)
 have hb1:=fun m=>agU m n (2*n) (by omega) (by omega)
 have hb2:=fun m=>agU m n n (by omega) (by omega)
 have hso:=fun m b g β h=>atT m b n (2*n) g β (lC n M) hn hn2 (by omega) (by omega) h
 obtain ⟨hok,hval⟩:=arY hM
 have hdg:=fun i hi=>atU (N:=n) (M0:=M) hM (i:=i) hi
 rw [hok] at hso
 obtain ⟨a0,x0,hc0,hr0⟩:=hv.at_ 0 (by omega)
 have hn0:0 < n:=by omega
 have hnn:¬ ((n:Nat):Int) < ((n:Nat):Int):=by omega
 have w2:IntKind.i64.wrap (2*((n:Nat):Int))=((2*n:Nat):Int):=by rw [dU (by omega) (by omega)];omega
 have hcopy:=fun m b F v x hb hv=>ank (m:=m) (b:=b) (n:=n) (w:=2*n) (f:=true) (F:=F) (v:=v) (x:=x) hb hv (by omega)
 replace hb1:=aB.mk hb1
 replace hb2:=aB.mk hb2
 replace hso:=aB.mk hso
 replace hval:=aB.mk hval
 replace hdg:=aB.mk hdg
 replace hok:=aB.mk hok
 replace hcopy:=aB.mk hcopy
 generalize hX:(rsol n (lC n M) n).2=X at *
 refine bJ follows Tryz.func310 (by unfold Tryz.f310;rfl) (by unfold Tryz.f310;simp) nG (by unfold Tryz.f310;simp) (by kernel_rfl) ?_;unfold Tryz.f310
 simp only [↓pre,simprocAttr,aA,sx,nM,nG,bne,aC,aI,cV,jR,aJ,aF,aG,bY,aU,sr]
 refine aL (hck) (by simp only [aA,aO, *]) ?_;simp only [↓pre,simprocAttr,aA,sx,nM,nG,bne,aC,aI,cV,jR,aJ,aF,aG,bY,aU,hv.rd.len',hv.rd.addr',hn0,hc0,hr0.len',w2,sr]
 refine mX (hb1.out _) ?_
 rintro r m1 ⟨β0,hB⟩
 obtain ⟨b,rfl,hT,_,_⟩:=hB.mat hn
 replace hB:=aB.mk hB
 simp only [↓pre,simprocAttr,aA,sx,nM,nG,bne,aC,aI,cV,jR,aJ,aF,aG,bY,aU,sr]
 rw [b7]
 refine vW (fun e m=>∃ β,e 4=aE (n:Nat)∧e 5 = .sl b 0 n n false∧aB (dA m b n (2*n) n true β (lC n M))) (fun e m hR => ?_) ?_
 ·obtain ⟨β,e4,e5,hX0⟩:=hR
  simp only [↓pre,simprocAttr,aA,sx,nM,nG,bne,aC,aI,cV,jR,aJ,aF,aG,bY,aU,e4,e5,sr]
  refine mX (hso.out _ _ _ _ hX0.out) ?_
  rintro r m2 ⟨β2,rfl,hX2⟩
  replace hX2:=aB.mk hX2
  simp only [↓pre,simprocAttr,aA,sx,nM,nG,bne,aC,aI,cV,jR,aJ,aF,aG,bY,aU,e4,e5,hnn,sr]
  refine mX (hb2.out _) ?_
  rintro r m3 ⟨γ,hB2⟩
  obtain ⟨c,rfl,hO,hc,hγ⟩:=hB2.mat hn
  have hbl:=hX2.out.lt
  have hβl:=fun i hi=>(hX2.out.own i hi).1
  have hX3:dA m3 b n (2*n) n true β2 X:=hX2.out.keep hB2.kept.next fun j k hj hl _=>hB2.kept.at_ j k hj hl
  replace hB2:=aB.mk hB2
  replace hX3:=aB.mk hX3
  replace hO:=aB.mk hO
  replace hβl:=aB.mk hβl
  replace hγ:=aB.mk hγ
  have hbc:¬ c=b:=by omega
  generalize hV:(fun i j=>aS (X i (n+j)) (cL (X i i)))=V
  simp only [↓pre,simprocAttr,aA,sx,nM,nG,bne,aC,aI,cV,jR,aJ,aF,aG,bY,aU,e4,e5,sr]
  rw [b7]
  refine b8 (fun q e m=>∃ i,q+i=n∧e 4=aE (n:Nat)∧e 5 = .sl b 0 n n false∧e 7 = .sl c 0 n n false∧e 8=aE (i:Nat)∧aB (dA m b n (2*n) n true β2 X∧dA m c n n n true γ (fun i' j'=>if i' < i then V i' j' else 0))) n ⟨0,by omega,e4,e5,rfl,rfl,⟨hX3.out,hO.out.congr fun i hi j hj=>by rw [if_neg (by omega)]⟩⟩ ?_
  clear e4 e5
  rintro q e m ⟨i,hq,e4,e5,e7,e8,hJ⟩
  replace hq:=aB.mk hq
  by_cases hlt:i < n
  ·have hlt':((i:Nat):Int) < ((n:Nat):Int):=by omega
   have w1:=cF (n:=i) (by omega)
   simp only [↓pre,simprocAttr,aA,sx,nM,nG,bne,aC,aI,cV,jR,aJ,aF,aG,bY,aU,e4,e5,e7,e8,hlt',sr]
   rw [b7]
   refine amK (fun e m=>e 4=aE (n:Nat)∧e 5 = .sl b 0 n n false∧e 7 = .sl c 0 n n false∧e 8=aE (i:Nat)∧aB (dA m b n (2*n) n true β2 X∧dA m c n n n true γ (fun i' j'=>if i' < i+1 then V i' j' else 0))) (fun e m hR => ?_) ?_
   ·clear e4 e5 e7 e8
    obtain ⟨e4,e5,e7,e8,hE⟩:=hR
    simp only [↓pre,simprocAttr,aA,sx,nM,nG,bne,aC,aI,cV,jR,aJ,aF,aG,bY,aU,e4,e5,e7,e8,w1,sr]
    exact ⟨q - 1,by have:=hq.out;omega,i+1,by have:=hq.out;omega,rfl,hE⟩
   ·refine b8 (fun q' e m=>∃ j,q'+j=n∧e 4=aE (n:Nat)∧e 5 = .sl b 0 n n false∧e 7 = .sl c 0 n n false∧e 8=aE (i:Nat)∧e 9=aE (j:Nat)∧aB (dA m b n (2*n) n true β2 X∧dA m c n n n true γ (fun i' j'=>if i' < i then V i' j' else if i'=i∧j' < j then V i' j' else 0))) n ⟨0,by omega,e4,e5,e7,e8,rfl,⟨hJ.out.1,hJ.out.2.congr fun i' hi' j' hj'=>by rw [if_neg (show ¬ (i'=i∧j' < 0) by omega)]⟩⟩ ?_
    clear e4 e5 e7 e8
    rintro q' e m' ⟨j,hq',e4,e5,e7,e8,e9,hJ2⟩
    replace hq':=aB.mk hq'
    by_cases hl2:j < n
    ·have hl2':((j:Nat):Int) < ((n:Nat):Int):=by omega
     have w3:=cF (n:=j) (by omega)
     have wp:IntKind.i64.wrap (((n:Nat):Int)+((j:Nat):Int))=((n+j:Nat):Int):=by rw [dU (by omega) (by omega)];omega
     obtain ⟨hXm,hOm⟩:=hJ2.out
     obtain ⟨cx,hrx,_,hax⟩:=hXm.row
     obtain ⟨co,hro,_,hao⟩:=hOm.row
     have hxi:=hax i hlt
     have hoi:=hao i hlt
     obtain ⟨_,hbx⟩:=hXm.own i hlt
     obtain ⟨_,hbo⟩:=hOm.own i hlt
     have hc1:(fun j'=>if i < i then V i j' else if i=i∧j' < j then V i j' else 0)=fun j'=>if j' < j then V i j' else 0:=by
      funext j'
      rw [if_neg (Nat.lt_irrefl _)]
      by_cases h1:j' < j
      ·rw [if_pos ⟨rfl,h1⟩,if_pos h1]
      ·rw [if_neg (fun h=>h1 h.2),if_neg h1]
     rw [hc1] at hbo
     have hnj:n+j < 2*n:=by omega
     have hin:i < 2*n:=by omega
     have hx1:=iD (w:=2*n) (X i) hnj
     have hx2:=iD (w:=2*n) (X i) hin
     have hdv:=ang (X i (n+j)) (X i i)
     rw [if_neg (hdg.out i hlt),if_neg (hdg.out i hlt),show aS (X i (n+j)) (cL (X i i))=V i j by rw [←hV]] at hdv
     have hput:=act (fun j'=>V i j') (fun _=>0) hl2
     have hl1:j+1≤(aZ n fun j'=>if j' < j then V i j' else 0).length:=by rw [eE];omega
     have hnew:dA (m'.put (γ i) (some ⟨aZ n (fun j'=>if j' < j+1 then V i j' else 0),5,.flat,true⟩)) b n (2*n) n true β2 X∧dA (m'.put (γ i) (some ⟨aZ n (fun j'=>if j' < j+1 then V i j' else 0),5,.flat,true⟩)) c n n n true γ (fun i' j'=>if i' < i then V i' j' else if i'=i∧j' < j+1 then V i' j' else 0):=by
      refine ⟨hXm.put_other (by have:=hγ.out i hlt;omega) fun i' hi'=>by have:=hγ.out i hlt;have:=hβl.out i' hi';omega,(hOm.put_row hlt _).congr fun i' hi' j' hj' => ?_⟩
      by_cases h2:i'=i
      ·subst h2
       rw [if_pos rfl,if_neg (Nat.lt_irrefl _)]
       by_cases h1:j' < j+1
       ·rw [if_pos h1,if_pos ⟨rfl,h1⟩]
       ·rw [if_neg h1,if_neg (fun h=>h1 h.2)]
      ·rw [if_neg h2,if_neg (show ¬ (i'=i∧j' < j) by omega),if_neg (show ¬ (i'=i∧j' < j+1) by omega)]
     simp only [aU] at hx1 hx2 hdv
     replace hax:=aB.mk hax
     replace hao:=aB.mk hao
     replace hc1:=aB.mk hc1
     replace hXm:=aB.mk hXm
     replace hOm:=aB.mk hOm
     replace hnew:=aB.mk hnew
     simp only [↓pre,simprocAttr,aA,sx,nM,nG,bne,aC,aI,cV,jR,aJ,aF,aG,bY,aU,e4,e5,e7,e8,e9,hl2',hlt,hl2,hrx,hro,hxi,hoi,hbx,wp,hnj,hin,hx1,hx2,sr]
     (refine bM (hdv) (by rfl) (by intro k;rfl) ?_);simp only [↓pre,simprocAttr,aA,sx,nM,nG,bne,aC,aI,cV,jR,aJ,aF,aG,bY,aU,e4,e5,e7,e8,e9,hlt,hl2,hbo,hl1,hput,sr]
     refine cU (by kernel_rfl) ?_
     simp only [↓pre,simprocAttr,aA,sx,nM,nG,bne,aC,aI,cV,jR,aJ,aF,aG,bY,aU,e4,e5,e7,e8,e9,w3,sr]
     exact ⟨q' - 1,by have:=hq'.out;omega,j+1,by have:=hq'.out;omega,rfl,hnew⟩
    ·have hl2':¬ ((j:Nat):Int) < ((n:Nat):Int):=by omega
     have hj:j=n:=by have:=hq'.out;omega
     have hfin:dA m' c n n n true γ (fun i' j'=>if i' < i+1 then V i' j' else 0):=hJ2.out.2.congr fun i' hi' j' hj'=>by
      by_cases h1:i' < i
      ·rw [if_pos h1,if_pos (by omega)]
      ·rw [if_neg h1]
       by_cases h2:i'=i
       ·rw [if_pos ⟨h2,by omega⟩,if_pos (by omega)]
       ·rw [if_neg (by omega),if_neg (by omega)]
     have hx:=hJ2.out.1
     replace hfin:=aB.mk hfin
     replace hx:=aB.mk hx
     simp only [↓pre,simprocAttr,aA,sx,nM,nG,bne,aC,aI,cV,jR,aJ,aF,aG,bY,aU,e4,e5,e7,e8,e9,hl2',sr]
     exact ⟨⟨hx.out,hfin.out⟩⟩
  ·have hlt':¬ ((i:Nat):Int) < ((n:Nat):Int):=by omega
   have hi:i=n:=by have:=hq.out;omega
   have hfin:dA m c n n n true γ (lO n M):=hJ.out.2.congr fun i' hi' j' hj'=>by
    rw [if_pos (by omega),←hV]
    exact hval.out i' j' hi' hj'
   replace hfin:=aB.mk hfin
   simp only [↓pre,simprocAttr,aA,sx,nM,nG,bne,aC,aI,cV,jR,aJ,aF,aG,bY,aU,e4,e5,e7,e8,hlt',sr]
   exact ⟨1,by rw [kC,dT,hfin.out.fzT,Option.bind_some,dT,fP,jC];rfl⟩
 ·refine b8 (fun q e m=>∃ i,q+i=n∧e 0=v∧e 4=aE (n:Nat)∧e 5 = .sl b 0 n n false∧e 6=aE (i:Nat)∧aB (dA m b n (2*n) n true β0 (fun i' q=>if i' < i then lC n M i' q else 0))) n ⟨0,by omega,rfl,rfl,rfl,rfl,⟨hT.congr fun i hi j hj=>by rw [if_neg (by omega)]⟩⟩ ?_
  rintro q e m ⟨i,hq,e0,e4,e5,e6,hJ⟩
  replace hq:=aB.mk hq
  by_cases hlt:i < n
  ·have hlt':((i:Nat):Int) < ((n:Nat):Int):=by omega
   have w1:=cF (n:=i) (by omega)
   have wp:IntKind.i64.wrap (((n:Nat):Int)+((i:Nat):Int))=((n+i:Nat):Int):=by rw [dU (by omega) (by omega)];omega
   obtain ⟨a,x,hca,hra⟩:=hv.at_ i hlt
   obtain ⟨cells1,hrow,hcl,hat⟩:=hJ.out.row
   have hci:=hat i hlt
   obtain ⟨_,hbk⟩:=hJ.out.own i hlt
   have hc1:(fun q=>if i < i then lC n M i q else 0)=fun _=>(0:UInt8):=by funext q;rw [if_neg (Nat.lt_irrefl _)]
   rw [hc1] at hbk
   have hcp:=hcopy.out m (β0 i) (M i) a x hbk hra
   replace hat:=aB.mk hat
   replace hc1:=aB.mk hc1
   have hne:=hJ.out.ne hlt
   have hne':¬ b=β0 i:=fun h=>hne h.symm
   have hl1:n+i+1≤(aZ (2*n) fun j=>if j < n then M i j else 0).length:=by rw [eE];omega
   have hni:n+i < 2*n:=by omega
   simp only [↓pre,simprocAttr,aA,sx,nM,nG,bne,aC,aI,cV,jR,aJ,aF,aG,bY,aU,e0,e4,e5,e6,hlt',hlt,hrow,hci,hv.rd.addr',hca,hcp,sr]
   refine cU (by kernel_rfl) ?_
   have hput:List.take (n+i) (aZ (2*n) fun j=>if j < n then M i j else 0)++[AV.val (.int .u8 1)]++List.drop (n+i+1) (aZ (2*n) fun j=>if j < n then M i j else 0)=aZ (2*n) (lC n M i):=by
    have h:=wW (w:=2*n) (f:=fun j=>if j < n then M i j else 0) (g:=lC n M i) hni fun j hj=>by
     unfold lC
     by_cases h1:j < n
     ·rw [if_pos h1,if_neg (by omega),if_pos h1]
     ·rw [if_neg h1,if_neg h1]
      by_cases h2:j=n+i
      ·rw [if_pos h2,if_pos h2,if_neg (by omega),if_pos rfl]
      ·rw [if_neg h2,if_neg h2]
    have hb:lC n M i (n+i)=1:=by unfold lC;rw [if_neg (by omega),if_pos rfl]
    rw [hb] at h
    exact h
   have hnew:dA (m.put (β0 i) (some ⟨aZ (2*n) (lC n M i),5,.flat,true⟩)) b n (2*n) n true β0 (fun i' q=>if i' < i+1 then lC n M i' q else 0):=(hJ.out.put_row hlt _).congr fun i' hi' q hq=>by
    by_cases h2:i'=i
    ·subst h2
     rw [if_pos rfl,if_pos (by omega)]
    ·rw [if_neg h2]
     by_cases h1:i' < i
     ·rw [if_pos h1,if_pos (by omega)]
     ·rw [if_neg h1,if_neg (by omega)]
   replace hnew:=aB.mk hnew
   simp only [↓pre,simprocAttr,aA,sx,nM,nG,bne,aC,aI,cV,jR,aJ,aF,aG,bY,aU,e0,e4,e5,e6,hlt,hrow,hci,hne',wp,hni,hl1,hput,w9,w1,sr]
   exact ⟨q - 1,by have:=hq.out;omega,i+1,by have:=hq.out;omega,rfl,hnew⟩
  ·have hlt':¬ ((i:Nat):Int) < ((n:Nat):Int):=by omega
   have hi:i=n:=by have:=hq.out;omega
   have hfin:dA m b n (2*n) n true β0 (lC n M):=hJ.out.congr fun i' hi' q hq=>by rw [if_pos (by omega)]
   replace hfin:=aB.mk hfin
   simp only [↓pre,simprocAttr,aA,sx,nM,nG,bne,aC,aI,cV,jR,aJ,aF,aG,bY,aU,e0,e4,e5,e6,hlt',sr]
   exact ⟨_,hfin⟩
def tZ:Nat→Bool:=fun d=>d != 40
theorem atW (k r:Nat) (hk:1≤k) (hk2:k≤12) (hr:1≤r) (hr2:r≤4):aY Tryz.prog 333 [aE (k:Nat),aE (r:Nat)] ⟨.tup [.tree r r (mB true r k (gW k)) false,aE 0],[]⟩:=by
 refine dY ?_
 have hb1:=fun m=>agU m r k (by omega) (by omega)
 replace hb1:=aB.mk hb1
 have k1:¬ ((k:Nat):Int) < 1:=by omega
 have k2:¬ (12:Int) < ((k:Nat):Int):=by omega
 have k3:¬ ((r:Nat):Int) < 1:=by omega
 have k4:¬ (4:Int) < ((r:Nat):Int):=by omega
 have hx:=aaO
 refine bJ follows Tryz.func333 (by unfold Tryz.f333;rfl) (by unfold Tryz.f333;simp) tZ (by unfold Tryz.f333;simp) (by kernel_rfl) ?_;unfold Tryz.f333
 simp only [↓pre,simprocAttr,aA,sx,uS,tZ,bne,aC,aI,aM,cV,aJ,aF,aG,bY,aU,k1,k2,k3,k4,sr]
 refine mX (hb1.out _) ?_
 rintro res m1 ⟨β,hB⟩
 obtain ⟨b,rfl,hT,_,_⟩:=hB.mat hr
 replace hB:=aB.mk hB
 simp only [↓pre,simprocAttr,aA,sx,uS,tZ,bne,aC,aI,aM,cV,aJ,aF,aG,bY,aU,sr]
 rw [b7]
 refine b8 (fun q e m=>∃ i,q+i=r∧e 0=aE (k:Nat)∧e 1=aE (r:Nat)∧e 6 = .sl b 0 r r false∧e 7=aE (i:Nat)∧aB (dA m b r k r true β (fun i' j'=>if i' < i then gW k i' j' else 0))) r ⟨0,by omega,rfl,rfl,rfl,rfl,⟨hT.congr fun i hi j hj=>by rw [if_neg (by omega)]⟩⟩ ?_
 rintro q e m ⟨i,hq,e0,e1,e6,e7,hJ⟩
 replace hq:=aB.mk hq
 by_cases hlt:i < r
 ·have hlt':((i:Nat):Int) < ((r:Nat):Int):=by omega
  have w1:=cF (n:=i) (by omega)
  have wki:IntKind.i64.wrap (((k:Nat):Int)+((i:Nat):Int))=((k+i:Nat):Int):=by rw [←Int.natCast_add];exact dE (by omega)
  have u1:=wX (n:=k+i) (by omega)
  simp only [↓pre,simprocAttr,aA,sx,uS,tZ,bne,aC,aI,aM,cV,aJ,aF,aG,bY,aU,e0,e1,e6,e7,hlt',sr]
  rw [b7]
  refine amK (fun e m=>e 0=aE (k:Nat)∧e 1=aE (r:Nat)∧e 6 = .sl b 0 r r false∧e 7=aE (i:Nat)∧aB (dA m b r k r true β (fun i' j'=>if i' < i+1 then gW k i' j' else 0))) (fun e m hR => ?_) ?_
  ·clear e0 e1 e6 e7
   obtain ⟨e0,e1,e6,e7,hE⟩:=hR
   simp only [↓pre,simprocAttr,aA,sx,uS,tZ,bne,aC,aI,aM,cV,aJ,aF,aG,bY,aU,e0,e1,e6,e7,w1,sr]
   exact ⟨q - 1,by have:=hq.out;omega,i+1,by have:=hq.out;omega,rfl,hE⟩
  ·refine b8 (fun q' e m=>∃ j,q'+j=k∧e 0=aE (k:Nat)∧e 1=aE (r:Nat)∧e 6 = .sl b 0 r r false∧e 7=aE (i:Nat)∧e 8=aE (j:Nat)∧aB (dA m b r k r true β (fun i' j'=>if i' < i then gW k i' j' else if i'=i∧j' < j then gW k i' j' else 0))) k ⟨0,by omega,e0,e1,e6,e7,rfl,⟨hJ.out.congr fun i' hi' j' hj'=>by rw [if_neg (show ¬ (i'=i∧j' < 0) by omega)]⟩⟩ ?_
   clear e0 e1 e6 e7
   rintro q' e m' ⟨j,hq',e0,e1,e6,e7,e8,hJ2⟩
   replace hq':=aB.mk hq'
   by_cases hl2:j < k
   ·have hl2':((j:Nat):Int) < ((k:Nat):Int):=by omega
    have w3:=cF (n:=j) (by omega)
    have u2:=wX (n:=j) (by omega)
    obtain ⟨co,hro,_,hao⟩:=hJ2.out.row
    have hoi:=hao i hlt
    obtain ⟨_,hbo⟩:=hJ2.out.own i hlt
    have hc1:(fun j'=>if i < i then gW k i j' else if i=i∧j' < j then gW k i j' else 0)=fun j'=>if j' < j then gW k i j' else 0:=by
     funext j'
     rw [if_neg (Nat.lt_irrefl _)]
     by_cases h1:j' < j
     ·rw [if_pos ⟨rfl,h1⟩,if_pos h1]
     ·rw [if_neg (fun h=>h1 h.2),if_neg h1]
    rw [hc1] at hbo
    have hne:UInt8.ofNat (k+i) ^^^ UInt8.ofNat j≠0:=tT fun e=>by
     have:=congrArg UInt8.toNat e
     rw [l8 (by omega),l8 (by omega)] at this
     omega
    have hI:=anf (UInt8.ofNat (k+i) ^^^ UInt8.ofNat j)
    have hM:gW k i j=cL (UInt8.ofNat (k+i) ^^^ UInt8.ofNat j):=by unfold gW eX;rw [if_neg (by omega)]
    rw [if_neg hne,if_neg hne,←hM] at hI
    have hxx:=hx (UInt8.ofNat (k+i)) (UInt8.ofNat j)
    generalize UInt8.ofNat (k+i) ^^^ UInt8.ofNat j=z at *
    have hput:=act (fun j'=>gW k i j') (fun _=>0) hl2
    have hl1:j+1≤(aZ k fun j'=>if j' < j then gW k i j' else 0).length:=by rw [eE];omega
    have hnew:dA (m'.put (β i) (some ⟨aZ k (fun j'=>if j' < j+1 then gW k i j' else 0),5,.flat,true⟩)) b r k r true β (fun i' j'=>if i' < i then gW k i' j' else if i'=i∧j' < j+1 then gW k i' j' else 0):=(hJ2.out.put_row hlt _).congr fun i' hi' j' hj'=>by
     by_cases h2:i'=i
     ·subst h2
      rw [if_pos rfl,if_neg (Nat.lt_irrefl _)]
      by_cases h1:j' < j+1
      ·rw [if_pos h1,if_pos ⟨rfl,h1⟩]
      ·rw [if_neg h1,if_neg (fun h=>h1 h.2)]
     ·rw [if_neg h2,if_neg (show ¬ (i'=i∧j' < j) by omega),if_neg (show ¬ (i'=i∧j' < j+1) by omega)]
    simp only [aU] at hI
    replace hao:=aB.mk hao
    replace hc1:=aB.mk hc1
    replace hM:=aB.mk hM
    replace hne:=aB.mk hne
    replace hnew:=aB.mk hnew
    simp only [↓pre,simprocAttr,aA,sx,uS,tZ,bne,aC,aI,aM,cV,aJ,aF,aG,bY,aU,e0,e1,e6,e7,e8,hl2',hlt,hl2,hro,hoi,wki,u1,u2,hxx,sr]
    (refine bM (hI) (by rfl) (by intro k;rfl) ?_);simp only [↓pre,simprocAttr,aA,sx,uS,tZ,bne,aC,aI,aM,cV,aJ,aF,aG,bY,aU,e0,e1,e6,e7,e8,hlt,hl2,hbo,hl1,hput,sr]
    refine cU (by kernel_rfl) ?_
    simp only [↓pre,simprocAttr,aA,sx,uS,tZ,bne,aC,aI,aM,cV,aJ,aF,aG,bY,aU,e0,e1,e6,e7,e8,w3,sr]
    exact ⟨q' - 1,by have:=hq'.out;omega,j+1,by have:=hq'.out;omega,rfl,hnew⟩
   ·have hl2':¬ ((j:Nat):Int) < ((k:Nat):Int):=by omega
    have hj:j=k:=by have:=hq'.out;omega
    have hfin:dA m' b r k r true β (fun i' j'=>if i' < i+1 then gW k i' j' else 0):=hJ2.out.congr fun i' hi' j' hj'=>by
     by_cases h1:i' < i
     ·rw [if_pos h1,if_pos (by omega)]
     ·rw [if_neg h1]
      by_cases h2:i'=i
      ·rw [if_pos ⟨h2,by omega⟩,if_pos (by omega)]
      ·rw [if_neg (by omega),if_neg (by omega)]
    replace hfin:=aB.mk hfin
    simp only [↓pre,simprocAttr,aA,sx,uS,tZ,bne,aC,aI,aM,cV,aJ,aF,aG,bY,aU,e0,e1,e6,e7,e8,hl2',sr]
    exact hfin
 ·have hlt':¬ ((i:Nat):Int) < ((r:Nat):Int):=by omega
  have hi:i=r:=by have:=hq.out;omega
  have hfin:dA m b r k r true β (gW k):=hJ.out.congr fun i' hi' j' hj'=>by rw [if_pos (by omega)]
  replace hfin:=aB.mk hfin
  simp only [↓pre,simprocAttr,aA,sx,uS,tZ,bne,aC,aI,aM,cV,aJ,aF,aG,bY,aU,e0,e1,e6,e7,hlt',sr]
  exact ⟨1,by rw [kC,dT,hfin.out.fzT,Option.bind_some,dT,fP,jC];rfl⟩
theorem anl (k r:Nat) (hk:1≤k) (hk2:k≤12) (hr2:r≤4):aY Tryz.prog 305 [aE (k:Nat),aE (r:Nat)] ⟨bC true,[]⟩:=by
 have k1:(1:Int)≤((k:Nat):Int):=by omega
 have k2:((k:Nat):Int)≤12:=by omega
 have k3:(0:Int)≤((r:Nat):Int):=by omega
 have k4:((r:Nat):Int)≤4:=by omega
 refine bB follows Tryz.func305 (by unfold Tryz.f305;rfl) (by unfold Tryz.f305;simp) aD (by unfold Tryz.f305;simp) (by kernel_rfl) ?_;unfold Tryz.f305
 simp only [↓pre,simprocAttr,aA,sx,ap2,aD,k1,k2,k3,k4,sr]
theorem anm (k r cell:Nat) (hk:1≤k) (hk2:k≤12) (hr2:r≤4) (hc:cell < k+r):aY Tryz.prog 309 [aE (k:Nat),aE (r:Nat),aE (cell:Nat)] ⟨.tup [.tree k k (aZ k (eX k cell)) true,aE 0],[]⟩:=by
 refine dY ?_
 have hmy:=anl k r hk hk2 hr2
 have k1:¬ ((cell:Nat):Int) < 0:=by omega
 have k2:¬ ((k+r:Nat):Int)≤((cell:Nat):Int):=by omega
 have wkr:IntKind.i64.wrap (((k:Nat):Int)+((r:Nat):Int))=((k+r:Nat):Int):=by rw [←Int.natCast_add];exact dE (by omega)
 have mk1:=fun m=>qK m (n:=k) (by omega)
 by_cases h:cell < k
 ·have h':¬ ((k:Nat):Int)≤((cell:Nat):Int):=by omega
  have hput:=wW (w:=k) (f:=fun _=>0) (g:=eX k cell) h fun j hj=>by
   unfold eX
   rw [if_pos h,if_pos h,if_pos rfl]
   by_cases e:j=cell
   ·rw [if_pos e.symm,if_pos e]
   ·rw [if_neg (fun h=>e h.symm),if_neg e]
  have h1:eX k cell cell=1:=by unfold eX;rw [if_pos h,if_pos rfl]
  rw [h1] at hput
  have hput:List.take cell (aZ k fun _=>0)++[AV.val (.int .u8 1)]++List.drop (cell+1) (aZ k fun _=>0)=aZ k (eX k cell):=hput
  have hl1:cell+1≤(aZ k fun _=>0).length:=by rw [eE];omega
  refine bJ follows Tryz.func309 (by unfold Tryz.f309;rfl) (by unfold Tryz.f309;simp) aD (by unfold Tryz.f309;simp) (by kernel_rfl) ?_;unfold Tryz.f309
  simp only [↓pre,simprocAttr,aA,sx,abX,aD,aC,aI,aM,aJ,aF,aG,bY,aU,sr]
  refine aL (hmy) (by rfl) ?_;simp only [↓pre,simprocAttr,aA,sx,abX,aD,aC,aI,aM,aJ,aF,aG,bY,aU,k1,k2,wkr,h',mk1,h,hl1,hput,sr]
  exact ⟨0,by rw [kC,dT,sJ (by rw [aF,if_pos rfl]),Option.bind_some,dT,fP,jC];rfl⟩
 ·have h':((k:Nat):Int)≤((cell:Nat):Int):=by omega
  have hca:=atW k r hk hk2 (by omega) hr2
  have wck:IntKind.i64.wrap (((cell:Nat):Int) - ((k:Nat):Int))=((cell - k:Nat):Int):=by rw [dU (by omega) (by omega)];omega
  have hrow:=yW true (n:=r) (w:=k) (i:=cell - k) (gW k) (by omega)
  have e1:gW k (cell - k)=eX k cell:=by unfold gW;rw [show k+(cell - k)=cell by omega]
  rw [e1] at hrow
  have hR:bD (.tree r r (mB true r k (gW k)) false) r (mB true r k (gW k)):=lF _ _ _
  generalize AV.tree r r (mB true r k (gW k)) false=CV at *
  have s1:=cK hR
  have hlr:cell - k < r:=by omega
  replace e1:=aB.mk e1
  refine bJ follows Tryz.func309 (by unfold Tryz.f309;rfl) (by unfold Tryz.f309;simp) aD (by unfold Tryz.f309;simp) (by kernel_rfl) ?_;unfold Tryz.f309
  simp only [↓pre,simprocAttr,aA,sx,abX,aD,aC,aI,aM,aJ,aF,aG,bY,aU,sr]
  refine aL (hmy) (by rfl) ?_;simp only [↓pre,simprocAttr,aA,sx,abX,aD,aC,aI,aM,aJ,aF,aG,bY,aU,k1,k2,wkr,h',s1,wck,hR.addr',hlr,hrow,sr];refine aL (hca) (by rfl) ?_;simp only [↓pre,simprocAttr,aA,sx,abX,aD,aC,aI,aM,aJ,aF,aG,bY,aU,k1,k2,wkr,h',s1,wck,hR.addr',hlr,hrow,sr]
  exact ⟨0,by rw [kC,dT,x4,Option.bind_some,dT,fP,jC];rfl⟩
theorem atX (v:AV) (C:List (List UInt8)) (cells:List AV) (L:Nat) (hv:fT v C cells) (hC:aaU C L) (hL:L≤65536) (hn:C.length≤1000):aY Tryz.prog 306 [v,aE (C.length:Nat),bC false] ⟨.tup [aE ((bV C C.length).length:Nat),bC true],[]⟩:=by
 have hp:=hv.rd.plain
 replace hC:=aB.mk hC
 refine bB follows Tryz.func306 (by unfold Tryz.f306;rfl) (by unfold Tryz.f306;simp) aD (by unfold Tryz.f306;simp) (by kernel_rfl) ?_;unfold Tryz.f306
 simp only [↓pre,simprocAttr,aA,sx,abW,aD,aC,hv.rd.len',sr]
 rw [b7]
 refine b8 (fun q e m=>∃ i lg,q+i=C.length∧e 0=v∧e 1=aE (C.length:Nat)∧e 2=bC false∧e 8=aE ((bV C i).length:Nat)∧e 9=aE (lg:Nat)∧e 10=aE (i:Nat)∧aB (0 < (bV C i).length→lg=L)) C.length ⟨0,0,by omega,rfl,rfl,rfl,rfl,rfl,rfl,⟨fun h=>absurd h (by simp [bV])⟩⟩ ?_
 rintro q e m ⟨i,lg,hq,e0,e1,e2,e8,e9,e10,hJ⟩
 replace hq:=aB.mk hq
 by_cases hlt:i < C.length
 ·have hlt':((i:Nat):Int) < ((C.length:Nat):Int):=by omega
  have w1:=cF (n:=i) (by omega)
  obtain ⟨b,hb⟩:∃ b,C[i]? = some b:=⟨_,List.getElem?_eq_getElem hlt⟩
  obtain ⟨a,x,hca,hra⟩:=hv.at_ i b hb
  have hts:=uZ C i
  rw [rO hb] at hts
  have hle:=ad4 C i
  by_cases h0:b.length=0
  ·rw [if_neg (by omega),List.append_nil] at hts
   have h0':((b.length:Nat):Int)=0:=by omega
   replace hb:=aB.mk hb
   replace hts:=aB.mk hts
   simp only [↓pre,simprocAttr,aA,sx,abW,aD,aC,e0,e1,e2,e8,e9,e10,hlt',hlt,hv.rd.addr',hca,hra.len',h0',w1,sr]
   exact ⟨q - 1,by have:=hq.out;omega,i+1,lg,by have:=hq.out;omega,by rw [hts.out],rfl,rfl,⟨by rw [hts.out];exact hJ.out⟩⟩
  ·have hbL:b.length=L:=by
    rcases hC.out b (List.mem_of_getElem? hb) with h | h
    ·exact absurd h h0
    ·exact h
   rw [if_pos h0] at hts
   have hts2:(bV C (i+1)).length=(bV C i).length+1:=by rw [hts,List.length_append];rfl
   have h0':¬ ((b.length:Nat):Int)=0:=by omega
   have hbig:¬ (65536:Int) < ((b.length:Nat):Int):=by omega
   have w2:=cF (n:=(bV C i).length) (by omega)
   replace hb:=aB.mk hb
   replace hts:=aB.mk hts
   replace hts2:=aB.mk hts2
   replace hbL:=aB.mk hbL
   by_cases hpos:0 < (bV C i).length
   ·have hlg:=hJ.out hpos
    have hpos':(0:Int) < (((bV C i).length:Nat):Int):=by omega
    have hlb:b.length=lg:=hbL.out.trans hlg.symm
    replace hlg:=aB.mk hlg
    rw [hlb] at h0' hbig hra
    replace hlb:=aB.mk hlb
    simp only [↓pre,simprocAttr,aA,sx,abW,aD,aC,e0,e1,e2,e8,e9,e10,hlt',hlt,hv.rd.addr',hca,hra.len',h0',hbig,hpos',w1,w2,sr]
    exact ⟨q - 1,by have:=hq.out;omega,i+1,lg,by have:=hq.out;omega,by rw [hts2.out],rfl,rfl,⟨fun _=>hlg.out⟩⟩
   ·have hpos':¬ (0:Int) < (((bV C i).length:Nat):Int):=by omega
    simp only [↓pre,simprocAttr,aA,sx,abW,aD,aC,e0,e1,e2,e8,e9,e10,hlt',hlt,hv.rd.addr',hca,hra.len',h0',hbig,hpos',w1,w2,sr]
    exact ⟨q - 1,by have:=hq.out;omega,i+1,b.length,by have:=hq.out;omega,by rw [hts2.out],rfl,rfl,⟨fun _=>hbL.out⟩⟩
 ·have hlt':¬ ((i:Nat):Int) < ((C.length:Nat):Int):=by omega
  have hi:i=C.length:=by have:=hq.out;omega
  subst hi
  simp only [↓pre,simprocAttr,aA,sx,abW,aD,aC,e0,e1,e2,e8,e9,e10,hlt',sr]
theorem atY (vd:AV) (k r a n L:Nat) (D:Mx) (cd:List AV) (hv:rN vd k L D cd) (hk:1≤k) (hk2:k≤12) (hr:r≤4) (ha:a+n≤k+r) (hn:1≤n) (hL:L≤65536):aY Tryz.prog 307 [aE (k:Nat),aE (r:Nat),aE (a:Nat),aE (a+n:Nat),vd] ⟨.tree n n (eJ L (nO k D) a n) false,[]⟩:=by
 refine dY ?_
 have hp:=hv.rd.plain
 have hrow:=fun cell h=>anm k r cell hk hk2 hr h
 replace hrow:=aB.mk hrow
 refine bJ follows Tryz.func307 (by unfold Tryz.f307;rfl) (by unfold Tryz.f307;simp) aD (by unfold Tryz.f307;simp) (by kernel_rfl) ?_;unfold Tryz.f307
 simp only [↓pre,simprocAttr,aA,sx,aax,aD,aC,aI,aM,sr]
 rw [b7]
 refine b8 (fun q e m=>∃ i lv,q+i=n∧e 0=aE (k:Nat)∧e 1=aE (r:Nat)∧e 3=aE (a+n:Nat)∧e 4=vd∧e 11=lv∧e 12=aE (a+i:Nat)∧aB (cH .var m 52 1 lv i (eJ L (nO k D) a i))) n ⟨0,aP,by omega,rfl,rfl,rfl,rfl,rfl,rfl,⟨gT⟩⟩ ?_
 rintro q e m ⟨i,lv,hq,e0,e1,e3,e4,e11,e12,hJ⟩
 replace hq:=aB.mk hq
 by_cases hlt:i < n
 ·have hlt':((a+i:Nat):Int) < ((a+n:Nat):Int):=by omega
  have w1:=cF (n:=a+i) (by omega)
  have hri:=hrow.out (a+i) (by omega)
  have hdot:=anh (.tree k k (aZ k (eX k (a+i))) true) vd k L (eX k (a+i)) D [] cd (by rw [List.append_nil];exact lF _ _ _) hv hk (by omega) hL
  rw [show oK k (eX k (a+i)) D=nO k D (a+i) from rfl] at hdot
  have t1:=lF k (aZ k (eX k (a+i))) true
  have hcs:=ad5 L (nO k D) a i
  generalize AV.tree k k (aZ k (eX k (a+i))) true=ROW at *
  have s1:=cK t1
  have p1:=t1.plain
  have t2:=lF L (aZ L (nO k D (a+i))) true
  have s2:=cK t2
  simp only [aE] at hri hdot
  replace hcs:=aB.mk hcs
  simp only [↓pre,simprocAttr,aA,sx,aax,aD,aC,aI,aM,e0,e1,e3,e4,e11,e12,hlt',sr]
  refine aL (hri) (by rfl) ?_;simp only [↓pre,simprocAttr,aA,sx,aax,aD,aC,aI,aM,e0,e1,e3,e4,e11,e12,s1,s2,yZ,sr];refine aL (hdot) (by simp only [aA,aO, *]) ?_;simp only [↓pre,simprocAttr,aA,sx,aax,aD,aC,aI,aM,e0,e1,e3,e4,e11,e12,s1,s2,yZ,sr]
  refine qE (kd := .var) (sz:=1) (y:=24) (zl:=[.slice none 0 0]) (by kernel_rfl) hJ.out (by kernel_rfl) (by kernel_rfl) (by kernel_rfl) rfl mH rfl (by omega) (by omega) ?_
  intro lv' m' ho' hn'
  rw [←hcs.out] at ho'
  replace ho':=aB.mk ho'
  simp only [↓pre,simprocAttr,aA,sx,aax,aD,aC,aI,aM,e0,e1,e3,e4,e11,e12,w1,sr]
  exact ⟨q - 1,by have:=hq.out;omega,i+1,lv',by have:=hq.out;omega,rfl,rfl,ho'⟩
 ·have hlt':¬ ((a+i:Nat):Int) < ((a+n:Nat):Int):=by omega
  have hi:i=n:=by have:=hq.out;omega
  subst hi
  obtain ⟨b,rfl,hb,_⟩:=hJ.out.sl (by omega)
  simp only [↓pre,simprocAttr,aA,sx,aax,aD,aC,aI,aM,e0,e1,e3,e4,e11,e12,hlt',sr]
  exact ⟨1,by rw [ade hb (aaT _ (by rw [List.drop_zero];exact amc _ _ _ _)),List.drop_zero]⟩
theorem ann (C:List (List UInt8)) (i:Nat):∀ m,(bV C (i+m)).take (bV C i).length=bV C i
 | 0=>List.take_length
 | m+1=>by
  have ih:=ann C i m
  have hl:(bV C i).length≤(bV C (i+m)).length:=by
   have:=congrArg List.length ih
   rw [List.length_take] at this
   omega
  rw [←Nat.add_assoc,uZ,List.take_append_of_le_length hl,ih]
set_option maxHeartbeats 1000000 in
theorem atZ (v:AV) (k r L:Nat) (C:List (List UInt8)) (cells:List AV) (hv:fT v C cells) (hCl:C.length=k+r) (hC:aaU C L) (hk:1≤k) (hk2:k≤12) (hr:r≤4) (hL:1≤L) (hL2:L≤65536) (hth:k≤(bV C (k+r)).length):aY Tryz.prog 261 [aE (k:Nat),aE (r:Nat),v] ⟨.tup [.tree (k+r) (k+r) (eJ L (aaN k ((bV C (k+r)).take k) (f9 C)) 0 (k+r)) false,aE 0],[]⟩:=by
 refine dY ?_
 have hp:=hv.rd.plain
 have hmy:=anl k r hk hk2 hr
 have hal:=atX v C cells L hv hC hL2 (by omega)
 rw [hCl] at hal
 have hrow:=fun cell h=>anm k r cell hk hk2 hr h
 have htk:((bV C (k+r)).take k).length=k:=by rw [List.length_take];omega
 have hmem:∀ a∈(bV C (k+r)).take k,a < k+r∧(C.getD a []).length=L:=fun a ha=>by
  obtain ⟨h1,h2⟩:=agz (List.mem_of_mem_take ha)
  refine ⟨h1, ?_⟩
  obtain ⟨b,hb⟩:∃ b,C[a]? = some b:=⟨_,List.getElem?_eq_getElem (by omega)⟩
  rw [rO hb] at h2 ⊢
  rcases hC b (List.mem_of_getElem? hb) with h | h
  ·exact absurd h h2
  ·exact h
 have hnd:((bV C (k+r)).take k).Nodup:=(al9 C (k+r)).sublist (List.take_sublist _ _)
 have htl:∀ i,i≤k+r→(bV C i).length≤k→bV C i=(((bV C (k+r)).take k).take (bV C i).length):=fun i hi hle=>by
  have:=ann C i (k+r - i)
  rw [show i+(k+r - i)=k+r by omega] at this
  rw [List.take_take,Nat.min_eq_left hle,this]
 have k1:¬ (((bV C (k+r)).length:Nat):Int) < ((k:Nat):Int):=by omega
 have w1:IntKind.i64.wrap (((k:Nat):Int)+((r:Nat):Int))=((k+r:Nat):Int):=by rw [←Int.natCast_add];exact dE (by omega)
 generalize hat:(bV C (k+r)).take k=at_ at *
 replace hC:=aB.mk hC
 replace hmem:=aB.mk hmem
 replace hat:=aB.mk hat
 replace hrow:=aB.mk hrow
 replace htl:=aB.mk htl
 have hme:aH.empty.next=0:=rfl
 refine bJ follows Tryz.func261 (by unfold Tryz.f261;rfl) (by unfold Tryz.f261;simp) aD (by unfold Tryz.f261;simp) (by kernel_rfl) ?_;unfold Tryz.f261
 simp only [↓pre,simprocAttr,aA,sx,m6,aD,aC,aI,aM,sr]
 refine aL (hmy) (by rfl) ?_;simp only [↓pre,simprocAttr,aA,sx,m6,aD,aC,aI,aM,w1,k1,sr];refine aL (hal) (by simp only [aA,aO, *]) ?_;simp only [↓pre,simprocAttr,aA,sx,m6,aD,aC,aI,aM,w1,k1,sr]
 rw [b7]
 refine vW (fun e m=>∃ lm lf,e 0=aE (k:Nat)∧e 1=aE (r:Nat)∧e 10=lm∧e 11=lf∧aB (cH .var m 52 1 lm k (mN k at_)∧cH .var m 52 1 lf k (jP cells at_)∧∀ b,cP lm=some b→cP lf≠some b)) (fun e m hR => ?_) ?_
 ·obtain ⟨lm,lf,e0,e1,e10,e11,hJ⟩:=hR
  obtain ⟨hom,hof,hap⟩:=hJ.out
  have hrp:dX (mN k at_)=true:=y5 _ fun c hc=>by
   unfold mN at hc
   obtain ⟨a,_,rfl⟩:=List.mem_map.1 hc
   rfl
  have hfRd:acd k L (fun t=>f9 C (at_.getD t 0)) (jP cells at_):=fun t ht=>by
   obtain ⟨a,ha⟩:∃ a,at_[t]? = some a:=⟨_,List.getElem?_eq_getElem (by omega)⟩
   obtain ⟨hal,haL⟩:=hmem.out a (List.mem_of_getElem? ha)
   obtain ⟨b,hb⟩:∃ b,C[a]? = some b:=⟨_,List.getElem?_eq_getElem (by omega)⟩
   obtain ⟨ca,x,hca,hra⟩:=hv.at_ a b hb
   refine ⟨ca,x, ?_, ?_⟩
   ·unfold jP
    rw [List.getElem?_map,ha,Option.map_some,List.getD_eq_getElem?_getD,hca]
    rfl
   ·simp only [List.getD_eq_getElem?_getD,ha,Option.getD_some]
    unfold aZ
    have:=ami haL
    rw [this,rO hb]
    rw [rO hb] at haL
    rw [haL] at hra
    exact hra
  have hfp:dX (jP cells at_)=true:=y5 _ fun c hc=>by
   obtain ⟨t,ht⟩:=List.getElem?_of_mem hc
   have htl:t < k:=by have:=(List.getElem?_eq_some_iff.1 ht).1;unfold jP at this;rw [List.length_map] at this;omega
   obtain ⟨a,x,h1,h2⟩:=hfRd t htl
   rw [ht] at h1
   cases h1
   exact h2.plain
  obtain ⟨av,m2,hfz,hav,hm2,hn2,hk2'⟩:=(x6 hom (.inr ⟨rfl,hrp⟩)).fz
  have hof2:cH .var m2 52 1 lf k (jP cells at_):=hof.frz hn2 hk2' fun b hb off n c f h=>by
   subst h
   exact hap b rfl hb
  have hinv:=atV av k (kI k at_) (mN k at_) ⟨hav,amj htk⟩ hk (by omega) (alL htk hnd fun a ha=>by have:=(hmem.out a ha).1;omega)
  have hVb:=(ad1 false true k k (lO k (kI k at_))).rd
  generalize AV.tree k k (mB true k k (lO k (kI k at_))) false=IV at *
  have s1:=cK hVb
  have hHf:=x6 hof2 (.inr ⟨rfl,hfp⟩)
  have hOf:=afD hof2
  have hfz1:fzs m [lm]=some ([av],m2):=by simp [fzs,hfz]
  simp only [aE] at hinv
  replace hfRd:=aB.mk hfRd
  simp only [↓pre,simprocAttr,aA,sx,m6,aD,aC,aI,aM,e0,e1,e10,e11,sr]
  refine xY hinv hfz1 ?_
  simp only [↓pre,simprocAttr,aA,sx,m6,aD,aC,aI,aM,e0,e1,e10,e11,s1,sr]
  rw [b7]
  refine b8 (fun q e m=>∃ j ld,q+j=k∧e 0=aE (k:Nat)∧e 1=aE (r:Nat)∧e 11=lf∧e 15=IV∧e 17=ld∧e 18=aE (j:Nat)∧aB (cH .var m 52 1 ld j (eJ L (j5 k at_ (f9 C)) 0 j)∧mJ m lf k (jP cells at_)∧tF m lf∧∀ b,cP ld=some b→∀ off n c f,lf ≠ .sl b off n c f)) k ⟨0,aP,by omega,e0,e1,e11,rfl,rfl,rfl,⟨gT,hHf,hOf,fun b h=>by cases h⟩⟩ ?_
  clear e0 e1 e10 e11
  rintro q e m ⟨j,ld,hq,e0,e1,e11,e15,e17,e18,hJ2⟩
  replace hq:=aB.mk hq
  obtain ⟨hod,hF,hO,hne⟩:=hJ2.out
  by_cases hlt:j < k
  ·have hlt':((j:Nat):Int) < ((k:Nat):Int):=by omega
   have wj:=cF (n:=j) (by omega)
   have hrow2:=yW true (w:=k) (lO k (kI k at_)) hlt
   obtain ⟨av2,m3,hfz3,hav3,hm3,hn3,hk3⟩:=hF.fz
   have hfs:fzs m [.tree k k (aZ k (lO k (kI k at_) j)) true,lf]=some ([.tree k k (aZ k (lO k (kI k at_) j)) true,av2],m3):=by
    simp [fzs,cA (lF k (aZ k (lO k (kI k at_) j)) true),hfz3]
   have hdot:=anh (.tree k k (aZ k (lO k (kI k at_) j)) true) av2 k L (lO k (kI k at_) j) (fun t=>f9 C (at_.getD t 0)) [] (jP cells at_) (by rw [List.append_nil];exact lF _ _ _) ⟨hav3,hfRd.out⟩ hk (by omega) hL2
   rw [show oK k (lO k (kI k at_) j) (fun t=>f9 C (at_.getD t 0))=j5 k at_ (f9 C) j from rfl] at hdot
   have t2:=lF L (aZ L (j5 k at_ (f9 C) j)) true
   have s2:=cK t2
   have hod3:cH .var m3 52 1 ld j (eJ L (j5 k at_ (f9 C)) 0 j):=hod.frz hn3 hk3 hne
   have hkw:mK m m3:=⟨hm3,Nat.le_of_eq hn3.symm,fun j k hj _=>by obtain ⟨wr,h,_⟩:=hk3 j k hj;exact ⟨wr,h⟩⟩
   have hF3:=hF.keep hkw hO
   have hO3:tF m3 lf:=fun b off n c f h=>by rw [hn3];exact hO b off n c f h
   have hcs:=ad5 L (j5 k at_ (f9 C)) 0 j
   rw [Nat.zero_add] at hcs
   simp only [aE] at hdot
   replace hcs:=aB.mk hcs
   replace hk3:=aB.mk hk3
   simp only [↓pre,simprocAttr,aA,sx,m6,aD,aC,aI,aM,e0,e1,e11,e15,e17,e18,hlt',hVb.addr',hlt,hrow2,sr]
   refine xY hdot hfs ?_
   simp only [↓pre,simprocAttr,aA,sx,m6,aD,aC,aI,aM,e0,e1,e11,e15,e17,e18,s2,yZ,sr]
   refine tE (kd := .var) (sz:=1) (y:=24) (zl:=[.slice none 0 0]) (by kernel_rfl) hod3 (by kernel_rfl) (by kernel_rfl) (by kernel_rfl) rfl mH rfl (by omega) (by omega) fun ld' m4 a1 b1 c1 d1 _ => ?_
   have hF4:mJ m4 lf k (jP cells at_):=by
    rcases hF3.form with h | ⟨b,off,c,f,kk,rfl,h2,h3,h4,h5⟩
    ·exact ⟨.inl h⟩
    ·exact ⟨.inr ⟨b,off,c,f,kk,rfl,c1 b kk h2 (hO3 _ _ _ _ _ rfl) (fun hb=>hne b hb _ _ _ _ rfl),h3,h4,h5⟩⟩
   have hO4:tF m4 lf:=fun b off n c f h=>Nat.lt_of_lt_of_le (hO3 b off n c f h) b1
   have hne4:∀ b,cP ld'=some b→∀ off n c f,lf ≠ .sl b off n c f:=fun b hb off n c f h=>by
    rcases d1 b hb with h1 | h1
    ·have:=hO3 _ _ _ _ _ h;omega
    ·exact hne b h1 _ _ _ _ h
   rw [←hcs.out] at a1
   replace a1:=aB.mk a1
   clear c1 d1
   simp only [↓pre,simprocAttr,aA,sx,m6,aD,aC,aI,aM,e0,e1,e11,e15,e17,e18,wj,sr]
   exact ⟨q - 1,by have:=hq.out;omega,j+1,ld',by have:=hq.out;omega,rfl,rfl,⟨a1.out,hF4,hO4,hne4⟩⟩
  ·have hlt':¬ ((j:Nat):Int) < ((k:Nat):Int):=by omega
   have hj:j=k:=by have:=hq.out;omega
   subst hj
   have hcp:=amh L (j5 j at_ (f9 C)) 0 j
   obtain ⟨av4,m4,hfz4,hav4,_⟩:=(x6 hod (.inr ⟨rfl,hcp⟩)).fz
   have hmd:=atY av4 j r 0 (j+r) L (j5 j at_ (f9 C)) (eJ L (j5 j at_ (f9 C)) 0 j) ⟨hav4,fun i hi=>⟨_,[],by have:=ad6 (L:=L) (F:=j5 j at_ (f9 C)) (a:=0) hi;rw [Nat.zero_add] at this;exact this,by rw [List.append_nil];exact lF _ _ _⟩⟩ hk hk2 hr (by omega) (by omega) hL2
   rw [Nat.zero_add,show ((0:Nat):Int)=0 from rfl] at hmd
   have t3:=lF (j+r) (eJ L (nO j (j5 j at_ (f9 C))) 0 (j+r)) false
   have s3:=cK t3
   have hfs:fzs m [.val (.int .i64 (j:Nat)),.val (.int .i64 (r:Nat)),.val (.int .i64 0),.val (.int .i64 (j+r:Nat)),ld]=some ([.val (.int .i64 (j:Nat)),.val (.int .i64 (r:Nat)),.val (.int .i64 0),.val (.int .i64 (j+r:Nat)),av4],m4):=by
    simp [fzs,fz,hfz4]
   simp only [aE] at hmd
   simp only [↓pre,simprocAttr,aA,sx,m6,aD,aC,aI,aM,e0,e1,e11,e15,e17,e18,hlt',w1,sr]
   refine xY hmd hfs ?_
   simp only [↓pre,simprocAttr,aA,sx,m6,aD,aC,aI,aM,e0,e1,e11,e15,e17,e18,s3,sr]
   exact ⟨0,by rw [kC,dT,x4,Option.bind_some,dT,fP,jC];rfl⟩
 ·refine b8 (fun q e m=>∃ i lm lf,q+i=k+r∧e 0=aE (k:Nat)∧e 1=aE (r:Nat)∧e 2=v∧e 10=lm∧e 11=lf∧e 12=aE (i:Nat)∧aB ((bV C i).length≤k∧cH .var m 52 1 lm (bV C i).length (mN k (bV C i))∧cH .var m 52 1 lf (bV C i).length (jP cells (bV C i))∧mK aH.empty m∧lY aH.empty lm∧lY aH.empty lf∧∀ b,cP lm=some b→cP lf≠some b)) (k+r) ⟨0,aP,aP,by omega,rfl,rfl,rfl,rfl,rfl,rfl,⟨by simp [bV],gT,gT,mK.refl _,x5 _,x5 _,fun b h=>by cases h⟩⟩ ?_
  rintro q e m ⟨i,lm,lf,hq,e0,e1,e2,e10,e11,e12,hJ⟩
  replace hq:=aB.mk hq
  obtain ⟨hle,hom,hof,hkp,hnm,hnf,hap⟩:=hJ.out
  have hfl:jT Tryz.prog 45 lf=some (.val (.int .i64 ((bV C i).length:Nat))):=by
   rcases hof.form with ⟨rfl,h,_⟩ | ⟨b,rfl,_⟩
   ·rw [h];kernel_rfl
   ·exact agx
  by_cases hlt:i < k+r
  ·have hlt':((i:Nat):Int) < ((k+r:Nat):Int):=by omega
   have wi:=cF (n:=i) (by omega)
   by_cases hfull:(bV C i).length < k
   ·have hfull':(((bV C i).length:Nat):Int) < ((k:Nat):Int):=by omega
    obtain ⟨b,hb⟩:∃ b,C[i]? = some b:=⟨_,List.getElem?_eq_getElem (by omega)⟩
    obtain ⟨ca,x,hca,hra⟩:=hv.at_ i b hb
    have hiC:i < C.length:=by omega
    have hts:=uZ C i
    rw [rO hb] at hts
    by_cases h0:b.length=0
    ·rw [if_neg (by omega),List.append_nil] at hts
     have h0':¬ (0:Int) < ((b.length:Nat):Int):=by omega
     replace hb:=aB.mk hb
     replace hts:=aB.mk hts
     simp only [↓pre,simprocAttr,aA,sx,m6,aD,aC,aI,aM,e0,e1,e2,e10,e11,e12,w1,hlt',hfl,hfull',hiC,hv.rd.addr',hca,hra.len',h0',wi,sr]
     exact ⟨q - 1,by have:=hq.out;omega,i+1,lm,lf,by have:=hq.out;omega,rfl,rfl,rfl,⟨by rw [hts.out];exact hJ.out⟩⟩
    ·rw [if_pos h0] at hts
     have h0':(0:Int) < ((b.length:Nat):Int):=by omega
     have hts2:(bV C (i+1)).length=(bV C i).length+1:=by rw [hts,List.length_append];rfl
     obtain ⟨cc,f,rfl,_⟩:∃ cc f,ca = .tree b.length cc (b.map aU++x) f∧b.length≤cc:=by
      rcases hra.form with ⟨_,h⟩ | ⟨_,_,_,h⟩ | h
      ·omega
      ·omega
      ·exact h
     have hrA:mN k (bV C (i+1))=mN k (bV C i)++[.tree k k (aZ k (eX k i)) true]:=by rw [hts];unfold mN;rw [List.map_append];rfl
     have hpA:jP cells (bV C (i+1))=jP cells (bV C i)++[.tree b.length cc (b.map aU++x) f]:=by
      rw [hts];unfold jP;rw [List.map_append,List.map_cons,List.map_nil,List.getD_eq_getElem?_getD,hca];rfl
     have hri:=hrow.out i hlt
     have t1:=lF k (aZ k (eX k i)) true
     have s1:=cK t1
     simp only [aE] at hri
     replace hb:=aB.mk hb
     replace hts:=aB.mk hts
     replace hts2:=aB.mk hts2
     replace hrA:=aB.mk hrA
     replace hpA:=aB.mk hpA
     simp only [↓pre,simprocAttr,aA,sx,m6,aD,aC,aI,aM,e0,e1,e2,e10,e11,e12,w1,hlt',hfl,hfull',hiC,hv.rd.addr',hca,hra.len',h0',sr]
     refine aL (hri) (by rfl) ?_;simp only [↓pre,simprocAttr,aA,sx,m6,aD,aC,aI,aM,e0,e1,e2,e10,e11,e12,s1,yZ,sr]
     refine adl (m0:=aH.empty) (kd := .var) (sz:=1) (y:=24) (zl:=[.slice none 0 0]) (by kernel_rfl) hom (by kernel_rfl) (by kernel_rfl) (by kernel_rfl) rfl mH rfl (by omega) (by omega) hkp hnm ?_
     intro lm' m' hom' hkp' hnm' hnx hbl' hkeep
     obtain ⟨hof',hap'⟩:=hof.beside hnx hbl' hkeep fun b hb h=>hap b h hb
     simp only [↓pre,simprocAttr,aA,sx,m6,aD,aC,aI,aM,e0,e1,e2,e10,e11,e12,hiC,hv.rd.addr',hca,yZ,sr]
     refine adl (m0:=aH.empty) (kd := .var) (sz:=1) (y:=24) (zl:=[.slice none 0 0]) (by kernel_rfl) hof' (by kernel_rfl) (by kernel_rfl) (by kernel_rfl) rfl mH rfl (by omega) (by omega) hkp' hnf ?_
     intro lf' m'' hof'' hkp'' hnf'' hnx2 hbl2 hkeep2
     obtain ⟨hom'',hap''⟩:=hom'.beside hnx2 hbl2 hkeep2 fun b hb h=>hap' b h hb
     have hfin:(bV C (i+1)).length≤k∧cH .var m'' 52 1 lm' (bV C (i+1)).length (mN k (bV C (i+1)))∧cH .var m'' 52 1 lf' (bV C (i+1)).length (jP cells (bV C (i+1)))∧mK aH.empty m''∧lY aH.empty lm'∧lY aH.empty lf'∧∀ b,cP lm'=some b→cP lf'≠some b:=by
      rw [hts2.out,hrA.out,hpA.out]
      exact ⟨by omega,hom'',hof'',hkp'',hnm',hnf'',hap''⟩
     replace hfin:=aB.mk hfin
     simp only [↓pre,simprocAttr,aA,sx,m6,aD,aC,aI,aM,e0,e1,e2,e10,e11,e12,wi,sr]
     exact ⟨q - 1,by have:=hq.out;omega,i+1,lm',lf',by have:=hq.out;omega,rfl,rfl,rfl,hfin⟩
   ·have hfull':¬ (((bV C i).length:Nat):Int) < ((k:Nat):Int):=by omega
    have hlk:(bV C i).length=k:=by omega
    have hti:=htl.out i (by omega) hle
    rw [hlk,List.take_of_length_le (by omega)] at hti
    rw [hlk,hti] at hom hof
    replace hti:=aB.mk hti
    simp only [↓pre,simprocAttr,aA,sx,m6,aD,aC,aI,aM,e0,e1,e2,e10,e11,e12,w1,hlt',hfl,hfull',sr]
    exact ⟨lm,lf,rfl,rfl,⟨hom,hof,hap⟩⟩
  ·have hlt':¬ ((i:Nat):Int) < ((k+r:Nat):Int):=by omega
   have hi:i=k+r:=by have:=hq.out;omega
   rw [hi] at hle hom hof
   have hlk:(bV C (k+r)).length=k:=by omega
   have hti:bV C (k+r)=at_:=by rw [←hat.out,List.take_of_length_le (by omega)]
   rw [hlk,hti] at hom hof
   replace hti:=aB.mk hti
   simp only [↓pre,simprocAttr,aA,sx,m6,aD,aC,aI,aM,e0,e1,e2,e10,e11,e12,w1,hlt',sr]
   exact ⟨lm,lf,rfl,rfl,⟨hom,hof,hap⟩⟩
structure OfR (k r c w ix:Int) (bs:List UInt8) (kd i0 ce st:Int) (vv dv:AV):Prop where
 r1:∃ n y,bD vv n y
 r2:∃ n y,bD dv n y
 is:gQ k r c w bs ix=true→kd=(cR k r bs).kd∧ce=(cR k r bs).ce∧st=(cR k r bs).st∧vv=rR (some (cR k r bs).vec)∧dv = .tree (cR k r bs).data.length (cR k r bs).data.length (aQ (cR k r bs).data) false
theorem aeq (k r c w ix:Int) (v:AV) (bs:List UInt8) (x:List AV) (hv:bD v bs.length (aQ bs++x)) (hm:bL k r c w=true):∃ kd i0 ce st vv dv,aY Tryz.prog 227 [aA k r c w,v,aE ix] ⟨.tup [.agg [.val (.int .u8 kd),.val (.int .i64 i0),.val (.int .i64 ce),.val (.int .i64 st),vv,dv],bC (gQ k r c w bs ix)],[]⟩∧OfR k r c w ix bs kd i0 ce st vv dv:=by
 have h:=ak4 k r c w ix v bs x hv hm
 cases hs:gQ k r c w bs ix with
 | false =>
  rw [hs,if_neg (by decide)] at h
  exact ⟨0,0,0,0,aP,aP,h,⟨⟨0,[],⟨.inl ⟨rfl,rfl⟩⟩⟩,⟨0,[],⟨.inl ⟨rfl,rfl⟩⟩⟩,fun h=>by rw [hs] at h;cases h⟩⟩
 | true =>
  rw [hs,if_pos rfl] at h
  exact ⟨_,_,_,_,_,_,h,⟨⟨_,_,lF _ _ _⟩,⟨_,_,lF _ _ _⟩,fun _=>⟨rfl,rfl,rfl,rfl,rfl⟩⟩⟩
theorem ano (k r c w:Int) (bs:List UInt8) (ix kd ver:Int):j6 k r c w bs ix kd ver=(gQ k r c w bs ix && (decide ((cR k r bs).kd=kd) && decide ((cR k r bs).ce=ver))):=by
 unfold j6 nA
 cases h:gQ k r c w bs ix with
 | false=>rfl
 | true =>
  have h2:eN k r c w bs=true:=by
   unfold gQ at h
   rw [Bool.and_eq_true] at h
   exact h.1
  unfold fH
  rw [if_pos h2]
  rfl
def vE (k r c w:Int) (p:bN) (ix kd ver:Int):Int:=if j6 k r c w p.1 ix kd ver=true then 0 else if j6 k r c w p.2 ix kd ver=true then 1 else -1
def nS:Nat→Bool:=fun d=>d != 12
theorem at0 (k r c w kd ix ver:Int) (a b:AV) (p:bN) (xa xb:List AV) (ha:bD a p.1.length (aQ p.1++xa)) (hb:bD b p.2.length (aQ p.2++xb)) (hm:bL k r c w=true):aY Tryz.prog 226 [aA k r c w,.agg [a,b],.val (.int .u8 kd),aE ix,aE ver] ⟨aE (vE k r c w p ix kd ver),[]⟩:=by
 refine dY ?_
 have hof:∀ i:Nat,i < 2→∃ vi,[a,b][i]? = some vi∧plain vi=true∧∃ kd' i0 ce st vv dv,aY Tryz.prog 227 [aA k r c w,vi,aE ix] ⟨.tup [.agg [.val (.int .u8 kd'),.val (.int .i64 i0),.val (.int .i64 ce),.val (.int .i64 st),vv,dv],bC (gQ k r c w (if i=0 then p.1 else p.2) ix)],[]⟩∧OfR k r c w ix (if i=0 then p.1 else p.2) kd' i0 ce st vv dv:=fun i hi=>by
  obtain rfl | rfl:i=0∨i=1:=by omega
  ·exact ⟨a,rfl,ha.plain,aeq k r c w ix a p.1 xa ha hm⟩
  ·exact ⟨b,rfl,hb.plain,aeq k r c w ix b p.2 xb hb hm⟩
 replace hof:=aB.mk hof
 have fa:=cA ha
 have fb:=cA hb
 have oa:=bP ha
 have ob:=bP hb
 have hres:∀ i:Nat,i < 2→(∀ j,j < i→j6 k r c w (if j=0 then p.1 else p.2) ix kd ver=false)→j6 k r c w (if i=0 then p.1 else p.2) ix kd ver=true→vE k r c w p ix kd ver=(i:Nat):=fun i hi h1 h2=>by
  unfold vE
  obtain rfl | rfl:i=0∨i=1:=by omega
  ·rw [if_pos rfl] at h2
   rw [if_pos h2]
   rfl
  ·rw [if_neg (by decide)] at h2
   have:=h1 0 (by omega)
   rw [if_pos rfl] at this
   rw [if_neg (by rw [this];decide),if_pos h2]
   rfl
 have hno:(∀ j,j < 2→j6 k r c w (if j=0 then p.1 else p.2) ix kd ver=false)→vE k r c w p ix kd ver = -1:=fun h1=>by
  have h2:=h1 0 (by omega)
  have h3:=h1 1 (by omega)
  rw [if_pos rfl] at h2
  rw [if_neg (by decide)] at h3
  unfold vE
  rw [if_neg (by rw [h2];decide),if_neg (by rw [h3];decide)]
 generalize hH:vE k r c w p ix kd ver=HI at *
 replace hres:=aB.mk hres
 replace hno:=aB.mk hno
 refine bJ follows Tryz.func226 (by unfold Tryz.f226;rfl) (by unfold Tryz.f226;simp) nS (by unfold Tryz.f226;simp) (by kernel_rfl) ?_;unfold Tryz.f226
 simp only [↓pre,simprocAttr,aA,sx,oG,nS,bne,aC,aI,aM,aJ,aK,aF,aG,fa,fb,oa,ob,sr]
 rw [b7]
 refine b8 (fun q e m=>∃ i,q+i=2∧e 2 = .val (.int .u8 kd)∧e 3=aE ix∧e 4=aE ver∧e 5 = .tptr 0 [aE k,aE r,aE c,aE w]∧e 6 = .tptr 0 [a,b]∧e 11=aE (i:Nat)∧aB (∀ j,j < i→j6 k r c w (if j=0 then p.1 else p.2) ix kd ver=false)) 2 ⟨0,by omega,rfl,rfl,rfl,rfl,rfl,rfl,⟨fun j hj=>by omega⟩⟩ ?_
 rintro q e m ⟨i,hq,e2,e3,e4,e5,e6,e11,hJ⟩
 replace hq:=aB.mk hq
 by_cases hlt:i < 2
 ·have hlt':((i:Nat):Int) < 2:=by omega
  have wi:=cF (n:=i) (by omega)
  obtain ⟨vi,hvi,hpl,kd',i0,ce,st,vv,dv,hO,hOf⟩:=hof.out i hlt
  obtain ⟨n1,y1,g1⟩:=hOf.r1
  obtain ⟨n2,y2,g2⟩:=hOf.r2
  have f1:=cA g1
  have f2:=cA g2
  have q1:=bP g1
  have q2:=bP g2
  have t1:=cK g1
  have t2:=cK g2
  have hst:=ano k r c w (if i=0 then p.1 else p.2) ix kd ver
  have his:=hOf.is
  have hR:=fun h1 h2=>hres.out i hlt h1 h2
  have hnext:j6 k r c w (if i=0 then p.1 else p.2) ix kd ver=false→∀ j,j < i+1→j6 k r c w (if j=0 then p.1 else p.2) ix kd ver=false:=fun h j hj=>by
   by_cases e:j=i
   ·subst e;exact h
   ·exact hJ.out j (by omega)
  simp only [aE] at hO
  generalize gQ k r c w (if i=0 then p.1 else p.2) ix=B at *
  generalize j6 k r c w (if i=0 then p.1 else p.2) ix kd ver=H at *
  replace his:=aB.mk his
  replace hR:=aB.mk hR
  replace hnext:=aB.mk hnext
  replace hOf:=aB.mk hOf
  simp only [↓pre,simprocAttr,aA,sx,oG,nS,bne,aC,aI,aM,aJ,aK,aF,aG,fa,fb,oa,ob,e2,e3,e4,e5,e6,e11,f1,f2,q1,q2,t1,t2,hlt',hlt,hvi,sr]
  cases B with
  | false =>
   rw [Bool.false_and] at hst
   replace hst:=aB.mk hst
   (refine bM (hO) (by simp only [aA,aO, *]) (by intro k;simp only [sq,sr, *]) ?_);simp only [↓pre,simprocAttr,aA,sx,oG,nS,bne,aC,aI,aM,aJ,aK,aF,aG,fa,fb,oa,ob,e2,e3,e4,e5,e6,e11,f1,f2,q1,q2,t1,t2,wi,sr]
   refine mG (by kernel_rfl) ?_
   simp only [↓pre,simprocAttr,aA,sx,oG,nS,bne,aC,aI,aM,aJ,aK,aF,aG,fa,fb,oa,ob,e2,e3,e4,e5,e6,e11,f1,f2,q1,q2,t1,t2,wi,sr]
   refine cU (by kernel_rfl) ?_
   simp only [↓pre,simprocAttr,aA,sx,oG,nS,bne,aC,aI,aM,aJ,aK,aF,aG,fa,fb,oa,ob,e2,e3,e4,e5,e6,e11,f1,f2,q1,q2,t1,t2,wi,sr]
   exact ⟨q - 1,by have:=hq.out;omega,i+1,by have:=hq.out;omega,rfl,⟨hnext.out hst.out⟩⟩
  | true =>
   obtain ⟨u1,u2,u3,u4,u5⟩:=his.out rfl
   replace u4:=aB.mk u4
   replace u5:=aB.mk u5
   rw [Bool.true_and,←u1,←u2] at hst
   replace u1:=aB.mk u1
   replace u2:=aB.mk u2
   replace u3:=aB.mk u3
   by_cases h1:kd'=kd
   ·by_cases h2:ce=ver
    ·rw [decide_eq_true h1,decide_eq_true h2] at hst
     replace hst:=aB.mk hst
     (refine bM (hO) (by simp only [aA,aO, *]) (by intro k;simp only [sq,sr, *]) ?_);simp only [↓pre,simprocAttr,aA,sx,oG,nS,bne,aC,aI,aM,aJ,aK,aF,aG,fa,fb,oa,ob,e2,e3,e4,e5,e6,e11,f1,f2,q1,q2,t1,t2,h1,h2,sr]
     refine mG (by kernel_rfl) ?_
     simp only [↓pre,simprocAttr,aA,sx,oG,nS,bne,aC,aI,aM,aJ,aK,aF,aG,fa,fb,oa,ob,e2,e3,e4,e5,e6,e11,f1,f2,q1,q2,t1,t2,h1,h2,sr]
     refine cU (by kernel_rfl) ?_
     simp only [↓pre,simprocAttr,aA,sx,oG,nS,bne,aC,aI,aM,aJ,aK,aF,aG,fa,fb,oa,ob,e2,e3,e4,e5,e6,e11,f1,f2,q1,q2,t1,t2,h1,h2,sr]
     exact ⟨0,by rw [hR.out hJ.out hst.out,fP]⟩
    ·rw [decide_eq_true h1,decide_eq_false h2] at hst
     replace hst:=aB.mk hst
     (refine bM (hO) (by simp only [aA,aO, *]) (by intro k;simp only [sq,sr, *]) ?_);simp only [↓pre,simprocAttr,aA,sx,oG,nS,bne,aC,aI,aM,aJ,aK,aF,aG,fa,fb,oa,ob,e2,e3,e4,e5,e6,e11,f1,f2,q1,q2,t1,t2,h1,h2,wi,sr]
     refine mG (by kernel_rfl) ?_
     simp only [↓pre,simprocAttr,aA,sx,oG,nS,bne,aC,aI,aM,aJ,aK,aF,aG,fa,fb,oa,ob,e2,e3,e4,e5,e6,e11,f1,f2,q1,q2,t1,t2,h1,h2,wi,sr]
     refine cU (by kernel_rfl) ?_
     simp only [↓pre,simprocAttr,aA,sx,oG,nS,bne,aC,aI,aM,aJ,aK,aF,aG,fa,fb,oa,ob,e2,e3,e4,e5,e6,e11,f1,f2,q1,q2,t1,t2,h1,h2,wi,sr]
     exact ⟨q - 1,by have:=hq.out;omega,i+1,by have:=hq.out;omega,rfl,⟨hnext.out hst.out⟩⟩
   ·rw [decide_eq_false h1,Bool.false_and] at hst
    replace hst:=aB.mk hst
    (refine bM (hO) (by simp only [aA,aO, *]) (by intro k;simp only [sq,sr, *]) ?_);simp only [↓pre,simprocAttr,aA,sx,oG,nS,bne,aC,aI,aM,aJ,aK,aF,aG,fa,fb,oa,ob,e2,e3,e4,e5,e6,e11,f1,f2,q1,q2,t1,t2,h1,wi,sr]
    refine mG (by kernel_rfl) ?_
    simp only [↓pre,simprocAttr,aA,sx,oG,nS,bne,aC,aI,aM,aJ,aK,aF,aG,fa,fb,oa,ob,e2,e3,e4,e5,e6,e11,f1,f2,q1,q2,t1,t2,h1,wi,sr]
    refine cU (by kernel_rfl) ?_
    simp only [↓pre,simprocAttr,aA,sx,oG,nS,bne,aC,aI,aM,aJ,aK,aF,aG,fa,fb,oa,ob,e2,e3,e4,e5,e6,e11,f1,f2,q1,q2,t1,t2,h1,wi,sr]
    exact ⟨q - 1,by have:=hq.out;omega,i+1,by have:=hq.out;omega,rfl,⟨hnext.out hst.out⟩⟩
 ·have hlt':¬ ((i:Nat):Int) < 2:=by omega
  have hi:i=2:=by have:=hq.out;omega
  subst hi
  have:=hno.out hJ.out
  simp only [↓pre,simprocAttr,aA,sx,oG,nS,bne,aC,aI,aM,aJ,aK,aF,aG,fa,fb,oa,ob,e2,e3,e4,e5,e6,e11,hlt',sr]
  exact ⟨0,by rw [this,fP]⟩
theorem at1 (k r c w:Int) (bs:List UInt8) (ix kd ver:Int):jG k r c w bs ix kd ver=(gQ k r c w bs ix && (decide ((cR k r bs).kd=kd) && decide ((cR k r bs).st=ver))):=by
 unfold jG gQ
 cases h:eN k r c w bs with
 | false=>rfl
 | true =>
  unfold fH
  rw [if_pos h,Bool.true_and,Bool.true_and]
  show (decide ((cR k r bs).kd=kd) && (decide ((cR k r bs).ix=ix) && decide ((cR k r bs).st=ver)))=_
  cases decide ((cR k r bs).kd=kd) <;> cases decide ((cR k r bs).ix=ix) <;> rfl
def sel (p:bN) (i:Nat):List UInt8:=if i=0 then p.1 else p.2
theorem anp {k r c w:Int} {v:AV} {ps:List bN} {cells:List AV} (hv:fQ v ps cells) (hm:bL k r c w=true) {i:Nat} {p:bN} (hp:ps[i]? = some p) (ix:Int) (kk:Nat) (hk:kk < 2):∃ vi,cells[i*2+kk]? = some vi∧plain vi=true∧∃ kd i0 ce st vv dv,aY Tryz.prog 227 [aA k r c w,vi,aE ix] ⟨.tup [.agg [.val (.int .u8 kd),.val (.int .i64 i0),.val (.int .i64 ce),.val (.int .i64 st),vv,dv],bC (gQ k r c w (sel p kk) ix)],[]⟩∧OfR k r c w ix (sel p kk) kd i0 ce st vv dv:=by
 obtain ⟨a,b,xa,xb,ha,hb,hra,hrb⟩:=hv.at_ i p hp
 obtain rfl | rfl:kk=0∨kk=1:=by omega
 ·exact ⟨a,ha,hra.plain,aeq k r c w ix a p.1 xa hra hm⟩
 ·exact ⟨b,hb,hrb.plain,aeq k r c w ix b p.2 xb hrb hm⟩
def mP:Nat→Bool:=fun d=>d != 11
theorem at2 (k r c w kd ver:Int) (v:AV) (ps:List bN) (cells:List AV) (hv:fQ v ps cells) (hm:bL k r c w=true) (hn:ps.length≤1000):aY Tryz.prog 208 [aA k r c w,v,.val (.int .u8 kd),aE ver] ⟨rR (iE k r c w ps kd ver),[]⟩:=by
 refine dY ?_
 have hp:=hv.rd.plain
 generalize hres:iE k r c w ps kd ver=T
 replace hres:=aB.mk hres
 replace hn:=aB.mk hn
 have hat:=fun {i p} h ix kk hk=>anp (k:=k) (r:=r) (c:=c) (w:=w) hv hm (i:=i) (p:=p) h ix kk hk
 replace hat:=aB.mk @hat
 refine bJ follows Tryz.func208 (by unfold Tryz.f208;rfl) (by unfold Tryz.f208;simp) mP (by unfold Tryz.f208;simp) (by kernel_rfl) ?_;unfold Tryz.f208
 simp only [↓pre,simprocAttr,aA,sx,mY,mP,bne,aC,aI,aM,aJ,aK,aF,aG,sr]
 rw [b7]
 refine b8 (fun q e m=>∃ i,q+i=ps.length∧e 1=v∧e 2 = .val (.int .u8 kd)∧e 3=aE ver∧e 4 = .tptr 0 [aE k,aE r,aE c,aE w]∧e 9=aE (i:Nat)∧aB (oP k r c w ps kd ver i=none)) ps.length ⟨0,by omega,rfl,rfl,rfl,rfl,rfl,⟨rfl⟩⟩ ?_
 rintro q e m ⟨i,hq,e1,e2,e3,e4,e9,hJ⟩
 replace hq:=aB.mk hq
 by_cases hlt:i < ps.length
 ·have hlt':((i:Nat):Int) < ((ps.length:Nat):Int):=by omega
  have wi:=cF (n:=i) (by have:=hn.out;omega)
  obtain ⟨p,hpi⟩:∃ p,ps[i]? = some p:=⟨_,List.getElem?_eq_getElem hlt⟩
  have hgd:ps.getD i ([],[])=p:=by rw [List.getD_eq_getElem?_getD,hpi];rfl
  have hstep:oP k r c w ps kd ver (i+1)=rQ k r c w p (i:Nat) kd ver:=by
   show (oP k r c w ps kd ver i).or _=_
   rw [hJ.out,hgd]
   rfl
  have hdone:∀ l,rQ k r c w p (i:Nat) kd ver=some l→T=some l:=fun l h=>by
   rw [←hres.out]
   exact agB (hstep.trans h) _ (by omega)
  have hhit:∀ kk:Nat,kk < 2→(∀ j,j < kk→jG k r c w (sel p j) (i:Nat) kd ver=false)→jG k r c w (sel p kk) (i:Nat) kd ver=true→T=some (cR k r (sel p kk)).vec:=fun kk hk h1 h2=>hdone _ (by
   unfold rQ
   obtain rfl | rfl:kk=0∨kk=1:=by omega
   ·have h2:jG k r c w p.1 (i:Nat) kd ver=true:=h2
    rw [if_pos h2];rfl
   ·have h1:jG k r c w p.1 (i:Nat) kd ver=false:=h1 0 (by omega)
    have h2:jG k r c w p.2 (i:Nat) kd ver=true:=h2
    rw [if_neg (by rw [h1];decide),if_pos h2];rfl)
  have hnone:(∀ j,j < 2→jG k r c w (sel p j) (i:Nat) kd ver=false)→oP k r c w ps kd ver (i+1)=none:=fun h1=>by
   rw [hstep]
   unfold rQ
   have h2:jG k r c w p.1 (i:Nat) kd ver=false:=h1 0 (by omega)
   have h3:jG k r c w p.2 (i:Nat) kd ver=false:=h1 1 (by omega)
   rw [if_neg (by rw [h2];decide),if_neg (by rw [h3];decide)]
  have hof:=fun kk hk=>hat.out hpi (i:Nat) kk hk
  clear hstep hdone
  replace hof:=aB.mk hof
  replace hpi:=aB.mk hpi
  replace hgd:=aB.mk hgd
  replace hhit:=aB.mk hhit
  replace hnone:=aB.mk hnone
  simp only [↓pre,simprocAttr,aA,sx,mY,mP,bne,aC,aI,aM,aJ,aK,aF,aG,e1,e2,e3,e4,e9,hlt',hv.rd.len',sr]
  rw [b7]
  refine b8 (fun q2 e m=>∃ kk,q2+kk=2∧e 1=v∧e 2 = .val (.int .u8 kd)∧e 3=aE ver∧e 4 = .tptr 0 [aE k,aE r,aE c,aE w]∧e 9=aE (i:Nat)∧e 10=aE (kk:Nat)∧aB (∀ j,j < kk→jG k r c w (sel p j) (i:Nat) kd ver=false)) 2 ⟨0,by omega,e1,e2,e3,e4,e9,rfl,⟨fun j hj=>by omega⟩⟩ ?_
  clear e1 e2 e3 e4 e9 
  rintro u e m ⟨kk,hq2,e1,e2,e3,e4,e9,e10,hJ2⟩
  replace hq2:=aB.mk hq2
  by_cases hl2:kk < 2
  ·have hl2':((kk:Nat):Int) < 2:=by omega
   have wk:=cF (n:=kk) (by omega)
   obtain ⟨vi,hvi,hpl,kd',i0,ce,st,vv,dv,hO,hOf⟩:=hof.out kk hl2
   obtain ⟨n1,y1,g1⟩:=hOf.r1
   obtain ⟨n2,y2,g2⟩:=hOf.r2
   have f1:=cA g1
   have f2:=cA g2
   have q1:=bP g1
   have q2:=bP g2
   have t1:=cK g1
   have t2:=cK g2
   have hst:=at1 k r c w (sel p kk) (i:Nat) kd ver
   have his:=hOf.is
   have hR:=fun h1 h2=>hhit.out kk hl2 h1 h2
   have hnext:jG k r c w (sel p kk) (i:Nat) kd ver=false→∀ j,j < kk+1→jG k r c w (sel p j) (i:Nat) kd ver=false:=fun h j hj=>by
    by_cases e:j=kk
    ·subst e;exact h
    ·exact hJ2.out j (by omega)
   simp only [aE] at hO
   generalize gQ k r c w (sel p kk) (i:Nat)=B at *
   generalize jG k r c w (sel p kk) (i:Nat) kd ver=H at *
   replace his:=aB.mk his
   replace hR:=aB.mk hR
   replace hnext:=aB.mk hnext
   replace hOf:=aB.mk hOf
   simp only [↓pre,simprocAttr,aA,sx,mY,mP,bne,aC,aI,aM,aJ,aK,aF,aG,e1,e2,e3,e4,e9,e10,f1,f2,q1,q2,t1,t2,hl2',hv.rd.addr',hlt,hl2,hvi,sr]
   cases B with
   | false =>
    rw [Bool.false_and] at hst
    replace hst:=aB.mk hst
    (refine bM (hO) (by simp only [aA,aO, *]) (by intro k;simp only [sq,sr, *]) ?_);simp only [↓pre,simprocAttr,aA,sx,mY,mP,bne,aC,aI,aM,aJ,aK,aF,aG,e1,e2,e3,e4,e9,e10,f1,f2,q1,q2,t1,t2,wk,sr]
    refine mG (by kernel_rfl) ?_
    simp only [↓pre,simprocAttr,aA,sx,mY,mP,bne,aC,aI,aM,aJ,aK,aF,aG,e1,e2,e3,e4,e9,e10,f1,f2,q1,q2,t1,t2,wk,sr]
    refine cU (by kernel_rfl) ?_
    simp only [↓pre,simprocAttr,aA,sx,mY,mP,bne,aC,aI,aM,aJ,aK,aF,aG,e1,e2,e3,e4,e9,e10,f1,f2,q1,q2,t1,t2,wk,sr]
    exact ⟨u - 1,by have:=hq2.out;omega,kk+1,by have:=hq2.out;omega,rfl,⟨hnext.out hst.out⟩⟩
   | true =>
    obtain ⟨u1,u2,u3,u4,_⟩:=his.out rfl
    rw [Bool.true_and,←u1,←u3] at hst
    replace u1:=aB.mk u1
    replace u2:=aB.mk u2
    replace u3:=aB.mk u3
    replace u4:=aB.mk u4
    by_cases h1:kd'=kd
    ·by_cases h2:st=ver
     ·rw [decide_eq_true h1,decide_eq_true h2] at hst
      replace hst:=aB.mk hst
      (refine bM (hO) (by simp only [aA,aO, *]) (by intro k;simp only [sq,sr, *]) ?_);simp only [↓pre,simprocAttr,aA,sx,mY,mP,bne,aC,aI,aM,aJ,aK,aF,aG,e1,e2,e3,e4,e9,e10,f1,f2,q1,q2,t1,t2,h1,h2,sr]
      refine mG (by kernel_rfl) ?_
      simp only [↓pre,simprocAttr,aA,sx,mY,mP,bne,aC,aI,aM,aJ,aK,aF,aG,e1,e2,e3,e4,e9,e10,f1,f2,q1,q2,t1,t2,h1,h2,sr]
      refine cU (by kernel_rfl) ?_
      simp only [↓pre,simprocAttr,aA,sx,mY,mP,bne,aC,aI,aM,aJ,aK,aF,aG,e1,e2,e3,e4,e9,e10,f1,f2,q1,q2,t1,t2,h1,h2,sr]
      exact ⟨0,by rw [hR.out hJ2.out hst.out,←u4.out];exact aac g1⟩
     ·rw [decide_eq_true h1,decide_eq_false h2] at hst
      replace hst:=aB.mk hst
      (refine bM (hO) (by simp only [aA,aO, *]) (by intro k;simp only [sq,sr, *]) ?_);simp only [↓pre,simprocAttr,aA,sx,mY,mP,bne,aC,aI,aM,aJ,aK,aF,aG,e1,e2,e3,e4,e9,e10,f1,f2,q1,q2,t1,t2,h1,h2,wk,sr]
      refine mG (by kernel_rfl) ?_
      simp only [↓pre,simprocAttr,aA,sx,mY,mP,bne,aC,aI,aM,aJ,aK,aF,aG,e1,e2,e3,e4,e9,e10,f1,f2,q1,q2,t1,t2,h1,h2,wk,sr]
      refine cU (by kernel_rfl) ?_
      simp only [↓pre,simprocAttr,aA,sx,mY,mP,bne,aC,aI,aM,aJ,aK,aF,aG,e1,e2,e3,e4,e9,e10,f1,f2,q1,q2,t1,t2,h1,h2,wk,sr]
      exact ⟨u - 1,by have:=hq2.out;omega,kk+1,by have:=hq2.out;omega,rfl,⟨hnext.out hst.out⟩⟩
    ·rw [decide_eq_false h1,Bool.false_and] at hst
     replace hst:=aB.mk hst
     (refine bM (hO) (by simp only [aA,aO, *]) (by intro k;simp only [sq,sr, *]) ?_);simp only [↓pre,simprocAttr,aA,sx,mY,mP,bne,aC,aI,aM,aJ,aK,aF,aG,e1,e2,e3,e4,e9,e10,f1,f2,q1,q2,t1,t2,h1,wk,sr]
     refine mG (by kernel_rfl) ?_
     simp only [↓pre,simprocAttr,aA,sx,mY,mP,bne,aC,aI,aM,aJ,aK,aF,aG,e1,e2,e3,e4,e9,e10,f1,f2,q1,q2,t1,t2,h1,wk,sr]
     refine cU (by kernel_rfl) ?_
     simp only [↓pre,simprocAttr,aA,sx,mY,mP,bne,aC,aI,aM,aJ,aK,aF,aG,e1,e2,e3,e4,e9,e10,f1,f2,q1,q2,t1,t2,h1,wk,sr]
     exact ⟨u - 1,by have:=hq2.out;omega,kk+1,by have:=hq2.out;omega,rfl,⟨hnext.out hst.out⟩⟩
  ·have hl2':¬ ((kk:Nat):Int) < 2:=by omega
   have hk:kk=2:=by have:=hq2.out;omega
   subst hk
   have hno:=hnone.out hJ2.out
   replace hno:=aB.mk hno
   simp only [↓pre,simprocAttr,aA,sx,mY,mP,bne,aC,aI,aM,aJ,aK,aF,aG,e1,e2,e3,e4,e9,e10,hl2',wi,sr]
   exact ⟨q - 1,by have:=hq.out;omega,i+1,by have:=hq.out;omega,rfl,hno⟩
 ·have hlt':¬ ((i:Nat):Int) < ((ps.length:Nat):Int):=by omega
  have hi:i=ps.length:=by have:=hq.out;omega
  have hT:T=none:=by rw [←hres.out];unfold iE;rw [←hi];exact hJ.out
  subst hT
  simp only [↓pre,simprocAttr,aA,sx,mY,mP,bne,aC,aI,aM,aJ,aK,aF,aG,e1,e2,e3,e4,e9,hlt',hv.rd.len',sr]
  exact ⟨0,by unfold rR aP;rw [fP]⟩
theorem at3 (k r c w:Int) (p:bN) (ix kd ver:Int):(vE k r c w p ix kd ver = -1∧mC k r c w p ix kd ver=[])∨∃ kk:Nat,kk < 2∧vE k r c w p ix kd ver=(kk:Nat)∧gQ k r c w (sel p kk) ix=true∧mC k r c w p ix kd ver=(cR k r (sel p kk)).data∧((mC k r c w p ix kd ver).length:Int)=c:=by
 have hs:∀ bs,j6 k r c w bs ix kd ver=true→gQ k r c w bs ix=true:=fun bs h=>by
  rw [ano,Bool.and_eq_true] at h
  exact h.1
 have hl:∀ s,nB k r c w p ix kd ver=some s→((mC k r c w p ix kd ver).length:Int)=c:=fun s h=>(agE h).1
 unfold vE
 by_cases h1:j6 k r c w p.1 ix kd ver=true
 ·refine .inr ⟨0,by omega,by rw [if_pos h1];rfl,hs _ h1, ?_,hl (fH k r c w p.1) (by unfold nB;rw [if_pos h1])⟩
  unfold mC
  rw [if_pos h1]
  rfl
 ·by_cases h2:j6 k r c w p.2 ix kd ver=true
  ·refine .inr ⟨1,by omega,by rw [if_neg h1,if_pos h2];rfl,hs _ h2, ?_,hl (fH k r c w p.2) (by unfold nB;rw [if_neg h1,if_pos h2])⟩
   unfold mC
   rw [if_neg h1,if_pos h2]
   rfl
  ·refine .inl ⟨by rw [if_neg h1,if_neg h2], ?_⟩
   unfold mC
   rw [if_neg h1,if_neg h2]
theorem at4 (T:Option (List Int)):bD (rR T) (T.getD []).length (cJ (T.getD [])++[]):=by
 cases T with
 | none=>exact ⟨.inl ⟨rfl,rfl⟩⟩
 | some l=>rw [List.append_nil];exact lF _ _ _
def s8:Nat→Bool:=fun d=>d != 15
set_option maxHeartbeats 1000000 in
theorem at5 (k r c w kd ver:Int) (v:AV) (ps:List bN) (cells:List AV) (hv:fQ v ps cells) (hm:bL k r c w=true) (hr:dO k r c ps=true):aY Tryz.prog 146 [aA k r c w,v,.val (.int .u8 kd),aE ver] ⟨.tup [.tree ps.length ps.length (fB (iJ k r c w ps kd ver) ps.length) true,aE (iL k r c w ps kd ver:Nat)],[]⟩:=by
 refine dY ?_
 have hp:=hv.rd.plain
 have hmn:=gF hm
 obtain ⟨hl,hpr⟩:=uJ hr
 have hTl:=agD k r c w ps kd ver
 have h0:=at2 k r c w kd ver v ps cells hv hm (by omega)
 have hN:ps.length≤16:=by omega
 have hN1:1≤ps.length:=by omega
 have hvl:(iE k r c w ps kd ver).getD []=[]∨((iE k r c w ps kd ver).getD []).length=ps.length:=by
  cases hT:iE k r c w ps kd ver with
  | none=>exact .inl rfl
  | some l=>exact .inr (by have:=(agC hT).1;simp only [Option.getD_some];omega)
 have hTat:∀ (i:Nat) (p:bN) (n:Int),ps[i]? = some p→((iE k r c w ps kd ver).getD [])[i]? = some n→(iJ k r c w ps kd ver).getD i []=mC k r c w p (i:Nat) kd n:=fun i p n hi hn=>by
  cases hT:iE k r c w ps kd ver with
  | none=>rw [hT] at hn;cases hn
  | some l =>
   rw [hT] at hn
   simp only [Option.getD_some] at hn
   rw [agG hT hi,List.getD_eq_getElem?_getD,hn]
   rfl
 have hTno:(iE k r c w ps kd ver).getD []=[]→iJ k r c w ps kd ver=List.replicate ps.length []∨(iE k r c w ps kd ver=none):=fun h=>by
  cases hT:iE k r c w ps kd ver with
  | none=>exact .inr rfl
  | some l =>
   rw [hT] at h
   simp only [Option.getD_some] at h
   have:=(agC hT).1
   rw [h] at this
   simp at this
   omega
 have hTn0:(iE k r c w ps kd ver).getD []=[]→(∀ n,bV (iJ k r c w ps kd ver) n=[]):=fun h n=>by
  rcases hTno h with h | h
  ·unfold bV
   rw [List.filter_eq_nil_iff]
   intro a _
   rw [h,List.getD_eq_getElem?_getD,List.getElem?_replicate]
   split <;> simp
  ·exact amt h n
 have hvr:=at4 (iE k r c w ps kd ver)
 generalize hlv:(iE k r c w ps kd ver).getD []=lv at *
 generalize rR (iE k r c w ps kd ver)=LV at *
 have hmk:=fun m=>agw m (n:=ps.length) (by omega)
 have hlN:(k+r).toNat=ps.length:=by omega
 unfold iL
 rw [hlN]
 have hTA:∀ i p,ps[i]? = some p→∀ (n:Int) (a:AV),cells[i*2]? = some a→True:=fun _ _ _ _ _ _=>trivial
 clear hTA hTno
 generalize hTT:iJ k r c w ps kd ver=T at *
 have s0:=cK hvr
 have hat:=fun {i p} h ix kk hk=>anp (k:=k) (r:=r) (c:=c) (w:=w) hv hm (i:=i) (p:=p) h ix kk hk
 have hfin:∀ i,i≤ps.length→(∀ j,i≤j→j < ps.length→T.getD j []=[])→fB T i=fB T ps.length∧bV T i=bV T ps.length:=fun i hi h=>by
  constructor
  ·refine agF fun j hj => ?_
   by_cases h1:j < i
   ·rw [if_pos h1,if_pos (by omega)]
   ·rw [if_neg h1,if_pos (by omega),h j (by omega) (by omega)];rfl
  ·obtain ⟨d,hd⟩:∃ d,ps.length=i+d:=⟨ps.length - i,by omega⟩
   rw [hd]
   have:∀ e,e≤d→bV T (i+e)=bV T i:=fun e=>by
    induction e with
    | zero=>exact fun _=>rfl
    | succ e ih =>
     intro he
     rw [←Nat.add_assoc,uZ,ih (by omega),h (i+e) (by omega) (by omega)]
     simp
   exact (this d (Nat.le_refl _)).symm
 have hall:lv=[]→∀ j,T.getD j []=[]:=fun h j=>by
  by_cases hj:j < ps.length
  ·have:=hTn0 h (j+1)
   rw [uZ] at this
   by_cases h2:(T.getD j []).length≠0
   ·rw [if_pos h2] at this;simp at this
   ·exact List.eq_nil_of_length_eq_zero (by omega)
  ·rw [List.getD_eq_getElem?_getD,List.getElem?_eq_none (by omega)];rfl
 have h00:fB T 0=(List.range ps.length).map fun _=>aP:=by unfold fB;rw [hTl];apply List.map_congr_left;intro j _;rw [if_neg (by omega)]
 replace hat:=aB.mk @hat
 replace hTl:=aB.mk hTl
 replace hmn:=aB.mk hmn
 replace hpr:=aB.mk hpr
 replace hvl:=aB.mk hvl
 replace hTat:=aB.mk hTat
 replace hTn0:=aB.mk hTn0
 replace hfin:=aB.mk hfin
 replace hall:=aB.mk hall
 replace hl:=aB.mk hl
 have hne1:¬ (0:Int) ≤ -1:=by decide
 refine bJ follows Tryz.func146 (by unfold Tryz.f146;rfl) (by unfold Tryz.f146;simp) s8 (by unfold Tryz.f146;simp) (by kernel_rfl) ?_;unfold Tryz.f146
 simp only [↓pre,simprocAttr,aA,sx,tK,s8,bne,aC,aI,aM,aJ,aK,aF,aG,hmk,hv.rd.len',sr]
 refine aL (h0) (by simp only [aA,aO, *]) ?_;simp only [↓pre,simprocAttr,aA,sx,tK,s8,bne,aC,aI,aM,aJ,aK,aF,aG,hmk,s0,sr]
 rw [b7]
 refine b8 (fun q e m=>∃ i,q+i=lv.length∧e 1=v∧e 2 = .val (.int .u8 kd)∧e 4 = .tptr 0 [aE k,aE r,aE c,aE w]∧e 10 = .sl 0 0 ps.length ps.length true∧e 11=LV∧e 12=aE ((bV T i).length:Nat)∧e 13=aE (i:Nat)∧aB (m.at_ 0=some ⟨fB T i,52,.var,true⟩∧0 < m.next)) lv.length ⟨0,by omega,rfl,rfl,rfl,rfl,rfl,rfl,rfl,⟨by rw [aG,if_pos aW.symm,h00],by rw [bO];omega⟩⟩ ?_
 rintro q e m ⟨i,hq,e1,e2,e4,e10,e11,e12,e13,hJ⟩
 replace hq:=aB.mk hq
 have hm0:¬ 0=m.next:=by have:=hJ.out.2;omega
 have hb0:=hJ.out.1
 by_cases hlt:i < lv.length
 ·have hlt':((i:Nat):Int) < ((lv.length:Nat):Int):=by omega
  have hlp:lv.length=ps.length:=by
   rcases hvl.out with h | h
   ·rw [h] at hlt;exact absurd hlt (by simp)
   ·exact h
  have wi:=cF (n:=i) (by omega)
  have hip:i < ps.length:=by omega
  obtain ⟨p,hpi⟩:∃ p,ps[i]? = some p:=⟨_,List.getElem?_eq_getElem hip⟩
  obtain ⟨z,hz⟩:∃ z,lv[i]? = some z:=⟨_,List.getElem?_eq_getElem hlt⟩
  obtain ⟨a,b,xa,xb,ha,hb,hra,hrb⟩:=hv.at_ i p hpi
  obtain ⟨ht,htl⟩:=qI ha hb
  have hTi:=hTat.out i p z hpi hz
  have hzc:=sM (x:=[]) hz
  rw [List.append_nil] at hzc
  have hH:=at0 k r c w kd (i:Nat) z a b p xa xb hra hrb hm
  have hts:=uZ T i
  have hle:=ad4 T i
  have w2:=cF (n:=(bV T i).length) (by omega)
  have hof:=fun kk hk=>hat.out hpi (i:Nat) kk hk
  have hiT:i < T.length:=by have:=hTl.out;omega
  have hput:=amr hiT
  have hl1:i+1≤(fB T i).length:=by rw [aeb];omega
  have hex:T.getD i []=[]→fB T i=fB T (i+1):=fun hD=>agF fun j hj=>by
   by_cases e:j=i
   ·subst e
    rw [if_neg (by omega),if_pos (by omega),hD]
    rfl
   ·by_cases e2:j < i
    ·rw [if_pos e2,if_pos (by omega)]
    ·rw [if_neg e2,if_neg (by omega)]
  have pa:=hra.plain
  have pb:=hrb.plain
  have fa:=cA hra
  have fb:=cA hrb
  have oa:=bP hra
  have ob:=bP hrb
  simp only [aE] at hH
  replace hex:=aB.mk hex
  replace hof:=aB.mk hof
  replace hpi:=aB.mk hpi
  replace hz:=aB.mk hz
  replace hlp:=aB.mk hlp
  replace hle:=aB.mk hle
  replace hTl:=aB.mk hTl
  replace hTi:=aB.mk hTi
  rcases at3 k r c w p (i:Nat) kd z with ⟨h1,h2⟩ | ⟨kk,hk2,h1,h2,h3,h4⟩
  ·rw [h1] at hH
   have hD:=hTi.out.trans h2
   have hxx:=hex.out hD
   rw [hD,if_neg (by simp),List.append_nil] at hts
   replace hts:=aB.mk hts
   replace hD:=aB.mk hD
   replace h1:=aB.mk h1
   replace h2:=aB.mk h2
   replace hput:=aB.mk hput
   replace hxx:=aB.mk hxx
   simp only [↓pre,simprocAttr,aA,sx,tK,s8,bne,aC,aI,aM,aJ,aK,aF,aG,hmk,e1,e2,e4,e10,e11,e12,e13,fa,fb,oa,ob,hv.rd.addr',hip,ht,htl,hlt',hvr.len',hvr.addr',hlt,hzc,sr]
   (refine bM (hH) (by simp only [aA,aO, *]) (by intro k;rfl) ?_);simp only [↓pre,simprocAttr,aA,sx,tK,s8,bne,aC,aI,aM,aJ,aK,aF,aG,hmk,e1,e2,e4,e10,e11,e12,e13,fa,fb,oa,ob,hv.rd.addr',hip,ht,htl,hne1,wi,sr]
   exact ⟨q - 1,by have:=hq.out;omega,i+1,by have:=hq.out;omega,by rw [hts.out],rfl,⟨by rw [hb0,hxx.out],hJ.out.2⟩⟩
  ·rw [h1] at hH
   have hDl:(T.getD i []).length≠0:=by rw [hTi.out];have:=hmn.out;omega
   rw [if_pos hDl] at hts
   have hts2:(bV T (i+1)).length=(bV T i).length+1:=by rw [hts,List.length_append];rfl
   obtain ⟨vi,hvi,hpl,kd',i0,ce,st,vv,dv,hO,hOf⟩:=hof.out kk hk2
   obtain ⟨n1,y1,g1⟩:=hOf.r1
   obtain ⟨u1,u2,u3,u4,u5⟩:=hOf.is h2
   replace u1:=aB.mk u1
   replace u2:=aB.mk u2
   replace u3:=aB.mk u3
   replace u4:=aB.mk u4
   rw [h2] at hO
   rw [←h3,←hTi.out] at u5
   subst u5
   have hbv:fE (T.getD i []) = .tree (T.getD i []).length (T.getD i []).length (aQ (T.getD i [])) false:=by unfold fE;rw [if_neg hDl]
   rw [hbv] at hput
   unfold cI at hput
   simp only [List.length_cons,List.length_nil,Nat.zero_add] at hput
   generalize T.getD i []=D at *
   have f1:=cA g1
   have q1:=bP g1
   have t1:=cK g1
   have hge:(0:Int)≤((kk:Nat):Int):=by omega
   simp only [aE] at hO
   replace hts:=aB.mk hts
   replace hts2:=aB.mk hts2
   replace hOf:=aB.mk hOf
   replace h1:=aB.mk h1
   replace h2:=aB.mk h2
   replace h3:=aB.mk h3
   replace h4:=aB.mk h4
   replace hbv:=aB.mk hbv
   replace hDl:=aB.mk hDl
   replace hJ:=aB.mk hJ
   simp only [↓pre,simprocAttr,aA,sx,tK,s8,bne,aC,aI,aM,aJ,aK,aF,aG,hmk,e1,e2,e4,e10,e11,e12,e13,fa,fb,oa,ob,hv.rd.addr',hip,ht,htl,f1,q1,t1,hm0,hb0,hl1,hlt',hvr.len',hvr.addr',hlt,hzc,sr]
   (refine bM (hH) (by simp only [aA,aO, *]) (by intro k;rfl) ?_);simp only [↓pre,simprocAttr,aA,sx,tK,s8,bne,aC,aI,aM,aJ,aK,aF,aG,hmk,e1,e2,e4,e10,e11,e12,e13,fa,fb,oa,ob,hv.rd.addr',hip,ht,htl,f1,q1,t1,hm0,hb0,hl1,hge,hk2,hvi,sr]
   (refine bM (hO) (by simp only [aA,aO, *]) (by intro k;simp only [sq,sr, *]) ?_);simp only [↓pre,simprocAttr,aA,sx,tK,s8,bne,aC,aI,aM,aJ,aK,aF,aG,hmk,e1,e2,e4,e10,e11,e12,e13,fa,fb,oa,ob,hv.rd.addr',hip,ht,htl,f1,q1,t1,hm0,hb0,hl1,sr]
   refine mG (by kernel_rfl) ?_
   simp only [↓pre,simprocAttr,aA,sx,tK,s8,bne,aC,aI,aM,aJ,aK,aF,aG,hmk,e1,e2,e4,e10,e11,e12,e13,fa,fb,oa,ob,hv.rd.addr',hip,ht,htl,f1,q1,t1,hm0,hb0,hl1,sr]
   refine cU (by kernel_rfl) ?_
   simp only [↓pre,simprocAttr,aA,sx,tK,s8,bne,aC,aI,aM,aJ,aK,aF,aG,hmk,e1,e2,e4,e10,e11,e12,e13,fa,fb,oa,ob,hv.rd.addr',hip,ht,htl,f1,q1,t1,hm0,hb0,hl1,hput,w2,wi,sr]
   exact ⟨q - 1,by have:=hq.out;omega,i+1,by have:=hq.out;omega,by rw [hts2.out],rfl,⟨by simp [aF,hput],by simp [bX,bO]⟩⟩
 ·have hlt':¬ ((i:Nat):Int) < ((lv.length:Nat):Int):=by omega
  have hi:i=lv.length:=by have:=hq.out;omega
  obtain ⟨h1,h2⟩:fB T i=fB T ps.length∧bV T i=bV T ps.length:=by
   rcases hvl.out with h | h
   ·refine hfin.out i (by rw [hi,h];simp) fun j _ _=>hall.out h j
   ·rw [hi,h];exact ⟨rfl,rfl⟩
  rw [h2] at e12
  replace h1:=aB.mk h1
  replace h2:=aB.mk h2
  simp only [↓pre,simprocAttr,aA,sx,tK,s8,bne,aC,aI,aM,aJ,aK,aF,aG,hmk,e1,e2,e4,e10,e11,e12,e13,hlt',hvr.len',sr]
  exact ⟨1,by rw [kC,dT,ade hb0 (aaT _ (by rw [List.drop_zero];intro x hx;unfold fB at hx;obtain ⟨j,_,rfl⟩:=List.mem_map.1 hx;split;exact kK (aaW _);exact bU _)),Option.bind_some,dT,fP,jC,List.drop_zero,h1.out];rfl⟩
theorem at6 (T:List (List UInt8)):bD (.tree T.length T.length (fB T T.length) true) T.length (fB T T.length):=lF _ _ _
theorem at7 (k r c w kd ver:Int) (v:AV) (ps:List bN) (cells:List AV) (hv:fQ v ps cells) (hm:bL k r c w=true) (hr:dO k r c ps=true):aY Tryz.prog 204 [aA k r c w,v,.val (.int .u8 kd),aE ver] ⟨u9 k r c w ps kd ver,[]⟩:=by
 refine dY ?_
 have hp:=hv.rd.plain
 have hml:=jE.1 hm
 have h1:=at5 k r c w kd ver v ps cells hv hm hr
 obtain ⟨hl,_⟩:=uJ hr
 obtain ⟨K,hK⟩:∃ K:Nat,k=(K:Int):=⟨k.toNat,by omega⟩
 obtain ⟨R,hR⟩:∃ R:Nat,r=(R:Int):=⟨r.toNat,by omega⟩
 obtain ⟨C,hC⟩:∃ C:Nat,c=(C:Int):=⟨c.toNat,by omega⟩
 have hkr:(k+r).toNat=K+R:=by omega
 have hkn:k.toNat=K:=by omega
 have hcn:c.toNat=C:=by omega
 have hTl:=agD k r c w ps kd ver
 have hTa:=amq k r c w C hC ps kd ver
 unfold u9
 by_cases hlt:iL k r c w ps kd ver < k.toNat
 ·have hlt':((iL k r c w ps kd ver:Nat):Int) < k:=by omega
  rw [if_pos hlt]
  have t1:=lF ps.length (fB (iJ k r c w ps kd ver) ps.length) true
  have s1:=cK t1
  have hf:=fun m=>gS (bU (.slice none 0 0)) (bU (.int .i64 5)) 1 m
  generalize AV.tree ps.length ps.length (fB (iJ k r c w ps kd ver) ps.length) true=TV at *
  generalize iL k r c w ps kd ver=MN at *
  replace hf:=aB.mk hf
  replace hml:=aB.mk hml
  replace hTa:=aB.mk hTa
  simp only [aE] at h1
  refine bJ follows Tryz.func204 (by unfold Tryz.f204;rfl) (by unfold Tryz.f204;simp) aD (by unfold Tryz.f204;simp) (by kernel_rfl) ?_;unfold Tryz.f204
  simp only [↓pre,simprocAttr,aA,sx,abL,aD,aC,aP,sr]
  refine aL (h1) (by simp only [aA,aO, *]) ?_;simp only [↓pre,simprocAttr,aA,sx,abL,aD,aC,aP,s1,hlt',sr]
  exact ⟨1,hf.out _⟩
 ·have hlt':¬ ((iL k r c w ps kd ver:Nat):Int) < k:=by omega
  rw [if_neg hlt]
  have hD:=atZ (.tree ps.length ps.length (fB (iJ k r c w ps kd ver) ps.length) true) K R C (iJ k r c w ps kd ver) _ (ams _ _ (by have:=at6 (iJ k r c w ps kd ver);rw [hTl] at this ⊢;exact this)) (by omega) hTa (by omega) (by omega) (by omega) (by omega) (by omega) (by unfold iL at hlt;rw [hkr] at hlt;omega)
  have hW:aaN K ((bV (iJ k r c w ps kd ver) (K+R)).take K) (f9 (iJ k r c w ps kd ver))=nD k r c w ps kd ver:=by unfold nD;rw [hkr,hkn]
  rw [hW,←hK,←hR] at hD
  rw [hkr,hcn]
  have hT2:bE (K+R) (eJ C (nD k r c w ps kd ver) 0 (K+R)) = .tree (K+R) (K+R) (eJ C (nD k r c w ps kd ver) 0 (K+R)) false:=by unfold bE;rw [if_neg (by omega)]
  rw [hT2]
  have t1:=lF ps.length (fB (iJ k r c w ps kd ver) ps.length) true
  have s1:=cK t1
  have p1:=t1.plain
  have t2:=lF (K+R) (eJ C (nD k r c w ps kd ver) 0 (K+R)) false
  have s2:=cK t2
  have hf:=fun m=>gS (kK t2) (bU (.int .i64 0)) 1 m
  generalize AV.tree ps.length ps.length (fB (iJ k r c w ps kd ver) ps.length) true=TV at *
  generalize AV.tree (K+R) (K+R) (eJ C (nD k r c w ps kd ver) 0 (K+R)) false=DV at *
  generalize iL k r c w ps kd ver=MN at *
  replace hf:=aB.mk hf
  replace hml:=aB.mk hml
  replace hTa:=aB.mk hTa
  replace hW:=aB.mk hW
  replace hT2:=aB.mk hT2
  replace hK:=aB.mk hK
  replace hR:=aB.mk hR
  replace hC:=aB.mk hC
  replace hlt:=aB.mk hlt
  simp only [aE] at h1 hD
  refine bJ follows Tryz.func204 (by unfold Tryz.f204;rfl) (by unfold Tryz.f204;simp) aD (by unfold Tryz.f204;simp) (by kernel_rfl) ?_;unfold Tryz.f204
  simp only [↓pre,simprocAttr,aA,sx,abL,aD,aC,aP,sr]
  refine aL (h1) (by simp only [aA,aO, *]) ?_;simp only [↓pre,simprocAttr,aA,sx,abL,aD,aC,aP,s1,hlt',sr]
  refine aL (hD) (by simp only [aA,aO, *]) ?_;simp only [↓pre,simprocAttr,aA,sx,abL,aD,aC,aP,s2,sr]
  exact ⟨1,hf.out _⟩
theorem agV (k r c w kd ver:Int) (v:AV) (ps:List bN) (cells:List AV) (hv:fQ v ps cells) (hm:bL k r c w=true) (hr:dO k r c ps=true):aY Tryz.prog 116 [aA k r c w,v,.val (.int .u8 kd),aE ver] ⟨pO k r c w ps kd ver,[]⟩:=by
 refine dY ?_
 have hp:=hv.rd.plain
 have h1:=at7 k r c w kd ver v ps cells hv hm hr
 have hml:=jE.1 hm
 have hw:=gU hm
 unfold pO
 unfold u9 at h1
 by_cases hlt:iL k r c w ps kd ver < k.toNat
 ·rw [if_pos hlt] at h1 ⊢
  have hf:=fun m=>gS (bU (.slice none 0 0)) (bU (.int .i64 5)) 1 m
  replace hf:=aB.mk hf
  simp only [aP] at h1
  refine bJ follows Tryz.func116 (by unfold Tryz.f116;rfl) (by unfold Tryz.f116;simp) aD (by unfold Tryz.f116;simp) (by kernel_rfl) ?_;unfold Tryz.f116
  simp only [↓pre,simprocAttr,aA,sx,x9,aD,aC,aP,sr]
  refine aL (h1) (by simp only [aA,aO, *]) ?_;simp only [↓pre,simprocAttr,aA,sx,x9,aD,aC,aP,sr]
  exact ⟨1,hf.out _⟩
 ·rw [if_neg hlt] at h1 ⊢
  obtain ⟨K,hK⟩:∃ K:Nat,k=(K:Int):=⟨k.toNat,by omega⟩
  obtain ⟨C,hC⟩:∃ C:Nat,c=(C:Int):=⟨c.toNat,by omega⟩
  have hkn:k.toNat=K:=by omega
  have hcn:c.toNat=C:=by omega
  have hR1:K≤(k+r).toNat:=by omega
  rw [hkn,hcn]
  rw [hcn] at h1
  have hrd:=dH (k+r).toNat (eJ C (nD k r c w ps kd ver) 0 (k+r).toNat)
  have hds:=agH k r c w ps kd ver
  have hdl:=vA k r c w ps kd ver
  rw [hcn] at hds hdl
  have hcat:=fun i (h:i < (k+r).toNat)=>ad6 (L:=C) (F:=nD k r c w ps kd ver) (a:=0) h
  have hKC:k*c=((K*C:Nat):Int):=by rw [hK,hC];simp
  have hKC2:K*C≤768:=by omega
  have hKC3:32≤K*C:=by omega
  have hpr:=hrd.plain
  have s1:=cK hrd
  generalize bE (k+r).toNat (eJ C (nD k r c w ps kd ver) 0 (k+r).toNat)=WV at *
  generalize nD k r c w ps kd ver=W at *
  generalize lP k r c w ps kd ver=D at *
  have hD0:D 0=[]:=List.eq_nil_of_length_eq_zero (by rw [hdl];omega)
  subst hK
  simp only [aE] at h1
  replace hds:=aB.mk hds
  replace hdl:=aB.mk hdl
  replace hcat:=aB.mk hcat
  replace hlt:=aB.mk hlt
  replace hKC:=aB.mk hKC
  replace hml:=aB.mk hml
  replace hw:=aB.mk hw
  replace hkn:=aB.mk hkn
  refine bJ follows Tryz.func116 (by unfold Tryz.f116;rfl) (by unfold Tryz.f116;simp) aD (by unfold Tryz.f116;simp) (by kernel_rfl) ?_;unfold Tryz.f116
  simp only [↓pre,simprocAttr,aA,sx,x9,aD,aC,aI,bG,sr]
  refine aL (h1) (by simp only [aA,aO, *]) ?_;simp only [↓pre,simprocAttr,aA,sx,x9,aD,aC,aI,bG,s1,sr]
  rw [b7]
  refine b8 (fun q e m=>∃ i lv,q+i=K∧e 4 = .tptr 0 [aE ((K:Nat):Int),aE r,aE c,aE w]∧e 10=WV∧e 12=lv∧e 13=aE (i:Nat)∧aB (eM m 5 1 lv (i*C) (aQ (D i)))) K ⟨0,aP,by omega,rfl,rfl,rfl,rfl,⟨by rw [hD0,Nat.zero_mul];exact gT⟩⟩ ?_
  rintro q e m ⟨i,lv,hq,e4,e10,e12,e13,hJ⟩
  replace hq:=aB.mk hq
  by_cases hlt2:i < K
  ·have hlt2':((i:Nat):Int) < ((K:Nat):Int):=by omega
   have wi:=cF (n:=i) (by have:=hml.out;omega)
   have hin:i < (((K:Nat):Int)+r).toNat:=by omega
   have hca:=hcat.out i hin
   rw [Nat.zero_add] at hca
   have hiC:i*C+C≤768:=by
    have:(i+1)*C≤K*C:=Nat.mul_le_mul_right _ (by omega)
    rw [Nat.add_mul,Nat.one_mul] at this
    omega
   have hC8:8≤C:=by have:=hml.out;omega
   have hsrc:∀ m:aH,fW Tryz.prog 5 1 m (.tree C C (aZ C (W i)) true)=some (aZ C (W i),C):=fun m=>by
    rw [aby (by rw [eE];omega),Nat.mul_one,List.take_of_length_le (by rw [eE];omega)]
   have hDs:=hds.out i
   simp only [↓pre,simprocAttr,aA,sx,x9,aD,aC,aI,bG,e4,e10,e12,e13,hlt2',hrd.addr',hin,hca,sr]
   refine qE (kd := .flat) (sz:=1) (y:=1) (zl:=[.int .u8 0]) (by kernel_rfl) hJ.out (by kernel_rfl) (by kernel_rfl) (by kernel_rfl) rfl (hsrc m) (by rw [eE,Nat.mul_one]) (by omega) (by omega) ?_
   intro lv' m' ho' hn'
   have ho2:eM m' 5 1 lv' ((i+1)*C) (aQ (D (i+1))):=by
    rw [hDs,pQ,Nat.add_mul,Nat.one_mul]
    exact ho'
   replace ho2:=aB.mk ho2
   clear ho'
   simp only [↓pre,simprocAttr,aA,sx,x9,aD,aC,aI,bG,e4,e10,e12,e13,wi,sr]
   exact ⟨q - 1,by have:=hq.out;omega,i+1,lv',by have:=hq.out;omega,rfl,rfl,ho2⟩
  ·have hlt2':¬ ((i:Nat):Int) < ((K:Nat):Int):=by omega
   have hi:i=K:=by have:=hq.out;omega
   subst hi
   obtain ⟨b,rfl,hb,_⟩:=hJ.out.sl (by omega)
   have hTR:bE (i*C) (aQ (D i)) = .tree (i*C) (i*C) (aQ (D i)) false:=by unfold bE;rw [if_neg (by omega)]
   rw [hTR]
   simp only [↓pre,simprocAttr,aA,sx,x9,aD,aC,aI,bG,e4,e10,e12,e13,hlt2',sr]
   exact ⟨1,by rw [kC,dT,sJ hb,Option.bind_some,dT,fP,jC,List.drop_zero];rfl⟩
theorem agW (k r c w n:Int):aY Tryz.prog 312 [aA k r c w,aE n] ⟨aE (oE k r c w n),[]⟩:=by
 have h1:=aaB k r c w
 unfold oE
 cases hm:bL k r c w with
 | false =>
  rw [hm] at h1
  simp only [Bool.false_eq_true,if_false]
  refine bB follows Tryz.func312 (by unfold Tryz.f312;rfl) (by unfold Tryz.f312;simp) aD (by unfold Tryz.f312;simp) (by kernel_rfl) ?_;unfold Tryz.f312
  simp only [↓pre,simprocAttr,aA,sx,tN,aD,aC,sr]
  refine aL (h1) (by rfl) ?_;simp only [↓pre,simprocAttr,aA,sx,tN,aD,aC,sr]
 | true =>
  have h2:=afU k r c w hm
  rw [hm] at h1
  simp only [if_true]
  by_cases k1:n < 0
  ·simp only [k1,if_true]
   refine bB follows Tryz.func312 (by unfold Tryz.f312;rfl) (by unfold Tryz.f312;simp) aD (by unfold Tryz.f312;simp) (by kernel_rfl) ?_;unfold Tryz.f312
   simp only [↓pre,simprocAttr,aA,sx,tN,aD,aC,sr]
   refine aL (h1) (by rfl) ?_;simp only [↓pre,simprocAttr,aA,sx,tN,aD,aC,k1,sr]
  ·by_cases k2:mI k c < n
   ·simp only [k1,k2,if_true,if_false]
    refine bB follows Tryz.func312 (by unfold Tryz.f312;rfl) (by unfold Tryz.f312;simp) aD (by unfold Tryz.f312;simp) (by kernel_rfl) ?_;unfold Tryz.f312
    simp only [↓pre,simprocAttr,aA,sx,tN,aD,aC,sr]
    refine aL (h1) (by rfl) ?_;simp only [↓pre,simprocAttr,aA,sx,tN,aD,aC,k1,k2,sr];refine aL (h2) (by rfl) ?_;simp only [↓pre,simprocAttr,aA,sx,tN,aD,aC,k1,k2,sr]
   ·simp only [k1,k2,if_false]
    refine bB follows Tryz.func312 (by unfold Tryz.f312;rfl) (by unfold Tryz.f312;simp) aD (by unfold Tryz.f312;simp) (by kernel_rfl) ?_;unfold Tryz.f312
    simp only [↓pre,simprocAttr,aA,sx,tN,aD,aC,sr]
    refine aL (h1) (by rfl) ?_;simp only [↓pre,simprocAttr,aA,sx,tN,aD,aC,k1,k2,sr];refine aL (h2) (by rfl) ?_;simp only [↓pre,simprocAttr,aA,sx,tN,aD,aC,k1,k2,sr]
theorem acv {k r c w n:Int} (h:oE k r c w n=0):bL k r c w=true∧0≤n∧n≤mI k c:=by
 unfold oE at h
 split at h
 ·rename_i hm
  split at h
  ·omega
  ·split at h
   ·omega
   ·exact ⟨hm,by omega,by omega⟩
 ·omega
theorem at8 (k r c w n:Int):aY Tryz.prog 262 [aA k r c w,aE n] ⟨.tup [aE (oS k r c w n),aE (oE k r c w n)],[]⟩:=by
 have h1:=agW k r c w n
 unfold oS
 by_cases h:oE k r c w n=0
 ·obtain ⟨hm,hn,hn2⟩:=acv h
  have h2:=adH k r c w n hm hn hn2
  rw [h] at h1 ⊢
  rw [if_pos rfl]
  clear h
  refine bB follows Tryz.func262 (by unfold Tryz.f262;rfl) (by unfold Tryz.f262;simp) aD (by unfold Tryz.f262;simp) (by kernel_rfl) ?_;unfold Tryz.f262
  simp only [↓pre,simprocAttr,aA,sx,abR,aD,aC,dC,cS,eq_self]
  refine aL (h1) (by rfl) ?_;simp only [↓pre,simprocAttr,aA,sx,abR,aD,aC,dC,cS,eq_self];refine aL (h2) (by rfl) ?_;simp only [↓pre,simprocAttr,aA,sx,abR,aD,aC,dC,cS,eq_self]
 ·rw [if_neg h]
  refine bB follows Tryz.func262 (by unfold Tryz.f262;rfl) (by unfold Tryz.f262;simp) aD (by unfold Tryz.f262;simp) (by kernel_rfl) ?_;unfold Tryz.f262
  simp only [↓pre,simprocAttr,aA,sx,abR,aD,aC,dC,cS,eq_self]
  refine aL (h1) (by rfl) ?_;simp only [↓pre,simprocAttr,aA,sx,abR,aD,aC,dC,cS,eq_self,h]
theorem at9 (k r c w n:Int):aY Tryz.prog 263 [aA k r c w,aE n] ⟨.tup [aE (min (oF k r c w n) 1),aE (oE k r c w n)],[]⟩:=by
 have h1:=agW k r c w n
 unfold oF
 by_cases h:oE k r c w n=0
 ·obtain ⟨hm,hn,hn2⟩:=acv h
  have h2:=adH k r c w n hm hn hn2
  rw [h] at h1 ⊢
  rw [if_pos rfl]
  clear h
  refine bB follows Tryz.func263 (by unfold Tryz.f263;rfl) (by unfold Tryz.f263;simp) aD (by unfold Tryz.f263;simp) (by kernel_rfl) ?_;unfold Tryz.f263
  simp only [↓pre,simprocAttr,aA,sx,abS,aD,aC,dC,cS,eq_self]
  refine aL (h1) (by rfl) ?_;simp only [↓pre,simprocAttr,aA,sx,abS,aD,aC,dC,cS,eq_self];refine aL (h2) (by rfl) ?_;simp only [↓pre,simprocAttr,aA,sx,abS,aD,aC,dC,cS,eq_self]
 ·rw [if_neg h,show min (0:Int) 1=0 from rfl]
  refine bB follows Tryz.func263 (by unfold Tryz.f263;rfl) (by unfold Tryz.f263;simp) aD (by unfold Tryz.f263;simp) (by kernel_rfl) ?_;unfold Tryz.f263
  simp only [↓pre,simprocAttr,aA,sx,abS,aD,aC,dC,cS,eq_self]
  refine aL (h1) (by rfl) ?_;simp only [↓pre,simprocAttr,aA,sx,abS,aD,aC,dC,cS,eq_self,h]
theorem aua (k r c w n:Int):aY Tryz.prog 264 [aA k r c w,aE n] ⟨.tup [aE (oF k r c w n),aE (oE k r c w n)],[]⟩:=by
 have h1:=agW k r c w n
 unfold oF
 by_cases h:oE k r c w n=0
 ·obtain ⟨hm,hn,hn2⟩:=acv h
  have h2:=adH k r c w n hm hn hn2
  rw [h] at h1 ⊢
  rw [if_pos rfl]
  clear h
  refine bB follows Tryz.func264 (by unfold Tryz.f264;rfl) (by unfold Tryz.f264;simp) aD (by unfold Tryz.f264;simp) (by kernel_rfl) ?_;unfold Tryz.f264
  simp only [↓pre,simprocAttr,aA,sx,abT,aD,aC,dC,cS,eq_self]
  refine aL (h1) (by rfl) ?_;simp only [↓pre,simprocAttr,aA,sx,abT,aD,aC,dC,cS,eq_self];refine aL (h2) (by rfl) ?_;simp only [↓pre,simprocAttr,aA,sx,abT,aD,aC,dC,cS,eq_self]
 ·rw [if_neg h]
  refine bB follows Tryz.func264 (by unfold Tryz.f264;rfl) (by unfold Tryz.f264;simp) aD (by unfold Tryz.f264;simp) (by kernel_rfl) ?_;unfold Tryz.f264
  simp only [↓pre,simprocAttr,aA,sx,abT,aD,aC,dC,cS,eq_self]
  refine aL (h1) (by rfl) ?_;simp only [↓pre,simprocAttr,aA,sx,abT,aD,aC,dC,cS,eq_self,h]
theorem aub (k r c w:Int) (x:b9):aY Tryz.prog 303 [aA k r c w,.agg [aE x.1,aE x.2]] ⟨bC (i9 w x),[]⟩:=by
 have hd:i9 w x=decide ((0≤x.1∧x.1 < w)∧1≤x.2∧x.2≤1073741824):=rfl
 generalize i9 w x=B at *
 replace hd:=aB.mk hd
 by_cases k1:0≤x.1
 ·by_cases k2:x.1 < w
  ·by_cases k3:1≤x.2
   ·by_cases k4:x.2≤1073741824
    ·have hB:B=true:=by rw [hd.out];simp;omega
     subst hB
     refine bB follows Tryz.func303 (by unfold Tryz.f303;rfl) (by unfold Tryz.f303;simp) aD (by unfold Tryz.f303;simp) (by kernel_rfl) ?_;unfold Tryz.f303
     simp only [↓pre,simprocAttr,aA,sx,abV,aD,aC,k1,k2,k3,k4,sr]
    ·have hB:B=false:=by rw [hd.out];simp;omega
     subst hB
     refine bB follows Tryz.func303 (by unfold Tryz.f303;rfl) (by unfold Tryz.f303;simp) aD (by unfold Tryz.f303;simp) (by kernel_rfl) ?_;unfold Tryz.f303
     simp only [↓pre,simprocAttr,aA,sx,abV,aD,aC,k1,k2,k3,k4,sr]
   ·have hB:B=false:=by rw [hd.out];simp;omega
    subst hB
    refine bB follows Tryz.func303 (by unfold Tryz.f303;rfl) (by unfold Tryz.f303;simp) aD (by unfold Tryz.f303;simp) (by kernel_rfl) ?_;unfold Tryz.f303
    simp only [↓pre,simprocAttr,aA,sx,abV,aD,aC,k1,k2,k3,sr]
  ·have hB:B=false:=by rw [hd.out];simp;omega
   subst hB
   refine bB follows Tryz.func303 (by unfold Tryz.f303;rfl) (by unfold Tryz.f303;simp) aD (by unfold Tryz.f303;simp) (by kernel_rfl) ?_;unfold Tryz.f303
   simp only [↓pre,simprocAttr,aA,sx,abV,aD,aC,k1,k2,sr]
 ·have hB:B=false:=by rw [hd.out];simp;omega
  subst hB
  refine bB follows Tryz.func303 (by unfold Tryz.f303;rfl) (by unfold Tryz.f303;simp) aD (by unfold Tryz.f303;simp) (by kernel_rfl) ?_;unfold Tryz.f303
  simp only [↓pre,simprocAttr,aA,sx,abV,aD,aC,k1,sr]
theorem anq (k r c w:Int) (v:AV) (l:List b9) (hv:qM v l) (hn:l.length≤9223372036854775807):aY Tryz.prog 247 [aA k r c w,v] ⟨bC (jQ w l),[]⟩:=by
 obtain ⟨x,hv⟩:=hv
 have hp:=hv.plain
 generalize hres:jQ w l=B
 have hrf:=fun y=>aub k r c w y
 replace hres:=aB.mk hres
 replace hrf:=aB.mk hrf
 refine bB follows Tryz.func247 (by unfold Tryz.f247;rfl) (by unfold Tryz.f247;simp) aD (by unfold Tryz.f247;simp) (by kernel_rfl) ?_;unfold Tryz.f247
 simp only [↓pre,simprocAttr,aA,sx,aaw,aD,aC,aI,aJ,aK,aF,aG,sr]
 rw [b7]
 refine b8 (fun q e m=>∃ i,q+i=l.length∧e 1=v∧e 2 = .tptr 0 [aE k,aE r,aE c,aE w]∧e 5=aE (i:Nat)∧aB (∀ j y,j < i→l[j]? = some y→i9 w y=true)) l.length ⟨0,by omega,rfl,rfl,rfl,⟨fun j y h=>by omega⟩⟩ ?_
 rintro q e m ⟨i,hq,e1,e2,e5,hJ⟩
 replace hq:=aB.mk hq
 by_cases hlt:i < l.length
 ·have hlt':((i:Nat):Int) < ((l.length:Nat):Int):=by omega
  have wi:=cF (n:=i) (by omega)
  obtain ⟨y,hy⟩:∃ y,l[i]? = some y:=⟨_,List.getElem?_eq_getElem hlt⟩
  obtain ⟨ha,hb⟩:=vB l x i y hy
  obtain ⟨ht,htl⟩:=qI ha hb
  have hr1:=hrf.out y
  simp only [aE] at ht hr1
  cases hB:i9 w y with
  | false =>
   have hBB:B=false:=by
    rw [←hres.out]
    unfold jQ
    rw [List.all_eq_false]
    exact ⟨y,List.mem_of_getElem? hy,by rw [hB];decide⟩
   subst hBB
   rw [hB] at hr1
   replace hB:=aB.mk hB
   replace hy:=aB.mk hy
   simp only [↓pre,simprocAttr,aA,sx,aaw,aD,aC,aI,aJ,aK,aF,aG,e1,e2,e5,hlt',hv.len',hv.addr',hlt,ht,htl,sr]
   (refine bM (hr1) (by rfl) (by intro k;rfl) ?_);simp only [↓pre,simprocAttr,aA,sx,aaw,aD,aC,aI,aJ,aK,aF,aG,sr]
  | true =>
   have hgood:∀ j y,j < i+1→l[j]? = some y→i9 w y=true:=fun j y' hj hy'=>by
    by_cases e:j=i
    ·subst e;rw [hy] at hy';cases hy';exact hB
    ·exact hJ.out j y' (by omega) hy'
   rw [hB] at hr1
   replace hB:=aB.mk hB
   replace hy:=aB.mk hy
   replace hgood:=aB.mk hgood
   simp only [↓pre,simprocAttr,aA,sx,aaw,aD,aC,aI,aJ,aK,aF,aG,e1,e2,e5,hlt',hv.len',hv.addr',hlt,ht,htl,sr]
   (refine bM (hr1) (by rfl) (by intro k;rfl) ?_);simp only [↓pre,simprocAttr,aA,sx,aaw,aD,aC,aI,aJ,aK,aF,aG,e1,e2,e5,wi,sr]
   exact ⟨q - 1,by have:=hq.out;omega,i+1,by have:=hq.out;omega,rfl,hgood⟩
 ·have hlt':¬ ((i:Nat):Int) < ((l.length:Nat):Int):=by omega
  have hB:B=true:=by
   rw [←hres.out]
   unfold jQ
   rw [List.all_eq_true]
   intro y hy
   obtain ⟨j,hj⟩:=List.getElem?_of_mem hy
   have:=(List.getElem?_eq_some_iff.1 hj).1
   exact hJ.out j y (by omega) hj
  subst hB
  simp only [↓pre,simprocAttr,aA,sx,aaw,aD,aC,aI,aJ,aK,aF,aG,e1,e2,e5,hlt',hv.len',sr]
theorem auc (k r c w len dep:Int) (hm:bL k r c w=true) (v:AV) (l:List b9) (hv:qM v l) (hn:l.length≤9223372036854775807):aY Tryz.prog 207 [aA k r c w,.agg [aE len,aE dep,v]] ⟨bC (qN k r c w len dep l),[]⟩:=by
 have hM:=afU k r c w hm
 have hS:=at8 k r c w len
 have hD:=at9 k r c w len
 have hF:=aua k r c w len
 have hR:=anq k r c w v l hv hn
 have hF0:=acf (n:=len) hm
 obtain ⟨x,hv⟩:=hv
 have hp:=hv.plain
 have f1:=cA hv
 have o1:=bP hv
 generalize hres:qN k r c w len dep l=B
 unfold qN at hres
 have hE:oE k r c w len=if len < 0 then 2 else if mI k c < len then 3 else 0:=by unfold oE;rw [if_pos hm]
 by_cases k1:len < 0
 ·rw [if_pos k1] at hE
  rw [hE] at hres
  simp only [show ¬ (2:Int)=0 by decide,decide_false,Bool.false_and] at hres
  subst hres
  clear hE
  refine bB follows Tryz.func207 (by unfold Tryz.f207;rfl) (by unfold Tryz.f207;simp) aD (by unfold Tryz.f207;simp) (by kernel_rfl) ?_;unfold Tryz.f207
  simp only [↓pre,simprocAttr,aA,sx,d9,aD,aC,aI,f1,o1,k1,sr]
 ·by_cases k2:mI k c < len
  ·rw [if_neg k1,if_pos k2] at hE
   rw [hE] at hres
   simp only [show ¬ (3:Int)=0 by decide,decide_false,Bool.false_and] at hres
   subst hres
   clear hE
   refine bB follows Tryz.func207 (by unfold Tryz.f207;rfl) (by unfold Tryz.f207;simp) aD (by unfold Tryz.f207;simp) (by kernel_rfl) ?_;unfold Tryz.f207
   simp only [↓pre,simprocAttr,aA,sx,d9,aD,aC,aI,f1,o1,k1,sr]
   (refine bM (hM) (by rfl) (by intro k;rfl) ?_);simp only [↓pre,simprocAttr,aA,sx,d9,aD,aC,aI,f1,o1,k1,k2,sr]
  ·rw [if_neg k1,if_neg k2] at hE
   rw [hE] at hres
   simp only [decide_true,Bool.true_and] at hres
   rw [hE] at hS hD hF
   clear hE
   generalize oF k r c w len=f at *
   generalize oS k r c w len=s at *
   generalize jQ w l=RB at *
   obtain ⟨d,hd⟩:∃ d,min f 1=d:=⟨_,rfl⟩
   rw [hd] at hD hres
   by_cases k3:dep=d
   ·rw [decide_eq_true k3.symm,Bool.true_and] at hres
    subst k3
    by_cases k4:dep=1
    ·rw [if_pos k4] at hres
     by_cases k5:(l.length:Int)=f
     ·rw [decide_eq_true k5,Bool.true_and] at hres
      subst hres
      replace hF0:=aB.mk hF0
      replace hd:=aB.mk hd
      cases RB with
      | true =>
       refine bB follows Tryz.func207 (by unfold Tryz.f207;rfl) (by unfold Tryz.f207;simp) aD (by unfold Tryz.f207;simp) (by kernel_rfl) ?_;unfold Tryz.f207
       simp only [↓pre,simprocAttr,aA,sx,d9,aD,aC,aI,f1,o1,k1,sr]
       (refine bM (hM) (by rfl) (by intro k;rfl) ?_);simp only [↓pre,simprocAttr,aA,sx,d9,aD,aC,aI,f1,o1,k1,k2,k4,k5,hv.len',sr];refine aL (hS) (by rfl) ?_;simp only [↓pre,simprocAttr,aA,sx,d9,aD,aC,aI,f1,o1,k1,k2,k4,k5,hv.len',sr];refine aL (hD) (by rfl) ?_;simp only [↓pre,simprocAttr,aA,sx,d9,aD,aC,aI,f1,o1,k1,k2,k4,k5,hv.len',sr];refine aL (hF) (by rfl) ?_;simp only [↓pre,simprocAttr,aA,sx,d9,aD,aC,aI,f1,o1,k1,k2,k4,k5,hv.len',sr];refine aL (hR) (by simp only [aA,aO, *]) ?_;simp only [↓pre,simprocAttr,aA,sx,d9,aD,aC,aI,f1,o1,k1,k2,k4,k5,hv.len',sr]
      | false =>
       refine bB follows Tryz.func207 (by unfold Tryz.f207;rfl) (by unfold Tryz.f207;simp) aD (by unfold Tryz.f207;simp) (by kernel_rfl) ?_;unfold Tryz.f207
       simp only [↓pre,simprocAttr,aA,sx,d9,aD,aC,aI,f1,o1,k1,sr]
       (refine bM (hM) (by rfl) (by intro k;rfl) ?_);simp only [↓pre,simprocAttr,aA,sx,d9,aD,aC,aI,f1,o1,k1,k2,k4,k5,hv.len',sr];refine aL (hS) (by rfl) ?_;simp only [↓pre,simprocAttr,aA,sx,d9,aD,aC,aI,f1,o1,k1,k2,k4,k5,hv.len',sr];refine aL (hD) (by rfl) ?_;simp only [↓pre,simprocAttr,aA,sx,d9,aD,aC,aI,f1,o1,k1,k2,k4,k5,hv.len',sr];refine aL (hF) (by rfl) ?_;simp only [↓pre,simprocAttr,aA,sx,d9,aD,aC,aI,f1,o1,k1,k2,k4,k5,hv.len',sr];refine aL (hR) (by simp only [aA,aO, *]) ?_;simp only [↓pre,simprocAttr,aA,sx,d9,aD,aC,aI,f1,o1,k1,k2,k4,k5,hv.len',sr]
     ·rw [decide_eq_false k5,Bool.false_and] at hres
      subst hres
      replace hF0:=aB.mk hF0
      replace hd:=aB.mk hd
      refine bB follows Tryz.func207 (by unfold Tryz.f207;rfl) (by unfold Tryz.f207;simp) aD (by unfold Tryz.f207;simp) (by kernel_rfl) ?_;unfold Tryz.f207
      simp only [↓pre,simprocAttr,aA,sx,d9,aD,aC,aI,f1,o1,k1,sr]
      (refine bM (hM) (by rfl) (by intro k;rfl) ?_);simp only [↓pre,simprocAttr,aA,sx,d9,aD,aC,aI,f1,o1,k1,k2,k4,k5,hv.len',sr];refine aL (hS) (by rfl) ?_;simp only [↓pre,simprocAttr,aA,sx,d9,aD,aC,aI,f1,o1,k1,k2,k4,k5,hv.len',sr];refine aL (hD) (by rfl) ?_;simp only [↓pre,simprocAttr,aA,sx,d9,aD,aC,aI,f1,o1,k1,k2,k4,k5,hv.len',sr];refine aL (hF) (by rfl) ?_;simp only [↓pre,simprocAttr,aA,sx,d9,aD,aC,aI,f1,o1,k1,k2,k4,k5,hv.len',sr]
    ·rw [if_neg k4] at hres
     by_cases k5:(l.length:Int)=s
     ·rw [decide_eq_true k5,Bool.true_and] at hres
      subst hres
      replace hF0:=aB.mk hF0
      replace hd:=aB.mk hd
      cases RB with
      | true =>
       refine bB follows Tryz.func207 (by unfold Tryz.f207;rfl) (by unfold Tryz.f207;simp) aD (by unfold Tryz.f207;simp) (by kernel_rfl) ?_;unfold Tryz.f207
       simp only [↓pre,simprocAttr,aA,sx,d9,aD,aC,aI,f1,o1,k1,sr]
       (refine bM (hM) (by rfl) (by intro k;rfl) ?_);simp only [↓pre,simprocAttr,aA,sx,d9,aD,aC,aI,f1,o1,k1,k2,k4,k5,hv.len',sr];refine aL (hS) (by rfl) ?_;simp only [↓pre,simprocAttr,aA,sx,d9,aD,aC,aI,f1,o1,k1,k2,k4,k5,hv.len',sr];refine aL (hD) (by rfl) ?_;simp only [↓pre,simprocAttr,aA,sx,d9,aD,aC,aI,f1,o1,k1,k2,k4,k5,hv.len',sr];refine aL (hF) (by rfl) ?_;simp only [↓pre,simprocAttr,aA,sx,d9,aD,aC,aI,f1,o1,k1,k2,k4,k5,hv.len',sr];refine aL (hR) (by simp only [aA,aO, *]) ?_;simp only [↓pre,simprocAttr,aA,sx,d9,aD,aC,aI,f1,o1,k1,k2,k4,k5,hv.len',sr]
      | false =>
       refine bB follows Tryz.func207 (by unfold Tryz.f207;rfl) (by unfold Tryz.f207;simp) aD (by unfold Tryz.f207;simp) (by kernel_rfl) ?_;unfold Tryz.f207
       simp only [↓pre,simprocAttr,aA,sx,d9,aD,aC,aI,f1,o1,k1,sr]
       (refine bM (hM) (by rfl) (by intro k;rfl) ?_);simp only [↓pre,simprocAttr,aA,sx,d9,aD,aC,aI,f1,o1,k1,k2,k4,k5,hv.len',sr];refine aL (hS) (by rfl) ?_;simp only [↓pre,simprocAttr,aA,sx,d9,aD,aC,aI,f1,o1,k1,k2,k4,k5,hv.len',sr];refine aL (hD) (by rfl) ?_;simp only [↓pre,simprocAttr,aA,sx,d9,aD,aC,aI,f1,o1,k1,k2,k4,k5,hv.len',sr];refine aL (hF) (by rfl) ?_;simp only [↓pre,simprocAttr,aA,sx,d9,aD,aC,aI,f1,o1,k1,k2,k4,k5,hv.len',sr];refine aL (hR) (by simp only [aA,aO, *]) ?_;simp only [↓pre,simprocAttr,aA,sx,d9,aD,aC,aI,f1,o1,k1,k2,k4,k5,hv.len',sr]
     ·rw [decide_eq_false k5,Bool.false_and] at hres
      subst hres
      replace hF0:=aB.mk hF0
      replace hd:=aB.mk hd
      refine bB follows Tryz.func207 (by unfold Tryz.f207;rfl) (by unfold Tryz.f207;simp) aD (by unfold Tryz.f207;simp) (by kernel_rfl) ?_;unfold Tryz.f207
      simp only [↓pre,simprocAttr,aA,sx,d9,aD,aC,aI,f1,o1,k1,sr]
      (refine bM (hM) (by rfl) (by intro k;rfl) ?_);simp only [↓pre,simprocAttr,aA,sx,d9,aD,aC,aI,f1,o1,k1,k2,k4,k5,hv.len',sr];refine aL (hS) (by rfl) ?_;simp only [↓pre,simprocAttr,aA,sx,d9,aD,aC,aI,f1,o1,k1,k2,k4,k5,hv.len',sr];refine aL (hD) (by rfl) ?_;simp only [↓pre,simprocAttr,aA,sx,d9,aD,aC,aI,f1,o1,k1,k2,k4,k5,hv.len',sr];refine aL (hF) (by rfl) ?_;simp only [↓pre,simprocAttr,aA,sx,d9,aD,aC,aI,f1,o1,k1,k2,k4,k5,hv.len',sr]
   ·rw [decide_eq_false (fun h=>k3 h.symm),Bool.false_and] at hres
    subst hres
    replace hF0:=aB.mk hF0
    replace hd:=aB.mk hd
    by_cases k4:d=1
    ·have k3:¬ dep=1:=by rw [←k4];exact k3
     refine bB follows Tryz.func207 (by unfold Tryz.f207;rfl) (by unfold Tryz.f207;simp) aD (by unfold Tryz.f207;simp) (by kernel_rfl) ?_;unfold Tryz.f207
     simp only [↓pre,simprocAttr,aA,sx,d9,aD,aC,aI,f1,o1,k1,sr]
     (refine bM (hM) (by rfl) (by intro k;rfl) ?_);simp only [↓pre,simprocAttr,aA,sx,d9,aD,aC,aI,f1,o1,k1,k2,k3,k4,sr];refine aL (hS) (by rfl) ?_;simp only [↓pre,simprocAttr,aA,sx,d9,aD,aC,aI,f1,o1,k1,k2,k3,k4,sr];refine aL (hD) (by rfl) ?_;simp only [↓pre,simprocAttr,aA,sx,d9,aD,aC,aI,f1,o1,k1,k2,k3,k4,sr];refine aL (hF) (by rfl) ?_;simp only [↓pre,simprocAttr,aA,sx,d9,aD,aC,aI,f1,o1,k1,k2,k3,k4,sr]
    ·refine bB follows Tryz.func207 (by unfold Tryz.f207;rfl) (by unfold Tryz.f207;simp) aD (by unfold Tryz.f207;simp) (by kernel_rfl) ?_;unfold Tryz.f207
     simp only [↓pre,simprocAttr,aA,sx,d9,aD,aC,aI,f1,o1,k1,sr]
     (refine bM (hM) (by rfl) (by intro k;rfl) ?_);simp only [↓pre,simprocAttr,aA,sx,d9,aD,aC,aI,f1,o1,k1,k2,k3,k4,sr];refine aL (hS) (by rfl) ?_;simp only [↓pre,simprocAttr,aA,sx,d9,aD,aC,aI,f1,o1,k1,k2,k3,k4,sr];refine aL (hD) (by rfl) ?_;simp only [↓pre,simprocAttr,aA,sx,d9,aD,aC,aI,f1,o1,k1,k2,k3,k4,sr];refine aL (hF) (by rfl) ?_;simp only [↓pre,simprocAttr,aA,sx,d9,aD,aC,aI,f1,o1,k1,k2,k3,k4,sr]
theorem aer (v:AV) (n:Nat) (bs:List UInt8) (x:List AV) (hv:bD v n (aQ bs++x)) (hn:n≤bs.length) (hn4:n≤4):aY Tryz.prog 205 [v] ⟨aE (dL (bs.take n):Nat),[]⟩:=by
 have hp:=hv.plain
 refine bB follows Tryz.func205 (by unfold Tryz.f205;rfl) (by unfold Tryz.f205;simp) aD (by unfold Tryz.f205;simp) (by kernel_rfl) ?_;unfold Tryz.f205
 simp only [↓pre,simprocAttr,aA,sx,afL,aD,aC,aM,cV]
 rw [b7]
 refine b8 (fun q e m=>∃ i,q+i=n∧e 0=v∧e 4=aE (i:Nat)∧e 3=aE (dL (bs.take i):Nat)) n ⟨0,by omega,rfl,rfl,by simp [bI.set,aE,dL]⟩ ?_
 rintro q e m ⟨i,hi,e0,e4,e3⟩
 replace hi:=aB.mk hi
 by_cases hlt:i < n
 ·have hlt':((i:Nat):Int) < ((n:Nat):Int):=by omega
  obtain ⟨a,ha⟩:∃ a,bs[i]? = some a:=⟨_,List.getElem?_eq_getElem (by omega)⟩
  have a1:=lL (x:=x) ha
  have a2:=adJ ha
  have hle:=yL i bs
  have ha256:=a.toNat_lt
  have w1:=cF (n:=i) (by omega)
  have hpow:256 ^ i≤256 ^ 3:=Nat.pow_le_pow_right (by decide) (by omega)
  have h3:256 ^ 3=16777216:=by decide
  have w5:IntKind.i64.wrap (a.toNat:Int)=(a.toNat:Int):=dE (by omega)
  have w7:IntKind.i64.wrap (256*((dL (bs.take i):Nat):Int))=((dL (bs.take i)*256:Nat):Int):=by
   rw [show (256*((dL (bs.take i):Nat):Int))=((dL (bs.take i)*256:Nat):Int) by omega]
   exact dE (by omega)
  have w8:IntKind.i64.wrap (((dL (bs.take i)*256:Nat):Int)+(a.toNat:Int))=((dL (bs.take i)*256+a.toNat:Nat):Int):=by
   rw [←Int.natCast_add]
   exact dE (by omega)
  replace hle:=aB.mk hle
  replace hpow:=aB.mk hpow
  replace ha256:=aB.mk ha256
  replace a2:=aB.mk a2
  simp only [↓pre,simprocAttr,aA,sx,afL,aD,aC,aM,cV,e0,e4,e3,hlt',hv.len',hv.addr',hlt,Nat.mul_one,a1,w1,w5,w7,w8,dC,cS]
  exact ⟨q - 1,by have:=hi.out;omega,i+1,by have:=hi.out;omega,rfl,by rw [a2.out]⟩
 ·have hlt':¬ ((i:Nat):Int) < ((n:Nat):Int):=by omega
  have hi4:i=n:=by have:=hi.out;omega
  subst hi4
  simp only [↓pre,simprocAttr,aA,sx,afL,aD,aC,e0,e4,e3,hlt',hv.len',dC,cS]
theorem anr (v:AV) (bs:List UInt8) (x:List AV) (n:Nat) (hv:bD v bs.length (aQ bs++x)) (hn:6*n≤bs.length) (hb:bs.length≤100000):aY Tryz.prog 206 [v,aE (n:Nat)] ⟨bE n (bW (dQ bs n)),[]⟩:=by
 refine dY ?_
 refine bJ follows Tryz.func206 (by unfold Tryz.f206;rfl) (by unfold Tryz.f206;simp) aD (by unfold Tryz.f206;simp) (by kernel_rfl) ?_;unfold Tryz.f206
 simp only [↓pre,simprocAttr,aA,sx,aau,aD,aC,aM,a8,Option.map_none,Option.map_some,sr]
 rw [b7]
 refine b8 (fun q e m=>∃ i lv,q+i=n∧e 0=v∧e 1=aE (n:Nat)∧e 5=lv∧e 6=aE (i:Nat)∧aB (eM m 67 2 lv i (bW (dQ bs i)))) n ⟨0,aP,by omega,rfl,rfl,rfl,rfl,⟨gT⟩⟩ ?_
 rintro q e m ⟨i,lv,hq,e0,e1,e5,e6,hJ⟩
 replace hq:=aB.mk hq
 by_cases hlt:i < n
 ·have hlt':((i:Nat):Int) < ((n:Nat):Int):=by omega
  have wi:=cF (n:=i) (by omega)
  have w1:IntKind.i64.wrap (6*((i:Nat):Int))=((6*i:Nat):Int):=by rw [show 6*((i:Nat):Int)=((6*i:Nat):Int) by omega];exact dE (by omega)
  have w2:IntKind.i64.wrap (((6*i:Nat):Int)+2)=((6*i+2:Nat):Int):=by rw [show ((6*i:Nat):Int)+2=((6*i+2:Nat):Int) by omega];exact dE (by omega)
  have w3:IntKind.i64.wrap (((6*i:Nat):Int)+6)=((6*i+6:Nat):Int):=by rw [show ((6*i:Nat):Int)+6=((6*i+6:Nat):Int) by omega];exact dE (by omega)
  obtain ⟨v1,s1,r1⟩:=hv.slice (P:=Tryz.prog) (t:=52) (sz:=1) (lo:=some (6*i)) (hi:=some (6*i+2)) (by kernel_rfl) (by simp) (by simp only [Option.getD_some];omega)
  obtain ⟨v2,s2,r2⟩:=hv.slice (P:=Tryz.prog) (t:=52) (sz:=1) (lo:=some (6*i+2)) (hi:=some (6*i+6)) (by kernel_rfl) (by simp) (by simp only [Option.getD_some];omega)
  simp only [Option.getD_some,Nat.mul_one] at r1 r2
  rw [show 6*i+2 - 6*i=2 by omega,rG _ x _ (by omega)] at r1
  rw [show 6*i+6 - (6*i+2)=4 by omega,rG _ x _ (by omega)] at r2
  have c1:=aer v1 2 (bs.drop (6*i)) x r1 (by rw [List.length_drop];omega) (by omega)
  have c2:=aer v2 4 (bs.drop (6*i+2)) x r2 (by rw [List.length_drop];omega) (by omega)
  have pl1:=r1.plain
  have pl2:=r2.plain
  have hso:=amA bs i
  have href:aeg bs i=(((dL ((bs.drop (6*i)).take 2):Nat):Int),((dL ((bs.drop (6*i+2)).take 4):Nat):Int)):=rfl
  generalize dL ((bs.drop (6*i)).take 2)=b1 at *
  generalize dL ((bs.drop (6*i+2)).take 4)=b2 at *
  replace hso:=aB.mk hso
  replace href:=aB.mk href
  replace r1:=aB.mk r1
  replace r2:=aB.mk r2
  have hbt:∀ m,fV Tryz.prog m 31 1 [(0,.agg [.val (.int .i64 (b1:Nat)),.val (.int .i64 (b2:Nat))])]=some ⟨.tree 1 1 [.val (.int .i64 (b1:Nat)),.val (.int .i64 (b2:Nat))] true,m,none⟩:=fun m=>ajL rfl rfl (by kernel_rfl) (by kernel_rfl)
  simp only [↓pre,simprocAttr,aA,sx,aau,aD,aC,aM,a8,Option.map_none,Option.map_some,e0,e1,e5,e6,hv.slOk,hv.sliceX,w1,w2,w3,s1,s2,hlt',sr]
  (refine bM (c1) (by simp only [aA,aO, *]) (by intro k;rfl) ?_);simp only [↓pre,simprocAttr,aA,sx,aau,aD,aC,aM,a8,Option.map_none,Option.map_some,e0,e1,e5,e6,hv.slOk,hv.sliceX,w1,w2,w3,s1,s2,hbt,sr];(refine bM (c2) (by simp only [aA,aO, *]) (by intro k;rfl) ?_);simp only [↓pre,simprocAttr,aA,sx,aau,aD,aC,aM,a8,Option.map_none,Option.map_some,e0,e1,e5,e6,hv.slOk,hv.sliceX,w1,w2,w3,s1,s2,hbt,sr]
  refine qE (sz:=2) (y:=16) (zl:=[.int .i64 0,.int .i64 0]) (by kernel_rfl) hJ.out (by kernel_rfl) (by kernel_rfl) (by kernel_rfl) rfl abz rfl (by omega) (by omega) ?_
  intro lv' m' ho' hn'
  refine cU (by kernel_rfl) ?_
  simp only [↓pre,simprocAttr,aA,sx,aau,aD,aC,aM,a8,Option.map_none,Option.map_some,e0,e1,e5,e6,wi,sr]
  refine ⟨q - 1,by have:=hq.out;omega,i+1,lv',by have:=hq.out;omega,rfl,rfl,⟨?_⟩⟩
  rw [hso.out,aee,href.out]
  exact ho'
 ·have hlt':¬ ((i:Nat):Int) < ((n:Nat):Int):=by omega
  have hi:i=n:=by have:=hq.out;omega
  subst hi
  simp only [↓pre,simprocAttr,aA,sx,aau,aD,aC,aM,a8,Option.map_none,Option.map_some,e0,e1,e5,e6,hlt',sr]
  exact ⟨0,yY hJ.out 0⟩
theorem agX (N c:Nat):cO ((N:Nat):Int) (c+1)=UInt8.ofNat (N / 256 ^ c)::cO ((N:Nat):Int) c:=by
 have h:(((N:Nat):Int) / 2 ^ (8*c)).toNat=N / 256 ^ c:=by
  have:((2:Int) ^ (8*c))=((256 ^ c:Nat):Int):=by
   rw [Int.pow_mul,Int.natCast_pow]
   rfl
  rw [this,←Int.natCast_ediv,Int.toNat_natCast]
 show UInt8.ofNat (((N:Nat):Int) / 2 ^ (8*c)).toNat::_=_
 rw [h]
theorem ans (N:Nat):∀ (c j:Nat),j < c→(cO ((N:Nat):Int) c).drop j=UInt8.ofNat (N / 256 ^ (c - 1 - j))::(cO ((N:Nat):Int) c).drop (j+1)
 | 0,j,h=>by omega
 | c+1,0,h=>by rw [agX];rfl
 | c+1,j+1,h=>by
  rw [agX,List.drop_succ_cons,List.drop_succ_cons,ans N c j (by omega),show c+1 - 1 - (j+1)=c - 1 - j by omega]
theorem aes (N c:Nat) (hN:N≤1073741824) (hc:c≤4):aY Tryz.prog 257 [aE (N:Nat),aE (c:Nat)] ⟨.tree c c (aQ (cO (N:Nat) c)) true,[]⟩:=by
 refine dY ?_
 have hmk:=fun m=>qK m (n:=c) (by omega)
 have hnl:=j7 ((N:Nat):Int) c
 have hdp:=ans N c
 have hz:=amx c
 generalize cO ((N:Nat):Int) c=B at *
 replace hdp:=aB.mk hdp
 replace hnl:=aB.mk hnl
 have w0:IntKind.i64.wrap (((c:Nat):Int) - 1)=((c:Nat):Int) - 1:=dU (by omega) (by omega)
 refine bJ follows Tryz.func257 (by unfold Tryz.f257;rfl) (by unfold Tryz.f257;simp) aD (by unfold Tryz.f257;simp) (by kernel_rfl) ?_;unfold Tryz.f257
 simp only [↓pre,simprocAttr,aA,sx,afN,aD,aC,aI,aM,aJ,aF,aG,hmk,w0,sr]
 rw [b7]
 refine b8 (fun q e m=>q≤c∧e 0=aE ((N / 256 ^ (c - q):Nat):Int)∧e 5 = .sl 0 0 c c true∧e 6=aE (((q:Nat):Int) - 1)∧aB (m.at_ 0=some ⟨aQ (List.replicate q 0++B.drop q),5,.flat,true⟩)) c ⟨Nat.le_refl _,by rw [Nat.sub_self,Nat.pow_zero,Nat.div_one];rfl,rfl,rfl,⟨by rw [aG,if_pos aW.symm,hz,List.drop_of_length_le (by have:=hnl.out;omega),List.append_nil]⟩⟩ ?_
 rintro q e m ⟨hq,e0,e5,e6,hJ⟩
 replace hq:=aB.mk hq
 cases q with
 | zero =>
  have hno:¬ (0:Int)≤((0:Nat):Int) - 1:=by omega
  have hb:=hJ.out
  rw [List.drop_zero] at hb
  simp only [↓pre,simprocAttr,aA,sx,afN,aD,aC,aI,aM,aJ,aF,aG,hmk,e0,e5,e6,hno,sr]
  exact ⟨0,by rw [sJ hb,List.drop_zero];rfl⟩
 | succ d =>
  have hyes:(0:Int)≤((d:Nat):Int):=by omega
  rw [show ((d+1:Nat):Int) - 1=((d:Nat):Int) by omega] at e6
  have w2:IntKind.i64.wrap (((d:Nat):Int) - 1)=((d:Nat):Int) - 1:=dU (by omega) (by have:=hq.out;omega)
  obtain ⟨Z,hZ⟩:∃ Z,N / 256 ^ (c - (d+1))=Z:=⟨_,rfl⟩
  have hZN:Z≤N:=by rw [←hZ];exact Nat.div_le_self _ _
  have hZ2:N / 256 ^ (c - d)=Z / 256:=by rw [←hZ,Nat.div_div_eq_div_mul,←Nat.pow_succ,show (c - (d+1)).succ=c - d by have:=hq.out;omega]
  have hdr:=hdp.out d (by have:=hq.out;omega)
  rw [show c - 1 - d=c - (d+1) by omega,hZ] at hdr
  rw [hZ] at e0
  have hdc:d < c:=by have:=hq.out;omega
  have wr:IntKind.u8.wrap (((Z:Nat):Int).tmod 256)=((UInt8.ofNat Z).toNat:Int):=by
   have h1:((Z:Nat):Int).tmod 256=((Z % 256:Nat):Int):=by rw [Int.tmod_eq_emod_of_nonneg (by omega)];omega
   rw [h1,ac9]
   congr 2
   exact UInt8.ofNat_mod_size
  have wq:IntKind.i64.wrap (((Z:Nat):Int).tdiv 256)=((Z / 256:Nat):Int):=by
   have h1:((Z:Nat):Int).tdiv 256=((Z / 256:Nat):Int):=by rw [Int.tdiv_eq_ediv_of_nonneg (by omega)];omega
   rw [h1]
   exact dE (by omega)
  have hb:=hJ.out
  have hlen:(aQ (List.replicate (d+1) 0++B.drop (d+1))).length=c:=by rw [gH,List.length_append,List.length_replicate,List.length_drop];have:=hnl.out;omega
  have hl1:d+1≤(aQ (List.replicate (d+1) 0++B.drop (d+1))).length:=by rw [hlen];omega
  have hput:List.take d (aQ (List.replicate (d+1) 0++B.drop (d+1)))++[AV.val (.int .u8 ((UInt8.ofNat Z).toNat:Int))]++List.drop (d+1) (aQ (List.replicate (d+1) 0++B.drop (d+1)))=aQ (List.replicate d 0++B.drop d):=by
   rw [hdr,List.replicate_succ',pQ,pQ,pQ]
   have h1:(aQ (List.replicate d 0)).length=d:=by rw [gH,List.length_replicate]
   have h2:(aQ (List.replicate d 0)++aQ [0]).length=d+1:=by rw [List.length_append,h1];rfl
   rw [List.append_assoc (aQ (List.replicate d 0)),List.take_left' h1,←List.append_assoc,List.drop_left' h2]
   unfold aQ
   rw [List.map_cons,List.append_assoc]
   rfl
  generalize hC:aQ (List.replicate (d+1) 0++B.drop (d+1))=CL at *
  replace hZ:=aB.mk hZ
  replace hdr:=aB.mk hdr
  replace hC:=aB.mk hC
  replace hlen:=aB.mk hlen
  replace hJ:=aB.mk hJ
  replace hZN:=aB.mk hZN
  simp only [↓pre,simprocAttr,aA,sx,afN,aD,aC,aI,aM,aJ,aF,aG,hmk,e0,e5,e6,hyes,w2,hdc,wr,wq,hb,hl1,hput,sr]
  exact ⟨d,by omega,by have:=hq.out;omega,by rw [hZ2],rfl,⟨by simp [aF,hput]⟩⟩
theorem aet {n:Int} (h:0≤n):∃ N:Nat,n=(N:Int):=⟨n.toNat,by omega⟩
theorem aud (l:List b9) (y:b9):dN (l++[y])=dN l++(cO y.1 2++cO y.2 4):=by simp [dN]
theorem agY {m:aH} (bs:List UInt8) (n:Nat) (f:Bool) (h:bs.length=n):fW Tryz.prog 5 1 m (.tree n n (aQ bs) f)=some (aQ bs,n):=by
 rw [aby (by rw [gH];omega),Nat.mul_one,List.take_of_length_le (by rw [gH];omega)]
theorem ant (v:AV) (l:List b9) (hv:qM v l) (hn:l.length≤1000) (hl:∀ x∈l,(0≤x.1∧x.1≤1073741824)∧0≤x.2∧x.2≤1073741824):aY Tryz.prog 249 [v] ⟨bE (l.length*6) (aQ (dN l)),[]⟩:=by
 refine dY ?_
 obtain ⟨x,hv⟩:=hv
 have hp:=hv.plain
 replace hl:=aB.mk hl
 replace hn:=aB.mk hn
 refine bJ follows Tryz.func249 (by unfold Tryz.f249;rfl) (by unfold Tryz.f249;simp) aD (by unfold Tryz.f249;simp) (by kernel_rfl) ?_;unfold Tryz.f249
 simp only [↓pre,simprocAttr,aA,sx,yD,aD,aC,aI,aM,sr]
 rw [b7]
 refine b8 (fun q e m=>∃ i lv,q+i=l.length∧e 0=v∧e 3=lv∧e 4=aE (i:Nat)∧aB (eM m 5 1 lv (i*6) (aQ (dN (l.take i))))) l.length ⟨0,aP,by omega,rfl,rfl,rfl,⟨gT⟩⟩ ?_
 rintro q e m ⟨i,lv,hq,e0,e3,e4,hJ⟩
 replace hq:=aB.mk hq
 by_cases hlt:i < l.length
 ·have hlt':((i:Nat):Int) < ((l.length:Nat):Int):=by omega
  have wi:=cF (n:=i) (by have:=hn.out;omega)
  obtain ⟨y,hy⟩:∃ y,l[i]? = some y:=⟨_,List.getElem?_eq_getElem hlt⟩
  obtain ⟨ha,hb⟩:=vB l x i y hy
  have hy2:=hl.out y (List.mem_of_getElem? hy)
  have htk:l.take (i+1)=l.take i++[y]:=by rw [List.take_add_one,hy];rfl
  obtain ⟨A,hA⟩:=aet hy2.1.1
  obtain ⟨B,hB⟩:=aet hy2.2.1
  have c1:=aes A 2 (by omega) (by omega)
  have c2:=aes B 4 (by omega) (by omega)
  have hsn:=aud (l.take i) y
  rw [←htk,hA,hB] at hsn
  rw [hA] at ha
  rw [hB] at hb
  have s1:=fun m:aH=>agY (m:=m) (cO (A:Nat) 2) 2 true (j7 _ _)
  have s2:=fun m:aH=>agY (m:=m) (cO (B:Nat) 4) 4 true (j7 _ _)
  have n1:=j7 ((A:Nat):Int) 2
  have n2:=j7 ((B:Nat):Int) 4
  generalize cO ((A:Nat):Int) 2=NA at *
  generalize cO ((B:Nat):Int) 4=NB at *
  simp only [aE] at ha hb c1 c2
  replace hy:=aB.mk hy
  replace hA:=aB.mk hA
  replace hB:=aB.mk hB
  replace hy2:=aB.mk hy2
  replace htk:=aB.mk htk
  replace hsn:=aB.mk hsn
  replace n1:=aB.mk n1
  replace n2:=aB.mk n2
  simp only [↓pre,simprocAttr,aA,sx,yD,aD,aC,aI,aM,e0,e3,e4,hlt',hv.len',hv.addr',hlt,ha,sr]
  refine aL (c1) (by rfl) ?_;simp only [↓pre,simprocAttr,aA,sx,yD,aD,aC,aI,aM,e0,e3,e4,sr]
  refine qE (kd := .flat) (sz:=1) (y:=1) (zl:=[.int .u8 0]) (by kernel_rfl) hJ.out (by kernel_rfl) (by kernel_rfl) (by kernel_rfl) rfl (s1 _) (by rw [gH,Nat.mul_one];exact n1.out) (by have:=hn.out;omega) (by have:=hn.out;omega) ?_
  intro lv1 m1 ho1 hn1
  replace ho1:=aB.mk ho1
  simp only [↓pre,simprocAttr,aA,sx,yD,aD,aC,aI,aM,e0,e3,e4,hlt,hv.addr',hb,sr]
  refine aL (c2) (by rfl) ?_;simp only [↓pre,simprocAttr,aA,sx,yD,aD,aC,aI,aM,e0,e3,e4,sr]
  refine qE (kd := .flat) (sz:=1) (y:=1) (zl:=[.int .u8 0]) (by kernel_rfl) ho1.out (by kernel_rfl) (by kernel_rfl) (by kernel_rfl) rfl (s2 _) (by rw [gH,Nat.mul_one];exact n2.out) (by have:=hn.out;omega) (by have:=hn.out;omega) ?_
  intro lv2 m2 ho2 hn2
  have ho3:eM m2 5 1 lv2 ((i+1)*6) (aQ (dN (l.take (i+1)))):=by
   rw [hsn.out,pQ,pQ,←List.append_assoc,show (i+1)*6=i*6+2+4 by omega]
   exact ho2
  replace ho3:=aB.mk ho3
  clear ho2
  simp only [↓pre,simprocAttr,aA,sx,yD,aD,aC,aI,aM,e0,e3,e4,wi,sr]
  exact ⟨q - 1,by have:=hq.out;omega,i+1,lv2,by have:=hq.out;omega,rfl,rfl,ho3⟩
 ·have hlt':¬ ((i:Nat):Int) < ((l.length:Nat):Int):=by omega
  have hi:i=l.length:=by have:=hq.out;omega
  have hfin:=hJ.out
  rw [hi,List.take_length] at hfin
  replace hfin:=aB.mk hfin
  simp only [↓pre,simprocAttr,aA,sx,yD,aD,aC,aI,aM,e0,e3,e4,hlt',hv.len',sr]
  exact ⟨0,yY hfin.out 0⟩
theorem aue (bs:List UInt8):aZ bs.length (fun j=>bs.getD j 0)=aQ bs:=by
 unfold aZ tab aQ
 congr 1
 refine List.ext_getElem? fun i => ?_
 rw [List.getElem?_map]
 by_cases h:i < bs.length
 ·rw [List.getElem?_range h,List.getElem?_eq_getElem h,Option.map_some,List.getD_eq_getElem?_getD,List.getElem?_eq_getElem h]
  rfl
 ·rw [List.getElem?_eq_none (by simpa using h),List.getElem?_eq_none (by omega)]
  rfl
theorem auf {bs:List UInt8} {W:Nat} (h:bs.length≤W):aZ W (fun j=>if j < bs.length then bs.getD j 0 else 0)=aQ (pU bs W):=by
 unfold aZ tab aQ pU
 congr 1
 refine List.ext_getElem? fun i => ?_
 rw [List.getElem?_map]
 by_cases h1:i < W
 ·rw [List.getElem?_range h1,Option.map_some]
  by_cases h2:i < bs.length
  ·rw [if_pos h2,List.getElem?_append_left h2,List.getD_eq_getElem?_getD,List.getElem?_eq_getElem h2]
   rfl
  ·rw [if_neg h2,List.getElem?_append_right (by omega),List.getElem?_replicate,if_pos (by omega)]
 ·rw [List.getElem?_eq_none (by simpa using h1),List.getElem?_eq_none (by simp;omega)]
  rfl
theorem anu (k r c w:Int) (hm:bL k r c w=true) (v:AV) (bs:List UInt8) (x:List AV) (hv:bD v bs.length (aQ bs++x)) (hl:bs.length≤(wI k c).toNat):aY Tryz.prog 248 [aA k r c w,v] ⟨.tree (wI k c).toNat (wI k c).toNat (aQ (pU bs (wI k c).toNat)) true,[]⟩:=by
 refine dY ?_
 have h1:=wQ k r c w hm
 have hw:=gU hm
 obtain ⟨W,hW⟩:∃ W:Nat,wI k c=(W:Int):=⟨(wI k c).toNat,by unfold wI;omega⟩
 have hWn:(wI k c).toNat=W:=by omega
 have hW8:W≤768:=by unfold wI at hW;omega
 rw [hWn] at hl ⊢
 rw [hW] at h1
 have hp:=hv.plain
 have hmk:=fun m=>qK m (n:=W) (by omega)
 have hcp:=fun (m:aH) (b:Nat) (f:Bool) hb=>ank (m:=m) (b:=b) (f:=f) (w:=W) hb (F:=fun j=>bs.getD j 0) (x:=x) (v:=v) (n:=bs.length) (by rw [aue];exact hv) hl
 rw [auf hl] at hcp
 have hcp2:=hcp (aH.empty.push ⟨aZ W fun _=>0,5,.flat,true⟩) aH.empty.next true (by rw [aG,if_pos rfl])
 replace hcp:=aB.mk hcp
 refine bJ follows Tryz.func248 (by unfold Tryz.f248;rfl) (by unfold Tryz.f248;simp) aD (by unfold Tryz.f248;simp) (by kernel_rfl) ?_;unfold Tryz.f248
 simp only [↓pre,simprocAttr,aA,sx,akM,aD,aC,sr]
 refine aL (h1) (by rfl) ?_;simp only [↓pre,simprocAttr,aA,sx,akM,aD,aC,hmk,jR,hcp2,sr]
 exact ⟨0,by rw [sJ (by rw [aF,if_pos rfl]),List.drop_zero]⟩
theorem aug (k r c w len dep:Int) (v:AV) (l:List b9) (hv:qM v l) (hc:lE k r c w len dep l=0):aY Tryz.prog 200 [aA k r c w,.agg [aE len,aE dep,v]] ⟨.tree (wI k c).toNat (wI k c).toNat (aQ (lQ k c len dep l)) true,[]⟩:=by
 refine dY ?_
 obtain ⟨hlen0,hlen1,hdep,hll,hlr⟩:=y8 hc
 obtain ⟨hm,_⟩:=acg hc
 have hw:=gU hm
 have hdb:=wP hw.1 hw.2
 have hl126:l.length≤126:=by unfold dI at hll;omega
 obtain ⟨A,rfl⟩:=aet hlen0
 obtain ⟨D,rfl⟩:=aet (n:=dep) (by omega)
 have c1:=aes A 4 (by omega) (by omega)
 have c2:=aes l.length 2 (by omega) (by omega)
 have c3:=ant v l hv (by omega) (fun x hx=>by have:=hlr x hx;have:=jE.1 hm;omega)
 have hfit:(nP (A:Nat) (D:Nat) l.length++dN l).length≤(wI k c).toNat:=by
  unfold nP
  simp only [List.length_append,j7,pP]
  unfold dI at hll
  unfold wI
  omega
 have c4:=fun v hv=>anu k r c w hm v (nP (A:Nat) (D:Nat) l.length++dN l) [] hv hfit
 obtain ⟨x,hv⟩:=hv
 have f1:=cA hv
 have q1:=bP hv
 have hp:=hv.plain
 have hhead:nP ((A:Nat):Int) ((D:Nat):Int) l.length=cO (A:Nat) 4++([UInt8.ofNat D]++cO ((l.length:Nat):Int) 2):=by
  unfold nP
  rw [agX D 0]
  simp [cO]
 have hmade:lQ k c ((A:Nat):Int) ((D:Nat):Int) l=pU (nP (A:Nat) (D:Nat) l.length++dN l) (wI k c).toNat:=rfl
 rw [hmade]
 have n1:=j7 ((A:Nat):Int) 4
 have n2:=j7 ((l.length:Nat):Int) 2
 have s2:=fun m:aH=>agY (m:=m) (cO ((l.length:Nat):Int) 2) 2 true n2
 have hT:=dH (l.length*6) (aQ (dN l))
 have s3:=fun m:aH=>bD.src (P:=Tryz.prog) (el:=5) (sz:=1) (m:=m) hT (by rw [gH,pP];omega)
 rw [Nat.mul_one,List.take_of_length_le (by rw [gH,pP];exact Nat.le_refl _)] at s3
 have t3:=cK hT
 have hrl:(aQ (dN l)).length=l.length*6:=by rw [gH,pP]
 generalize bE (l.length*6) (aQ (dN l))=TV at *
 have happ:∀ m:aH,fX Tryz.prog 5 m (.tree 4 4 (aQ (cO (A:Nat) 4)) true) (.tree 1 1 [.val (.int .u8 ((UInt8.ofNat D).toNat:Int))] true)=some ⟨.sl m.next 0 5 5 false,m.push ⟨aQ (cO (A:Nat) 4)++[.val (.int .u8 ((UInt8.ofNat D).toNat:Int))],5,.flat,true⟩,none⟩:=fun m=>by
  have g1:cG Tryz.prog 5=some 1:=by kernel_rfl
  have g2:j8 Tryz.prog 5=some 1:=by kernel_rfl
  have g3:gB Tryz.prog 5=some [.int .u8 0]:=by kernel_rfl
  have g4:bR Tryz.prog 5 = .flat:=by kernel_rfl
  have hbl:(aQ (cO ((A:Nat):Int) 4)).length=4:=by rw [gH,n1]
  simp only [fX,g1,g2,g3,g4,mH,d6,Option.bind_some]
  simp [bK,hbl,List.take_of_length_le]
 generalize hNA:cO ((A:Nat):Int) 4=NA at *
 generalize hNL:cO ((l.length:Nat):Int) 2=NL at *
 generalize nP ((A:Nat):Int) ((D:Nat):Int) l.length=HB at *
 have hap2:∀ m:aH,eM (m.push ⟨aQ NA++[.val (.int .u8 ((UInt8.ofNat D).toNat:Int))],5,.flat,true⟩) 5 1 (.sl m.next 0 5 5 false) 5 (aQ NA++[.val (.int .u8 ((UInt8.ofNat D).toNat:Int))]):=fun m=>⟨.inr ⟨m.next,rfl,by rw [aG,if_pos rfl],by rw [bO];omega,by omega⟩,by rw [List.length_append,gH,n1];rfl⟩
 simp only [aE] at c1 c2
 replace hlr:=aB.mk hlr
 replace hfit:=aB.mk hfit
 replace hap2:=aB.mk hap2
 replace n1:=aB.mk n1
 replace n2:=aB.mk n2
 replace hhead:=aB.mk hhead
 replace hrl:=aB.mk hrl
 replace hc:=aB.mk hc
 replace hNA:=aB.mk hNA
 replace hNL:=aB.mk hNL
 replace hdep:=aB.mk hdep
 replace hmade:=aB.mk hmade
 replace c4:=aB.mk c4
 refine bJ follows Tryz.func200 (by unfold Tryz.f200;rfl) (by unfold Tryz.f200;simp) aD (by unfold Tryz.f200;simp) (by kernel_rfl) ?_;unfold Tryz.f200
 simp only [↓pre,simprocAttr,aA,sx,yB,aD,aC,aI,aM,f1,q1,sr]
 refine aL (c1) (by rfl) ?_;simp only [↓pre,simprocAttr,aA,sx,yB,aD,aC,aI,aM,f1,q1,happ,hv.len',sr];refine aL (c2) (by rfl) ?_;simp only [↓pre,simprocAttr,aA,sx,yB,aD,aC,aI,aM,f1,q1,happ,hv.len',sr]
 refine qE (kd := .flat) (sz:=1) (y:=1) (zl:=[.int .u8 0]) (by kernel_rfl) (hap2.out _) (by kernel_rfl) (by kernel_rfl) (by kernel_rfl) rfl (s2 _) (by rw [gH,Nat.mul_one];exact n2.out) (by omega) (by omega) ?_
 intro lv1 m1 ho1 hn1
 replace ho1:=aB.mk ho1
 simp only [↓pre,simprocAttr,aA,sx,yB,aD,aC,aI,aM,f1,q1,sr]
 refine aL (c3) (by simp only [aA,aO, *]) ?_;simp only [↓pre,simprocAttr,aA,sx,yB,aD,aC,aI,aM,f1,q1,t3,sr]
 refine qE (kd := .flat) (sz:=1) (y:=1) (zl:=[.int .u8 0]) (by kernel_rfl) ho1.out (by kernel_rfl) (by kernel_rfl) (by kernel_rfl) rfl (s3 _) (by rw [Nat.mul_one];exact hrl.out) (by omega) (by omega) ?_
 intro lv2 m2 ho2 hn2
 have hcs:aQ NA++[.val (.int .u8 ((UInt8.ofNat D).toNat:Int))]++aQ NL++aQ (dN l)=aQ (HB++dN l):=by
  rw [hhead.out]
  simp [pQ,aQ,aU]
 have hcl:5+2+l.length*6=(HB++dN l).length:=by
  rw [hhead.out]
  rw [List.length_append,List.length_append,List.length_append,pP,n1.out,n2.out,List.length_cons,List.length_nil]
 rw [hcs,hcl] at ho2
 obtain ⟨av,m3,hfz,hav,_⟩:=(x6 ho2 (.inl rfl)).fz
 have c5:=c4.out av (by rw [List.append_nil];exact hav)
 have hfs:fzs m2 [.agg [.val (.int .i64 k),.val (.int .i64 r),.val (.int .i64 c),.val (.int .i64 w)],lv2]=some ([.agg [.val (.int .i64 k),.val (.int .i64 r),.val (.int .i64 c),.val (.int .i64 w)],av],m3):=by simp [fzs,fz,hfz]
 have t5:=lF (wI k c).toNat (aQ (pU (HB++dN l) (wI k c).toNat)) true
 have s5:=cK t5
 generalize AV.tree (wI k c).toNat (wI k c).toNat (aQ (pU (HB++dN l) (wI k c).toNat)) true=WV at *
 simp only [aA,aE] at c5
 replace ho2:=aB.mk ho2
 replace hcs:=aB.mk hcs
 replace hcl:=aB.mk hcl
 simp only [↓pre,simprocAttr,aA,sx,yB,aD,aC,aI,aM,f1,q1,sr]
 refine xY c5 hfs ?_
 simp only [↓pre,simprocAttr,aA,sx,yB,aD,aC,aI,aM,f1,q1,s5,sr]
 exact ⟨0,aac t5⟩
end Go.Proofs.YtaekhhlgnbhnpaaGreat