import Derived.Test.YtaekhhlgnbhnpaaGreatNzcG27
import Derived.Test.YtaekhhlgnbhnpaaGreatNzcG20
import Derived.Test.YtaekhhlgnbhnpaaGreatNzcG23
set_option linter.unusedVariables false
set_option linter.unusedSimpArgs false
set_option maxRecDepth 10000
open Go.Proofs.Tryz renaming prog→ayS
open List renaming append_nil→aBi
namespace Go.Proofs.YtaekhhlgnbhnpaaGreat
open Go Go.Tw Go.Proofs Go.Gf
def o5 (el:TypeId) (n:Nat) (cells:List AV) (e:Int):fF:=⟨.tup [(fU el n cells).v,aC e],(fU el n cells).rows⟩
structure xJ (el:TypeId) (m m1:aF) (a:AV) (n:Nat) (cells:List AV):Prop where
 form:(a = .val (.slice none 0 0)∧n=0∧m1=m)∨(a = .sl m.next 0 n n false∧n≠0∧m1=m.push ⟨cells,el,.flat,true⟩)
theorem adt {el:TypeId} (hkd:bP ayS el = .flat) {d:Bool} {f:FuncId} {args:List AV} {m:aF} {K:bR→Prop} {n:Nat} {cells:List AV} {e:Int} (h:aR ayS f args (o5 el n cells e)) (hp:c9 args=true) (hk:∀ a m1,xJ el m m1 a n cells→K ⟨.tup [a,.val (.int .i64 e)],m1,none⟩):nO ayS d f args m K:=by
 (first | refine aH h hp ?_ | refine aG h hp (by intro k;first | rfl | simp only [ *,zaa]) ?_)
 unfold o5 fU
 by_cases h0:n=0
 ·rw [if_pos h0]
  have:=hk _ _ ⟨.inl ⟨rfl,h0,rfl⟩⟩
  simpa [shift,iG,dT,gO,aN,aC] using this
 ·rw [if_neg h0]
  have:=hk _ _ ⟨.inr ⟨rfl,h0,rfl⟩⟩
  simpa [shift,iG,dT,gO,hkd,aC] using this
theorem xJ.canon {el:TypeId} (hkd:bP ayS el = .flat) {m m1:aF} {a:AV} {n:Nat} {cells:List AV} (h:xJ el m m1 a n cells) (e:Int):jQ m1 (.tup [a,.val (.int .i64 e)]) (o5 el n cells e):=by
 unfold o5 fU
 rcases h.form with ⟨rfl,h0,rfl⟩ | ⟨rfl,h0,rfl⟩
 ·rw [if_pos h0]
  simp [jQ,jG,Go.Tw.canon,gP,aN,aC]
 ·rw [if_neg h0]
  simp [jQ,jG,Go.Tw.canon,gP,aT,hkd,aC]
theorem aau (el:TypeId) (cells:List AV) (m:aF) (e:Int):jQ m (.tup [.val (.slice none 0 0),.val (.int .i64 e)]) (o5 el 0 cells e):=by
 unfold o5 fU
 rw [if_pos rfl]
 simp [jQ,jG,Go.Tw.canon,gP,aN,aC]
def bkR (k r c w:Int) (L:List (List UInt8)):fF:=if jV k r c w L=0 then o5 3 4 (bK (eM k r c w L)) 0 else o5 3 0 [] (jV k r c w L)
theorem ayr (k r c w:Int) (v:AV) (L:List (List UInt8)) (cells:List AV) (hv:fQ v L cells):aR ayS 48 [dD k r c w v] (bkR k r c w L):=by
 refine aam ?_
 have hkd:bP ayS 3 = .flat:=by kernel_rfl
 have hp:=hv.rd.plain
 have hf:=b6 hv.rd
 have ho:=bQ hv.rd
 have hob:=afy k r c w 0 v L cells hv
 rw [afR] at hob
 have hTr:=afS (dJ k r c w L 0)
 have hbl:=aat k r c w L 0
 have p2:=hTr.plain
 have f2:=b6 hTr
 have o2:=bQ hTr
 have s2:=cH hTr
 have hdo:=fun h1 h2 h3=>ayq k r c w _ _ [] hTr h1 h2 h3
 have hdb:=apL k r c w _ _ [] hTr (by omega)
 unfold bkR jV eM
 unfold dD at hob ⊢
 simp only [aC] at hob
 unfold y7 at hdb
 generalize kX (dJ k r c w L 0)=TV at *
 replace hbl:=Hid.mk hbl
 replace hTr:=Hid.mk hTr
 by_cases hE:nK k r c w L 0=0
 ·rw [if_pos hE]
  rw [hE] at hob
  replace hE:=Hid.mk hE
  by_cases hB:gD k r c w (dJ k r c w L 0)=0
  ·rw [if_pos hB]
   have hparts:bG k r c w=true∧(dJ k r c w L 0).length=8∧qY w (fM (dJ k r c w L 0))=true:=by
    unfold gD at hB
    split at hB
    ·split at hB
     ·split at hB
      ·rename_i a b c
       exact ⟨a,b,c⟩
      ·contradiction
     ·contradiction
    ·contradiction
   have hdo:=hdo hparts.1 hparts.2.1 hparts.2.2
   clear hdb
   refine bI Tryz.func48 aB (h:=?_);unfold Tryz.f48
   simp only [↓pre,zac,rF,simprocAttr,aA,hf,ho,f2,o2,s2,aJ]
   (first | refine aH (hob) (by first | rfl | simp only [aA,aD, *]) ?_ | refine aG (hob) (by first | rfl | simp only [aA,aD, *]) (by intro k;first | rfl | simp only [ *,zaa]) ?_);simp only [↓pre,zac,rF,simprocAttr,aA,hf,ho,f2,o2,s2,aJ]
   refine adt hkd (n:=4) hdo (by simp [c9,plain,p2]) fun a m1 hN => ?_
   replace hN:=Hid.mk hN
   simp only [↓pre,zac,rF,simprocAttr,aA,hf,ho,f2,o2,s2,aJ]
   exact hN.out.canon hkd _
  ·rw [if_neg hB]
   rw [if_neg hB] at hdb
   clear hdo
   simp only [aN,aC] at hdb
   refine bI Tryz.func48 aB (h:=?_);unfold Tryz.f48
   simp only [↓pre,zac,rF,simprocAttr,aA,hf,ho,f2,o2,s2,aJ]
   (first | refine aH (hob) (by first | rfl | simp only [aA,aD, *]) ?_ | refine aG (hob) (by first | rfl | simp only [aA,aD, *]) (by intro k;first | rfl | simp only [ *,zaa]) ?_);simp only [↓pre,zac,rF,simprocAttr,aA,hf,ho,f2,o2,s2,aJ];(first | refine aH (hdb) (by first | rfl | simp only [aA,aD, *]) ?_ | refine aG (hdb) (by first | rfl | simp only [aA,aD, *]) (by intro k;first | rfl | simp only [ *,zaa]) ?_);simp only [↓pre,zac,rF,simprocAttr,aA,hf,ho,f2,o2,s2,aJ]
   exact aau _ _ _ _
 ·rw [if_neg hE,if_neg hE]
  refine bI Tryz.func48 aB (h:=?_);unfold Tryz.f48
  simp only [↓pre,zac,rF,simprocAttr,aA,hf,ho,f2,o2,s2,aJ]
  (first | refine aH (hob) (by first | rfl | simp only [aA,aD, *]) ?_ | refine aG (hob) (by first | rfl | simp only [aA,aD, *]) (by intro k;first | rfl | simp only [ *,zaa]) ?_);simp only [↓pre,zac,rF,simprocAttr,aA,hf,ho,f2,o2,s2,aJ,hE]
  exact aau _ _ _ _
def enR (k r c w:Int) (L:List (List UInt8)) (b:Int):fF:=if qZ k r c w L b=0 then o5 85 (iF k r c w L b).length (dX (iF k r c w L b)) 0 else o5 85 0 [] (qZ k r c w L b)
theorem ays (k r c w b:Int) (v:AV) (L:List (List UInt8)) (cells:List AV) (hv:fQ v L cells):aR ayS 50 [dD k r c w v,aC b] (enR k r c w L b):=by
 refine aam ?_
 have hkd:bP ayS 85 = .flat:=by kernel_rfl
 have hp:=hv.rd.plain
 have hf:=b6 hv.rd
 have ho:=bQ hv.rd
 have hck:=abQ k r c w v L cells hv
 have hbk:=aiM k r c w v L cells hv
 unfold enR qZ iF y8
 unfold tN at hbk
 unfold dD at hck hbk ⊢
 by_cases hI:fA k r c w L=0
 ·rw [hI] at hck
  simp only [if_pos hI]
  replace hI:=Hid.mk hI
  by_cases h1:b < 0
  ·rw [if_pos (Or.inl h1),if_neg (show ¬ (2:Int)=0 by decide),if_neg (show ¬ (2:Int)=0 by decide)]
   refine bI Tryz.func50 aB (h:=?_);unfold Tryz.f50
   simp only [↓pre,zac,gI,simprocAttr,aA,hf,ho,aJ]
   (first | refine aH (hck) (by first | rfl | simp only [aA,aD, *]) ?_ | refine aG (hck) (by first | rfl | simp only [aA,aD, *]) (by intro k;first | rfl | simp only [ *,zaa]) ?_);simp only [↓pre,zac,gI,simprocAttr,aA,hf,ho,aJ,h1]
   exact aau _ _ _ _
  ·by_cases h2:4≤b
   ·rw [if_pos (Or.inr h2),if_neg (show ¬ (2:Int)=0 by decide),if_neg (show ¬ (2:Int)=0 by decide)]
    refine bI Tryz.func50 aB (h:=?_);unfold Tryz.f50
    simp only [↓pre,zac,gI,simprocAttr,aA,hf,ho,aJ]
    (first | refine aH (hck) (by first | rfl | simp only [aA,aD, *]) ?_ | refine aG (hck) (by first | rfl | simp only [aA,aD, *]) (by intro k;first | rfl | simp only [ *,zaa]) ?_);simp only [↓pre,zac,gI,simprocAttr,aA,hf,ho,aJ,h1,h2]
    exact aau _ _ _ _
   ·simp only [if_neg (show ¬ (b < 0∨4≤b) by omega)]
    by_cases hB:jV k r c w L=0
    ·rw [if_pos hB] at hbk
     simp only [if_pos hB]
     obtain ⟨i,rfl⟩:∃ i:Nat,b=(i:Int):=⟨b.toNat,by omega⟩
     rw [Int.toNat_natCast]
     have hil:i < 4:=by omega
     have hbl:=ab5 hB
     obtain ⟨n,hn⟩:∃ n,(eM k r c w L)[i]? = some n:=⟨_,List.getElem?_eq_getElem (by omega)⟩
     have hn1:(eM k r c w L).getD i 0=n:=by rw [List.getD_eq_getElem?_getD,hn];rfl
     rw [hn1]
     have hR4:aZ (.tree 4 4 (bK (eM k r c w L)) false) 4 (bK (eM k r c w L)):=⟨.inr (.inr ⟨_,_,rfl,Nat.le_refl _⟩)⟩
     have a1:=nB (x:=[]) hn
     rw [aBi] at a1
     have p4:=hR4.plain
     have f4:=b6 hR4
     have o4:=bQ hR4
     have s4:=cH hR4
     have l4:=fun P t=>hR4.len' (P:=P) (t:=t)
     have d4:=fun P t k=>hR4.addr' (P:=P) (t:=t) (k:=k)
     generalize AV.tree 4 4 (bK (eM k r c w L)) false=RV at *
     generalize bK (eM k r c w L)=RC at *
     have hob:=afy k r c w n v L cells hv
     rw [afR] at hob
     have hTr:=afS (dJ k r c w L n)
     have hol:=aat k r c w L n
     have hdp:=apF k r c w _ _ [] hTr (by omega)
     have p2:=hTr.plain
     have f2:=b6 hTr
     have o2:=bQ hTr
     have s2:=cH hTr
     unfold dD at hob
     simp only [aC] at hob hbk
     generalize kX (dJ k r c w L n)=TV at *
     replace hbl:=Hid.mk hbl
     replace hn:=Hid.mk hn
     replace hn1:=Hid.mk hn1
     replace hB:=Hid.mk hB
     replace hR4:=Hid.mk hR4
     replace hol:=Hid.mk hol
     replace hTr:=Hid.mk hTr
     by_cases hE:nK k r c w L n=0
     ·rw [if_pos hE]
      rw [hE] at hob
      replace hE:=Hid.mk hE
      have hres:(if fK k r c w (dJ k r c w L n)=0 then o5 85 (nJ (dJ k r c w L n)).length (dX (nJ (dJ k r c w L n))) 0 else o5 85 0 [] (fK k r c w (dJ k r c w L n)))=o5 85 (if fK k r c w (dJ k r c w L n)=0 then nJ (dJ k r c w L n) else []).length (dX (if fK k r c w (dJ k r c w L n)=0 then nJ (dJ k r c w L n) else [])) (fK k r c w (dJ k r c w L n)):=by
       split
       ·rename_i h;rw [h]
       ·rfl
      have hdp2:aR ayS 125 [aA k r c w,TV] (o5 85 (if fK k r c w (dJ k r c w L n)=0 then nJ (dJ k r c w L n) else []).length (dX (if fK k r c w (dJ k r c w L n)=0 then nJ (dJ k r c w L n) else [])) (fK k r c w (dJ k r c w L n))):=by
       rw [←hres]
       split at hdp
       ·rename_i h;rw [if_pos h];exact hdp
       ·rename_i h;rw [if_neg h];exact hdp
      rw [hres]
      clear hdp hres
      generalize (if fK k r c w (dJ k r c w L n)=0 then nJ (dJ k r c w L n) else [])=PLs at *
      generalize fK k r c w (dJ k r c w L n)=PE at *
      refine bI Tryz.func50 aB (h:=?_);unfold Tryz.f50
      simp only [↓pre,zac,gI,simprocAttr,aA,hf,ho,aJ]
      (first | refine aH (hck) (by first | rfl | simp only [aA,aD, *]) ?_ | refine aG (hck) (by first | rfl | simp only [aA,aD, *]) (by intro k;first | rfl | simp only [ *,zaa]) ?_);simp only [↓pre,zac,gI,simprocAttr,aA,hf,ho,aJ,h1,h2,hil,a1,f2,o2,s2,f4,o4,s4,l4,d4];(first | refine aH (hbk) (by first | rfl | simp only [aA,aD, *]) ?_ | refine aG (hbk) (by first | rfl | simp only [aA,aD, *]) (by intro k;first | rfl | simp only [ *,zaa]) ?_);simp only [↓pre,zac,gI,simprocAttr,aA,hf,ho,aJ,h1,h2,hil,a1,f2,o2,s2,f4,o4,s4,l4,d4];(first | refine aH (hob) (by first | rfl | simp only [aA,aD, *]) ?_ | refine aG (hob) (by first | rfl | simp only [aA,aD, *]) (by intro k;first | rfl | simp only [ *,zaa]) ?_);simp only [↓pre,zac,gI,simprocAttr,aA,hf,ho,aJ,h1,h2,hil,a1,f2,o2,s2,f4,o4,s4,l4,d4]
      refine adt hkd hdp2 (by simp [c9,plain,p2]) fun a m1 hN => ?_
      replace hN:=Hid.mk hN
      simp only [↓pre,zac,gI,simprocAttr,aA,hf,ho,aJ]
      exact hN.out.canon hkd _
     ·rw [if_neg hE]
      refine bI Tryz.func50 aB (h:=?_);unfold Tryz.f50
      simp only [↓pre,zac,gI,simprocAttr,aA,hf,ho,aJ]
      (first | refine aH (hck) (by first | rfl | simp only [aA,aD, *]) ?_ | refine aG (hck) (by first | rfl | simp only [aA,aD, *]) (by intro k;first | rfl | simp only [ *,zaa]) ?_);simp only [↓pre,zac,gI,simprocAttr,aA,hf,ho,aJ,h1,h2,hil,a1,f2,o2,s2,f4,o4,s4,l4,d4,hE];(first | refine aH (hbk) (by first | rfl | simp only [aA,aD, *]) ?_ | refine aG (hbk) (by first | rfl | simp only [aA,aD, *]) (by intro k;first | rfl | simp only [ *,zaa]) ?_);simp only [↓pre,zac,gI,simprocAttr,aA,hf,ho,aJ,h1,h2,hil,a1,f2,o2,s2,f4,o4,s4,l4,d4,hE];(first | refine aH (hob) (by first | rfl | simp only [aA,aD, *]) ?_ | refine aG (hob) (by first | rfl | simp only [aA,aD, *]) (by intro k;first | rfl | simp only [ *,zaa]) ?_);simp only [↓pre,zac,gI,simprocAttr,aA,hf,ho,aJ,h1,h2,hil,a1,f2,o2,s2,f4,o4,s4,l4,d4,hE]
      exact aau _ _ _ _
    ·rw [if_neg hB] at hbk
     simp only [if_neg hB]
     unfold aN at hbk
     simp only [aC] at hbk
     refine bI Tryz.func50 aB (h:=?_);unfold Tryz.f50
     simp only [↓pre,zac,gI,simprocAttr,aA,hf,ho,aJ]
     (first | refine aH (hck) (by first | rfl | simp only [aA,aD, *]) ?_ | refine aG (hck) (by first | rfl | simp only [aA,aD, *]) (by intro k;first | rfl | simp only [ *,zaa]) ?_);simp only [↓pre,zac,gI,simprocAttr,aA,hf,ho,aJ,h1,h2,hB];(first | refine aH (hbk) (by first | rfl | simp only [aA,aD, *]) ?_ | refine aG (hbk) (by first | rfl | simp only [aA,aD, *]) (by intro k;first | rfl | simp only [ *,zaa]) ?_);simp only [↓pre,zac,gI,simprocAttr,aA,hf,ho,aJ,h1,h2,hB]
     exact aau _ _ _ _
 ·simp only [if_neg hI]
  refine bI Tryz.func50 aB (h:=?_);unfold Tryz.f50
  simp only [↓pre,zac,gI,simprocAttr,aA,hf,ho,aJ]
  (first | refine aH (hck) (by first | rfl | simp only [aA,aD, *]) ?_ | refine aG (hck) (by first | rfl | simp only [aA,aD, *]) (by intro k;first | rfl | simp only [ *,zaa]) ?_);simp only [↓pre,zac,gI,simprocAttr,aA,hf,ho,aJ,hI]
  exact aau _ _ _ _
structure lA (el:TypeId) (sz:Nat) (m:aF) (a:AV) (n:Nat) (P:List AV→Prop):Prop where
 form:(a = .val (.slice none 0 0)∧n=0∧P [])∨∃ b cs,a = .sl b 0 n n false∧0 < n∧b < m.next∧m.at_ b=some ⟨cs,el,.flat,true⟩∧cs.length=n*sz∧P cs
theorem xJ.own {el:TypeId} {m m1:aF} {a:AV} {n sz:Nat} {cells:List AV} (h:xJ el m m1 a n cells) (hl:cells.length=n*sz):lA el sz m1 a n (fun cs=>cs=cells):=by
 rcases h.form with ⟨rfl,h0,rfl⟩ | ⟨rfl,h0,rfl⟩
 ·exact ⟨.inl ⟨rfl,h0,by rw [List.eq_nil_of_length_eq_zero (l:=cells) (by rw [hl,h0,Nat.zero_mul])]⟩⟩
 ·exact ⟨.inr ⟨_,_,rfl,by omega,by rw [bM];omega,by rw [aT,if_pos rfl],hl,rfl⟩⟩
theorem xJ.keep {el el':TypeId} {sz:Nat} {m m1:aF} {a c:AV} {n k:Nat} {cells:List AV} {P:List AV→Prop} (h:xJ el m m1 a n cells) (hc:lA el' sz m c k P):lA el' sz m1 c k P:=by
 rcases h.form with ⟨_,_,rfl⟩ | ⟨_,_,rfl⟩
 ·exact hc
 ·rcases hc.form with h1 | ⟨b,cs,h1,h2,h3,h4,h5⟩
  ·exact ⟨.inl h1⟩
  ·exact ⟨.inr ⟨b,cs,h1,h2,by rw [bM];omega,by rw [aT,if_neg (by omega)];exact h4,h5⟩⟩
theorem lA.lend {el:TypeId} {sz n:Nat} {m:aF} {a:AV} {cells:List AV} (h:lA el sz m a n (fun cs=>cs=cells)):lend 3 m a=some (bD n cells):=by
 rcases h.form with ⟨rfl,rfl,h1⟩ | ⟨b,cs,rfl,h0,_,hb,_,rfl⟩
 ·rw [←h1]
  simp [Go.Tw.lend,bD,aN]
 ·unfold Go.Tw.lend bD
  simp [hb,Nat.ne_of_gt h0]
theorem lA.lenE {t el:TypeId} (ht:bZ ayS t=some el) (h0:Go.Tw.lenE ayS t (.val (.slice none 0 0))=some (.val (.int .i64 0))) {sz n:Nat} {m:aF} {a:AV} {P:List AV→Prop} (h:lA el sz m a n P):Go.Tw.lenE ayS t a=some (.val (.int .i64 (n:Nat))):=by
 rcases h.form with ⟨rfl,rfl,_⟩ | ⟨b,cs,rfl,_⟩
 ·exact h0
 ·simp [Go.Tw.lenE,ht,vQ,aC]
theorem lA.step {el:TypeId} {sz n i j:Nat} {m:aF} {a:AV} {P:List AV→Prop} (h:lA el sz m a n P) (hi:i < n) (hj:j < sz) (z:AV):∃ b cs,a = .sl b 0 n n false∧m.at_ b=some ⟨cs,el,.flat,true⟩∧b < m.next∧i*sz+j+1≤cs.length∧lA el sz (m.put b (some ⟨List.take (i*sz+j) cs++[z]++List.drop (i*sz+j+1) cs,el,.flat,true⟩)) a n (fun _=>True):=by
 rcases h.form with ⟨_,h1,_⟩ | ⟨b,cs,rfl,h1,h2,h3,h4,_⟩
 ·omega
 ·have hle:(i+1)*sz≤n*sz:=Nat.mul_le_mul_right _ hi
  rw [Nat.add_mul,Nat.one_mul] at hle
  refine ⟨b,cs,rfl,h3,h2,by omega,⟨.inr ⟨b,_,rfl,h1,h2,by rw [aO,if_pos rfl], ?_,trivial⟩⟩⟩
  simp
  omega
theorem ayt (k r c w:Int) (L:List (List UInt8)):∃ (BL:List Int) (E:Int),bkR k r c w L=o5 3 BL.length (bK BL) E∧BL.length≤4∧∃ x,tN k r c w L = .tup [x,aC E]∧aZ x BL.length (bK BL):=by
 unfold bkR tN
 by_cases h:jV k r c w L=0
 ·rw [if_pos h,if_pos h]
  have hl:=ab5 h
  exact ⟨eM k r c w L,0,by rw [hl],by omega,_,rfl,by rw [hl];exact ⟨.inr (.inr ⟨_,_,rfl,Nat.le_refl _⟩)⟩⟩
 ·rw [if_neg h,if_neg h]
  exact ⟨[],jV k r c w L,rfl,by simp,_,rfl,⟨.inl ⟨rfl,rfl⟩⟩⟩
theorem ayu (k r c w:Int) (L:List (List UInt8)) (b:Int):∃ (l:List dV) (E:Int),enR k r c w L b=o5 85 l.length (dX l) E∧l.length≤40000∧enV k r c w L b = .tup [bD l.length (dX l),aC E]:=by
 rw [aiO]
 unfold enR
 by_cases h:qZ k r c w L b=0
 ·rw [if_pos h,if_pos h,h]
  obtain ⟨_,_,_,_,_,hlg,_⟩:=afT h
  have:=afM (iF k r c w L b)
  exact ⟨_,_,rfl,by omega,rfl⟩
 ·rw [if_neg h,if_neg h]
  exact ⟨[],_,rfl,by simp,rfl⟩
theorem ayv (k r c w:Int) (L:List (List UInt8)) (s:ByteArray):∃ (FR FB FW FE:Int) (FI:Bool),fiV k r c w L s = .tup [aC FR,aC FB,aV FI,aC FE]∧fiW k r c w L s = .tup [.agg [aC FW,aC FB],aC FE]∧(FE=0→FI=decide (0≤FW)∧FR=max FW 0)∧(FE≠0→FI=false∧FR=0):=by
 unfold fiV fiW fiR
 by_cases h:xH k r c w L s=0
 ·rw [if_pos h,if_pos h]
  obtain ⟨_,_,_,hE⟩:=ax5 h
  obtain ⟨_,_,_,_,hok,_⟩:=afT hE
  generalize iF k r c w L (gM s:Nat)=l at *
  refine ⟨_,_,_,0,_,rfl,rfl,fun _ => ?_,fun h=>absurd rfl h⟩
  cases hi:mG l s with
  | false =>
   simp
   decide
  | true =>
   have hr:0≤vO l s:=by
    unfold mG at hi
    unfold vO
    cases he:l[tJ l s]? with
    | none=>rw [he] at hi;cases hi
    | some e =>
     have hlt:=(List.getElem?_eq_some_iff.1 he).1
     have:=abX.1 hok _ hlt
     unfold mF at this
     rw [he] at this
     simp [tI] at this
     exact this.1.2.1
   simp
   omega
 ·rw [if_neg h,if_neg h]
  exact ⟨_,_,_,_,_,rfl,rfl,fun h2=>absurd h2 h,fun _=>⟨rfl,rfl⟩⟩
theorem lA.any {el:TypeId} {sz n:Nat} {m:aF} {a:AV} {P:List AV→Prop} (h:lA el sz m a n P):lA el sz m a n (fun _=>True):=by
 rcases h.form with ⟨h1,h2,_⟩ | ⟨b,cs,h1,h2,h3,h4,h5,_⟩
 ·exact ⟨.inl ⟨h1,h2,trivial⟩⟩
 ·exact ⟨.inr ⟨b,cs,h1,h2,h3,h4,h5,trivial⟩⟩
theorem lA.put {el:TypeId} {sz n:Nat} {m:aF} {a:AV} {P:List AV→Prop} (h:lA el sz m a n P) {j:Nat} {x:Option eR} (hj:∀ b,cI a=some b→b≠j):lA el sz (m.put j x) a n P:=by
 rcases h.form with h1 | ⟨b,cs,rfl,h2,h3,h4,h5,h6⟩
 ·exact ⟨.inl h1⟩
 ·exact ⟨.inr ⟨b,cs,rfl,h2,h3,by rw [aO,if_neg (hj b rfl)];exact h4,h5,h6⟩⟩
theorem lA.grow {el:TypeId} {sz n:Nat} {m m':aF} {a:AV} {P:List AV→Prop} (h:lA el sz m a n P) (hn:m.next≤m'.next) (hk:∀ j kk,j < m.next→m.at_ j=some kk→m'.at_ j=some kk):lA el sz m' a n P:=by
 rcases h.form with h1 | ⟨b,cs,rfl,h2,h3,h4,h5,h6⟩
 ·exact ⟨.inl h1⟩
 ·exact ⟨.inr ⟨b,cs,rfl,h2,by omega,hk b _ h3 h4,h5,h6⟩⟩
theorem xJ.ne {el el':TypeId} {sz:Nat} {m m1:aF} {x a:AV} {n k:Nat} {cells:List AV} {P:List AV→Prop} (h:xJ el m m1 x n cells) (hc:lA el' sz m a k P):∀ b b',cI a=some b→cI x=some b'→b≠b':=fun b b' h1 h2=>by
 rcases h.form with ⟨rfl,_⟩ | ⟨rfl,_⟩
 ·cases h2
 ·cases h2
  rcases hc.form with ⟨rfl,_⟩ | ⟨b2,cs,rfl,_,h3,_⟩
  ·cases h1
  ·cases h1;omega
set_option maxHeartbeats 4000000 in
theorem ayw (k r c w bu:Int) (v:AV) (L:List (List UInt8)) (cells:List AV) (hv:fQ v L cells) (hn:L.length*24≤140737488355328) (s:ByteArray) (hs:s.size≤1000000000000000):aR ayS 8 [dD k r c w v,aC bu,gG s] ⟨aV true,[]⟩:=by
 have hp:=hv.rd.plain
 have hf:=b6 hv.rd
 have ho:=bQ hv.rd
 have haw:=ax1
 have hbi:=ax2 k r c w v L cells hv
 unfold dD at hbi ⊢
 cases hb:bG k r c w && decide (400 < (k+r)*w) with
 | true =>
  rw [hb] at hbi
  refine aX Tryz.func8 aB (h:=?_);unfold Tryz.f8
  simp only [↓pre,zai,simprocAttr,aA,aJ,hf,ho]
  (first | refine aH (haw) (by first | rfl | simp only [aA,aD, *]) ?_ | refine aG (haw) (by first | rfl | simp only [aA,aD, *]) (by intro k;first | rfl | simp only [ *,zaa]) ?_);simp only [↓pre,zai,simprocAttr,aA,aJ,hf,ho];(first | refine aH (hbi) (by first | rfl | simp only [aA,aD, *]) ?_ | refine aG (hbi) (by first | rfl | simp only [aA,aD, *]) (by intro k;first | rfl | simp only [ *,zaa]) ?_);simp only [↓pre,zai,simprocAttr,aA,aJ,hf,ho]
 | false =>
  rw [hb] at hbi
  clear hb
  have htw:=axm k r c w v L cells hv hn
  have hin:=axl L
  generalize L.map fT=cin at *
  generalize bD L.length cin=vin at *
  have hb1:=ayr k r c w vin L cin hin
  have hb2:=aiS k r c w v L cells hv
  have he1:=ays k r c w bu vin L cin hin
  have he2:=apV k r c w bu v L cells hv
  have hf1:=ax0 k r c w vin L cin hin s hs
  have hf2:=ayp k r c w v L cells hv s
  obtain ⟨BL,BE,q1,q2,BV,q3,q4⟩:=ayt k r c w L
  obtain ⟨l,EE,t1,t2,t3⟩:=ayu k r c w L bu
  obtain ⟨FR,FB,FW,FE,FI,u1,u2,u3,u4⟩:=ayv k r c w L s
  rw [q1] at hb1
  rw [q3] at hb2
  rw [t1] at he1
  rw [t3] at he2
  rw [u1] at hf1
  rw [u2] at hf2
  have hsm:=axo k r c w vin v L cin cells hin hv hn
  have hkI:bP ayS 3 = .flat:=by kernel_rfl
  have hkE:bP ayS 85 = .flat:=by kernel_rfl
  have rB:=dY BL.length (bK BL)
  have rE:=dY l.length (dX l)
  have hsI:=asX (bD BL.length (bK BL)) BV BL BL [] [] (by rw [aBi];exact rB) (by rw [aBi];exact q4) (by omega) (by omega)
  rw [show wO BL BL=true by unfold wO;simp] at hsI
  have hsE:=ayf (bD l.length (dX l)) (bD l.length (dX l)) l l [] [] (by rw [aBi];exact rE) (by rw [aBi];exact rE) (by omega) (by omega)
  rw [show xI l l=true by unfold xI;simp] at hsE
  clear q1 q3 t1 t3 u1 u2
  generalize hTB:bD BL.length (bK BL)=TB at *
  generalize hTE:bD l.length (dX l)=TE at *
  have pI:=hin.rd.plain
  have fI:=b6 hin.rd
  have oI:=bQ hin.rd
  have sI:=cH hin.rd
  have sB:=cH q4
  have pB:=q4.plain
  have sE:=cH rE
  have pE:=rE.plain
  unfold dD at htw hb1 hb2 he1 he2 hf1 hf2 hsm
  simp only [aC] at htw hb1 hb2 he1 he2 hf1 hf2 hsm
  replace hin:=Hid.mk hin
  replace q4:=Hid.mk q4
  replace rE:=Hid.mk rE
  replace hn:=Hid.mk hn
  replace hs:=Hid.mk hs
  replace hTB:=Hid.mk hTB
  replace hTE:=Hid.mk hTE
  replace u3:=Hid.mk u3
  replace u4:=Hid.mk u4
  refine aX Tryz.func8 aB (h:=?_);unfold Tryz.f8
  simp only [↓pre,zai,simprocAttr,aA,aJ,hf,ho,fI,oI,sI,sB,sE]
  (first | refine aH (haw) (by first | rfl | simp only [aA,aD, *]) ?_ | refine aG (haw) (by first | rfl | simp only [aA,aD, *]) (by intro k;first | rfl | simp only [ *,zaa]) ?_);simp only [↓pre,zai,simprocAttr,aA,aJ,hf,ho,fI,oI,sI,sB,sE];(first | refine aH (hbi) (by first | rfl | simp only [aA,aD, *]) ?_ | refine aG (hbi) (by first | rfl | simp only [aA,aD, *]) (by intro k;first | rfl | simp only [ *,zaa]) ?_);simp only [↓pre,zai,simprocAttr,aA,aJ,hf,ho,fI,oI,sI,sB,sE];(first | refine aH (htw) (by first | rfl | simp only [aA,aD, *]) ?_ | refine aG (htw) (by first | rfl | simp only [aA,aD, *]) (by intro k;first | rfl | simp only [ *,zaa]) ?_);simp only [↓pre,zai,simprocAttr,aA,aJ,hf,ho,fI,oI,sI,sB,sE]
  refine adt hkI hb1 (by simp [c9,plain,pI]) fun a m1 hN1 => ?_
  have oa:=hN1.own (sz:=1) (by simp [bK])
  replace hN1:=Hid.mk hN1
  replace oa:=Hid.mk oa
  simp only [↓pre,zai,simprocAttr,aA,aJ,hf,ho,fI,oI,sI,sB,sE]
  (first | refine aH (hb2) (by first | rfl | simp only [aA,aD, *]) ?_ | refine aG (hb2) (by first | rfl | simp only [aA,aD, *]) (by intro k;first | rfl | simp only [ *,zaa]) ?_);simp only [↓pre,zai,simprocAttr,aA,aJ,hf,ho,fI,oI,sI,sB,sE]
  refine adt hkE he1 (by simp [c9,plain,pI]) fun x m2 hN2 => ?_
  have ox:=hN2.own (sz:=2) (apz l)
  have oa2:=hN2.keep oa.out
  have hne:=hN2.ne oa.out
  replace hne:=Hid.mk hne
  replace hN2:=Hid.mk hN2
  replace ox:=Hid.mk ox
  replace oa2:=Hid.mk oa2
  simp only [↓pre,zai,simprocAttr,aA,aJ,hf,ho,fI,oI,sI,sB,sE]
  (first | refine aH (he2) (by first | rfl | simp only [aA,aD, *]) ?_ | refine aG (he2) (by first | rfl | simp only [aA,aD, *]) (by intro k;first | rfl | simp only [ *,zaa]) ?_);simp only [↓pre,zai,simprocAttr,aA,aJ,hf,ho,fI,oI,sI,sB,sE];(first | refine aH (hf1) (by first | rfl | simp only [aA,aD, *]) ?_ | refine aG (hf1) (by first | rfl | simp only [aA,aD, *]) (by intro k;first | rfl | simp only [ *,zaa]) ?_);simp only [↓pre,zai,simprocAttr,aA,aJ,hf,ho,fI,oI,sI,sB,sE];(first | refine aH (hf2) (by first | rfl | simp only [aA,aD, *]) ?_ | refine aG (hf2) (by first | rfl | simp only [aA,aD, *]) (by intro k;first | rfl | simp only [ *,zaa]) ?_);simp only [↓pre,zai,simprocAttr,aA,aJ,hf,ho,fI,oI,sI,sB,sE]
  generalize hM:aF.put (aF.push m2 _) _ _=M
  have kM:∀ j kk,j < m2.next→m2.at_ j=some kk→M.at_ j=some kk:=fun j kk hj hk=>by
   rw [←hM,aO,if_neg (by omega),aT,if_neg (by omega)]
   exact hk
  have nM:m2.next≤M.next:=by rw [←hM];simp only [bX,bM];omega
  have oa3:=oa2.out.grow nM kM
  have ox3:=ox.out.grow nM kM
  clear hM kM nM oa2 ox oa hN1 hN2
  refine xX hsI (by simp [d9,oa3.lend,hTB.out,(uW 3 BV pB).1]) rfl rfl ?_
  replace oa3:=Hid.mk oa3
  replace ox3:=Hid.mk ox3
  simp only [↓pre,zai,simprocAttr,aA,aJ,hf,ho,fI,oI,sI,sB,sE]
  refine xX hsE (by simp [d9,ox3.out.lend,hTE.out,(uW 3 TE pE).1]) rfl rfl ?_
  simp only [↓pre,zai,simprocAttr,aA,aJ,hf,ho,fI,oI,sI,sB,sE]
  by_cases hE:FE=0
  case' pos =>
   obtain ⟨w1,w2⟩:=u3.out hE
   subst w1 w2
   have hbb:∀ (i j:Nat) (b:Bool),dR ayS .neq 4 (.tmp i) (.tmp j) (.val (.bool b)) (.val (.bool b))=some (.val (.bool false)):=fun i j b=>by cases b <;> kernel_rfl
   simp only [↓pre,zai,max2,simprocAttr,aA,aJ,hf,ho,fI,oI,sI,sB,sE,hE,hbb]
  case' neg =>
   obtain ⟨w1,w2⟩:=u4.out hE
   subst w1 w2
   simp only [↓pre,zai,simprocAttr,aA,aJ,hf,ho,fI,oI,sI,sB,sE,hE]
  all_goals (
   clear u3 u4 hb1 hb2 he2 hf1 hf2 hsI haw hbi htw
   have zI:Go.Tw.lenE ayS 41 (.val (.slice none 0 0))=some (.val (.int .i64 0)):=by kernel_rfl
   have zE:Go.Tw.lenE ayS 73 (.val (.slice none 0 0))=some (.val (.int .i64 0)):=by kernel_rfl
   rw [bS]
   refine bU (fun q e m=>∃ i,q+i=BL.length∧e 1=aC bu∧e 3 = .tptr 0 [aC k,aC r,aC c,aC w,v]∧e 8 = .tptr 0 [aC k,aC r,aC c,aC w,vin]∧e 9=a∧e 13=x∧e 15=TE∧e 24=aC (i:Nat)∧Hid (lA 3 1 m a BL.length (fun _=>True)∧lA 85 2 m x l.length (fun _=>True))) BL.length ⟨0,by omega,rfl,rfl,rfl,rfl,rfl,rfl,rfl,⟨oa3.out.any,ox3.out.any⟩⟩ ?_
   clear oa3 ox3
   rintro q e m ⟨i,hq,e1,e3,e8,e9,e13,e15,e24,hJ⟩
   replace hq:=Hid.mk hq
   obtain ⟨ha,hx⟩:=hJ.out
   clear hJ
   have hla:=ha.lenE (t:=41) (by kernel_rfl) zI
   by_cases hlt:i < BL.length
   ·have hlt':((i:Nat):Int) < ((BL.length:Nat):Int):=by omega
    have wi:=bY (n:=i) (by omega)
    obtain ⟨b,cs,hda,hb,hbn,hcl,hst⟩:=ha.step hlt (j:=0) (by decide) (.val (.int .i64 (-9)))
    rw [Nat.mul_one,Nat.add_zero] at hcl hst
    have hx2:=hx.put (j:=b) (x:=some ⟨List.take i cs++[.val (.int .i64 (-9))]++List.drop (i+1) cs,3,.flat,true⟩) (fun b' h=>fun e=>hne.out b b' (by rw [hda];rfl) h e.symm)
    have e9':=Hid.mk e9
    rw [hda] at e9 hla
    replace hda:=Hid.mk hda
    replace hst:=Hid.mk hst
    replace hx2:=Hid.mk hx2
    replace ha:=Hid.mk ha
    replace hx:=Hid.mk hx
    simp only [↓pre,zai,simprocAttr,aA,aJ,hf,ho,e1,e3,e8,e9,e13,e15,e24,hla,hlt',hlt,hb,hcl,wi]
    exact ⟨q - 1,by have:=hq.out;omega,i+1,by have:=hq.out;omega,hda.out.symm,rfl,⟨hst.out,hx2.out⟩⟩
   ·have hlt':¬ ((i:Nat):Int) < ((BL.length:Nat):Int):=by omega
    replace ha:=Hid.mk ha
    replace hx:=Hid.mk hx
    simp only [↓pre,zai,simprocAttr,aA,aJ,hf,ho,e1,e3,e8,e9,e13,e15,e24,hla,hlt']
    rw [bS]
    refine bU (fun q e m=>∃ i,q+i=l.length∧e 1=aC bu∧e 3 = .tptr 0 [aC k,aC r,aC c,aC w,v]∧e 8 = .tptr 0 [aC k,aC r,aC c,aC w,vin]∧e 13=x∧e 15=TE∧e 25=aC (i:Nat)∧Hid (lA 85 2 m x l.length (fun _=>True))) l.length ⟨0,by omega,e1,e3,e8,e13,e15,rfl,⟨hx.out⟩⟩ ?_
    clear e1 e3 e8 e9 e13 e15 e24 hla hlt hlt' hq ha hx
    rintro q e m ⟨i,hq,e1,e3,e8,e13,e15,e25,hJ⟩
    replace hq:=Hid.mk hq
    have hx:=hJ.out
    clear hJ
    have hlx:=hx.lenE (t:=73) (by kernel_rfl) zE
    by_cases hlt:i < l.length
    ·have hlt':((i:Nat):Int) < ((l.length:Nat):Int):=by omega
     have wi:=bY (n:=i) (by omega)
     obtain ⟨b,cs,hda,hb,hbn,hcl,hst⟩:=hx.step hlt (j:=1) (by decide) (.val (.int .i64 (-9)))
     have e13':=Hid.mk e13
     rw [hda] at e13 hlx
     replace hda:=Hid.mk hda
     replace hst:=Hid.mk hst
     replace hx:=Hid.mk hx
     simp only [↓pre,zai,simprocAttr,aA,aJ,hf,ho,e1,e3,e8,e13,e15,e25,hlx,hlt',hlt,hb,hcl,wi]
     exact ⟨q - 1,by have:=hq.out;omega,i+1,by have:=hq.out;omega,hda.out.symm,rfl,⟨hst.out⟩⟩
    ·have hlt':¬ ((i:Nat):Int) < ((l.length:Nat):Int):=by omega
     replace hx:=Hid.mk hx
     simp only [↓pre,zai,simprocAttr,aA,aJ,hf,ho,fI,oI,sI,sB,sE,e1,e3,e8,e13,e15,e25,hlx,hlt']
     refine adt hkE he1 (by simp [c9,plain,pI]) fun x2 m3 hN3 => ?_
     have ox:=hN3.own (sz:=2) (apz l)
     replace hN3:=Hid.mk hN3
     simp only [↓pre,zai,simprocAttr,aA,aJ,hf,ho,fI,oI,sI,sB,sE,e1,e3,e8,e13,e15,e25]
     refine xX hsE (by simp [d9,ox.lend,hTE.out,(uW 3 TE pE).1]) rfl rfl ?_
     replace ox:=Hid.mk ox
     simp only [↓pre,zai,simprocAttr,aA,aJ,hf,ho,fI,oI,sI,sB,sE,e1,e3,e8,e13,e15,e25]
     (first | refine aH (hsm) (by first | rfl | simp only [aA,aD, *]) ?_ | refine aG (hsm) (by first | rfl | simp only [aA,aD, *]) (by intro k;first | rfl | simp only [ *,zaa]) ?_);simp only [↓pre,zai,simprocAttr,aA,aJ,hf,ho,fI,oI,sI,sB,sE,e1,e3,e8,e13,e15,e25])
end Go.Proofs.YtaekhhlgnbhnpaaGreat