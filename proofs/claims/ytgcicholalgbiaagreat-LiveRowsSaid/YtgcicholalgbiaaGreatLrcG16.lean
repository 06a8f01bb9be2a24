import Derived.Test.YtgcicholalgbiaaGreatLrcG15
set_option linter.unusedVariables false
set_option linter.unusedSimpArgs false
set_option maxRecDepth 10000
namespace Go.Proofs.YtgcicholalgbiaaGreat
open Go Go.Tw Go.Proofs
def SortSpec:Prop:=∀ (m:Mem) (b:Nat) (L:List (Int×AV)),m.at_ b=some ⟨pairsA L,146,.var,true⟩→(L.map (·.1)).Nodup→L.length≤1000000→(∀ x∈L,oneA x.2=true)→OSpec Tryz.prog 131 [.sl b 0 L.length L.length false,.clo 132 []] m (fun v m'=>v=undefA∧m'=m.put b (some ⟨pairsA (sortL L),146,.var,true⟩))
def SortNil:Prop:=FSpec Tryz.prog 131 [nilS,.clo 132 []] ⟨undefA,[]⟩
def onceT:Nat→Bool:=fun d=>d != 71
theorem MapI.setM {m:Mem} {g:Nat} {E:Ents} {A:List AV} (h:MapI m g E A) {mm:Maps} (hm:mm.maps g=m.mm.maps g):MapI (m.setM mm) g E A:=⟨by rw [←h.mp];exact hm,h.len,fun j e a he ha=>(h.own j e a he ha).setM _,h.apart⟩
theorem MapI.keep {m m':Mem} {g:Nat} {E:Ents} {A:List AV} (h:MapI m g E A) (hm:m'.mm=m.mm) (hn:m.next≤m'.next) (hk:∀ j k,m.at_ j=some k→j < m.next→k.kind = .flat→m'.at_ j=some k):MapI m' g E A:=⟨by rw [hm];exact h.mp,h.len,fun j e a he ha=>by
 have:=h.own j e a he ha
 rcases this.form with ⟨rfl,h1⟩ | ⟨b,rfl,h2,h3,h4⟩
 ·exact ⟨.inl ⟨rfl,h1⟩,this.len⟩
 ·exact ⟨.inr ⟨b,rfl,hk b _ h2 h3 rfl,by omega,h4⟩,this.len⟩,h.apart⟩
theorem MapI.pp {m:Mem} {g:Nat} {E:Ents} {A:List AV} (h:MapI m g E A) (x:Blk) (y:Option Blk):MapI ((m.push x).put m.next y) g E A:=h.keep rfl (by rw [put_next,push_next];omega) fun j k hj hl _=>by rw [put_at,if_neg (by omega),push_at,if_neg (by omega)];exact hj
theorem addE_len (v i:Int) (E:Ents):(addE v i E).length≤E.length+1:=by
 unfold addE
 split <;> simp
theorem census_Tallies_own (hso:SortSpec) (hsn:SortNil) (k r c w:Int) (v:AV) (ps:List PairB) (cells:List AV) (hv:RowV v ps cells) (hc:chkI k r c w ps=0):FSpec Tryz.prog 91 [parV k r c w,v] (tallyR (heldsP k r c w ps)):=by
 have hp:=hv.rd.plain
 have hh:=census_held k r c w v ps cells hv
 unfold heldV at hh
 rw [if_pos hc] at hh
 obtain ⟨_,_,_,hn⟩:=chk_ok hc
 have hlen:=helds_len k r c w ps
 generalize hhs:heldsP k r c w ps=hs at *
 generalize hN:ps.length=N at *
 generalize hres:tallyR hs=res
 replace hres:=Hid.mk hres
 have hrd:RdSl (.tree N N (intsA (flatH hs)) true) N (intsA (flatH hs)):=⟨.inr (.inr ⟨_,true,rfl,Nat.le_refl _⟩)⟩
 replace hn:=Hid.mk hn
 replace hlen:=Hid.mk hlen
 refine fspec_of_body follows Tryz.func91 (by unfold Tryz.f91;rfl) (by unfold Tryz.f91;simp) onceT (by unfold Tryz.f91;simp) (by kernel_rfl) ?_;unfold Tryz.f91
 simp only [↓pre,simprocAttr,parV,sx,tys91,onceT,bne,postU,postA,postV,allocE,storeE,put_at,push_at,sr]
 (first | refine call_plain (hh) (by first | rfl | simp only [parV,plQ, *]) ?_ | refine call_pure (hh) (by first | rfl | simp only [parV,plQ, *]) (by intro k;first | rfl | simp only [sq,sr, *]) ?_);simp only [↓pre,simprocAttr,parV,sx,tys91,onceT,bne,postU,postA,postV,allocE,storeE,put_at,push_at,hrd.len',sr]
 intro g hg
 simp only [↓pre,simprocAttr,parV,sx,tys91,onceT,bne,postU,postA,postV,allocE,storeE,put_at,push_at,hrd.len',sr]
 rw [codeW_loop]
 refine loop_intro (fun q e m=>∃ i E A,q+i=N∧e 8 = .val (.map (some g))∧e 26 = .tree N N (intsA (flatH hs)) true∧e 27=intV (N:Nat)∧e 28=intV (i:Nat)∧Hid (MapI m g E A∧EI hs i 0 E∧E.length≤2*i)) N ⟨0,[],[],by omega,rfl,rfl,rfl,rfl,⟨⟨by simp [Mem.setM,Maps.add];rfl,rfl,fun j e a he=>by simp at he,fun i j a b x ha=>by simp at ha⟩,ei_start hs,by simp⟩⟩ ?_
 rintro q e m ⟨i,E,A,hqi,e8,e26,e27,e28,hJ⟩
 replace hqi:=Hid.mk hqi
 by_cases hlt:i < N
 ·have hlt':((i:Nat):Int) < ((N:Nat):Int):=by omega
  have w1:=wrap_succ (n:=i) (by have:=hn.out;omega)
  have hilh:i < hs.length:=by have:=hlen.out;omega
  obtain ⟨x,hx⟩:∃ x,hs[i]? = some x:=⟨_,List.getElem?_eq_getElem hilh⟩
  obtain ⟨hF1,hF2⟩:=flatH_at _ _ _ hx
  obtain ⟨ht,htl⟩:=take2 (int_at (x:=[]) hF1) (int_at (x:=[]) hF2)
  rw [List.append_nil] at ht htl
  replace hx:=Hid.mk hx
  replace hilh:=Hid.mk hilh
  simp only [↓pre,simprocAttr,parV,sx,tys91,onceT,bne,postU,postA,postV,allocE,storeE,put_at,push_at,e8,e26,e27,e28,hlt',hrd.addr',hlt,ht,htl,sr]
  rw [codeW_loop]
  refine loop_intro (fun q e m=>∃ kk E A,q+kk=2∧e 8 = .val (.map (some g))∧e 9=intV (i:Nat)∧e 10 = .tptr 0 [intV x.1,intV x.2]∧e 26 = .tree N N (intsA (flatH hs)) true∧e 27=intV (N:Nat)∧e 28=intV (i:Nat)∧e 33 = .agg [intV x.1,intV x.2]∧e 34=intV (kk:Nat)∧Hid (MapI m g E A∧EI hs i kk E∧E.length≤2*i+kk)) 2 ⟨0,E,A,by omega,e8,rfl,rfl,e26,e27,e28,rfl,rfl,⟨hJ.out.1.pp _ _,hJ.out.2⟩⟩ ?_
  rintro q2 e m2 ⟨kk,E,A,hqk,e8,e9,e10,e26,e27,e28,e33,e34,hJ2⟩
  replace hqk:=Hid.mk hqk
  by_cases hkk:kk < 2
  ·obtain ⟨z,hz⟩:∃ z,z=if kk=0 then x.1 else x.2:=⟨_,rfl⟩
   have hst:=ei_step hx.out hJ2.out.2.1 hkk hz
   have hap:∀ (c:Prop) [Decidable c],True:=fun _ _=>trivial
   have hM:=hJ2.out.1
   have hlk:=hM.look z
   have hown:=hM.own_look z
   have hLle:(lookL E z).length≤1000000:=by
    unfold lookL
    cases hj:idxE z E with
    | none=>simp
    | some j =>
     obtain ⟨e,he,_⟩:=idxE_some hj
     have:=(hJ2.out.2.1.is e (List.mem_of_getElem? he)).2.1
     simp only [he,Option.map_some,Option.getD_some]
     rw [this]
     unfold cellsK
     have h1:=cellsN_le hs e.1 i
     rw [hx.out]
     simp only [List.length_append]
     have:=hn.out
     split <;> simp <;> omega
   replace hLle:=Hid.mk hLle
   replace hM:=Hid.mk hM
   have hk2:kk=0∨kk=1:=by omega
   rcases hk2 with rfl | rfl
   ·have e34':e 34=intV 0:=e34
    simp only [if_true] at hz
    subst hz
    have w2:IntKind.i64.wrap (0+1)=1:=by rfl
    by_cases c1:0 < x.1
    ·rw [if_pos ⟨c1,.inl rfl⟩] at hst
     simp only [↓pre,simprocAttr,parV,sx,tys91,onceT,bne,postU,postA,postV,allocE,storeE,put_at,push_at,e8,e9,e10,e26,e27,e28,e33,e34',hlk,w2,c1,sr]
     refine app_keepM (kd := .flat) (sz:=1) (y:=8) (zl:=[.int .i64 0]) (by kernel_rfl) hown (by kernel_rfl) (by kernel_rfl) (by kernel_rfl) rfl srcT1 (by rfl) (by have:=hLle.out;omega) (by have:=hLle.out;omega) ?_
     intro a' m3 ho' hn' hkeep hbl hmm
     obtain ⟨hup,hM'⟩:=hM.out.upd x.1 i hn' hkeep hbl hmm ho'
     simp only [↓pre,simprocAttr,parV,sx,tys91,onceT,bne,postU,postA,postV,allocE,storeE,put_at,push_at,e8,e9,e10,e26,e27,e28,e33,e34',hlk,w2,c1,hup,sr]
     exact ⟨q2 - 1,by have:=hqk.out;omega,1,_,_,by have:=hqk.out;omega,rfl,⟨hM',hst,by have:=addE_len x.1 i E;have:=hJ2.out.2.2;omega⟩⟩
    ·rw [if_neg (fun h=>c1 h.1)] at hst
     simp only [↓pre,simprocAttr,parV,sx,tys91,onceT,bne,postU,postA,postV,allocE,storeE,put_at,push_at,e8,e9,e10,e26,e27,e28,e33,e34',hlk,w2,c1,sr]
     exact ⟨q2 - 1,by have:=hqk.out;omega,1,_,_,by have:=hqk.out;omega,rfl,⟨hM.out,hst,by have:=hJ2.out.2.2;omega⟩⟩
   ·have e34':e 34=intV 1:=e34
    simp only [Nat.one_ne_zero,if_false,false_or] at hz hst
    subst hz
    have w2:IntKind.i64.wrap (1+1)=2:=by rfl
    by_cases c1:0 < x.2
    ·by_cases c2:x.2=x.1
     ·rw [if_neg (fun h=>h.2 c2)] at hst
      have c3:0 < x.1:=by rw [←c2];exact c1
      simp only [↓pre,simprocAttr,parV,sx,tys91,onceT,bne,postU,postA,postV,allocE,storeE,put_at,push_at,e8,e9,e10,e26,e27,e28,e33,e34',hlk,w2,c3,c2,sr]
      exact ⟨q2 - 1,by have:=hqk.out;omega,2,_,_,by have:=hqk.out;omega,rfl,⟨hM.out,hst,by have:=hJ2.out.2.2;omega⟩⟩
     ·rw [if_pos ⟨c1,c2⟩] at hst
      simp only [↓pre,simprocAttr,parV,sx,tys91,onceT,bne,postU,postA,postV,allocE,storeE,put_at,push_at,e8,e9,e10,e26,e27,e28,e33,e34',hlk,w2,c1,c2,sr]
      refine app_keepM (kd := .flat) (sz:=1) (y:=8) (zl:=[.int .i64 0]) (by kernel_rfl) hown (by kernel_rfl) (by kernel_rfl) (by kernel_rfl) rfl srcT1 (by rfl) (by have:=hLle.out;omega) (by have:=hLle.out;omega) ?_
      intro a' m3 ho' hn' hkeep hbl hmm
      obtain ⟨hup,hM'⟩:=hM.out.upd x.2 i hn' hkeep hbl hmm ho'
      simp only [↓pre,simprocAttr,parV,sx,tys91,onceT,bne,postU,postA,postV,allocE,storeE,put_at,push_at,e8,e9,e10,e26,e27,e28,e33,e34',hlk,w2,c1,c2,hup,sr]
      exact ⟨q2 - 1,by have:=hqk.out;omega,2,_,_,by have:=hqk.out;omega,rfl,⟨hM',hst,by have:=addE_len x.2 i E;have:=hJ2.out.2.2;omega⟩⟩
    ·rw [if_neg (fun h=>c1 h.1)] at hst
     simp only [↓pre,simprocAttr,parV,sx,tys91,onceT,bne,postU,postA,postV,allocE,storeE,put_at,push_at,e8,e9,e10,e26,e27,e28,e33,e34',hlk,w2,c1,sr]
     exact ⟨q2 - 1,by have:=hqk.out;omega,2,_,_,by have:=hqk.out;omega,rfl,⟨hM.out,hst,by have:=hJ2.out.2.2;omega⟩⟩
  ·have hkk':¬ ((kk:Nat):Int) < 2:=by omega
   have:kk=2:=by have:=hqk.out;omega
   subst this
   simp only [↓pre,simprocAttr,parV,sx,tys91,onceT,bne,postU,postA,postV,allocE,storeE,put_at,push_at,e8,e9,e10,e26,e27,e28,e33,e34,hkk',w1,sr]
   exact ⟨q - 1,by have:=hqi.out;omega,i+1,E,A,by have:=hqi.out;omega,rfl,⟨hJ2.out.1,ei_next hilh.out hJ2.out.2.1,by have:=hJ2.out.2.2;omega⟩⟩
 ·have hlt':¬ ((i:Nat):Int) < ((N:Nat):Int):=by omega
  have hiN:i=N:=by have:=hqi.out;omega
  subst hiN
  simp only [↓pre,simprocAttr,parV,sx,tys91,onceT,bne,postU,postA,postV,allocE,storeE,put_at,push_at,e8,e26,e27,e28,hlt',sr]
  have hM:=hJ.out.1
  have hE:=hJ.out.2.1
  have hEl:E.length≤32:=by have:=hJ.out.2.2;have:=hn.out;omega
  replace hEl:=Hid.mk hEl
  refine ⟨(g,zipM E A),by rw [mapT_tally];rfl,by simp only [mapAt,hM.mp,Option.map_some], ?_⟩
  intro rr hrr
  simp only [↓pre,simprocAttr,parV,sx,tys91,onceT,bne,postU,postA,postV,allocE,storeE,put_at,push_at,e8,e26,e27,e28,sr]
  rw [codeW_loop]
  refine loop_intro (fun q e m=>∃ S lv,q+S.length=E.length∧e 13=lv∧e 61 = .val (.pointer (some ⟨rr,0,none⟩))∧m.mm.iters rr=some (g,S)∧Hid (MapI m g E A∧S.Nodup∧(∀ j∈S,j < E.length)∧OwnK .var m 146 2 lv S.length (pairsA (S.map fun j=>((E.getD j (0,[])).1,A.getD j nilS))))) E.length ⟨[],nilS,by simp,rfl,rfl,by simp [Mem.setM,Maps.walk],⟨hM.setM rfl,List.nodup_nil,fun j h=>(by cases h),own_nil⟩⟩ ?_
  rintro q e m3 ⟨S,lv,hq,e13,e61,hit,hJ3⟩
  replace hq:=Hid.mk hq
  replace hM:=Hid.mk hM
  replace hE:=Hid.mk hE
  simp only [↓pre,simprocAttr,parV,sx,tys91,onceT,bne,postU,postA,postV,allocE,storeE,put_at,push_at,e13,e61,sr]
  have hM3:=hJ3.out.1
  have hlv:=hJ3.out.2.2.2
  have hzl:(zipM E A).length=E.length:=by unfold zipM;rw [List.length_zipWith,hM3.len];omega
  refine ⟨(rr,(g,S),zipM E A),by simp only [iterAt,hit,hM3.mp,Option.bind_some,Option.map_some],fun hall => ?_,fun j kv hj hjs => ?_⟩
  ·simp only at hall
   simp only [hzl] at hall
   obtain ⟨hk1,hk2,X,hX1,hX2,hX3,hX4⟩:=tally_end hM3 hE.out hlen.out hJ3.out.2.1 hJ3.out.2.2.1 hall
   have hlL:(S.map fun j=>((E.getD j (0,[])).1,A.getD j nilS)).length=S.length:=by simp
   generalize hLg:(S.map fun j=>((E.getD j (0,[])).1,A.getD j nilS))=L at *
   have hXl:X.length=L.length:=by
    have:=(sortL_perm L).length_eq
    rw [hX1,List.length_map] at this
    exact this
   have hvl:X.length=(versF hs).length:=by
    have:=congrArg List.length hX4
    simpa using this
   have hSl:S.length≤32:=by have:=hEl.out;have:=hq.out;omega
   replace hX1:=Hid.mk hX1
   replace hX4:=Hid.mk hX4
   replace hLg:=Hid.mk hLg
   replace hvl:=Hid.mk hvl
   replace hXl:=Hid.mk hXl
   replace hlL:=Hid.mk hlL
   replace hSl:=Hid.mk hSl
   rcases hlv.form with ⟨rfl,h0,_⟩ | ⟨b,rfl,hb,hbl,hpos⟩
   ·have hv0:versF hs=[]:=List.eq_nil_of_length_eq_zero (by have:=hvl.out;have:=hXl.out;have:=hlL.out;omega)
    simp only [↓pre,simprocAttr,parV,sx,tys91,onceT,bne,postU,postA,postV,allocE,storeE,put_at,push_at,e13,e61,sr]
    (first | refine call_plain (hsn) (by first | rfl | simp only [parV,plQ, *]) ?_ | refine call_pure (hsn) (by first | rfl | simp only [parV,plQ, *]) (by intro k;first | rfl | simp only [sq,sr, *]) ?_);simp only [↓pre,simprocAttr,parV,sx,tys91,onceT,bne,postU,postA,postV,allocE,storeE,put_at,push_at,e13,e61,nilS,sr]
    rw [←hres.out]
    unfold tallyR
    rw [if_pos hv0]
    rfl
   ·have hne:¬ versF hs=[]:=by
     intro h
     have h1:=hvl.out
     rw [h,List.length_nil] at h1
     have h2:=hXl.out
     have h3:=hlL.out
     omega
    have hsort:=hso m3 b L hb hk1 (by have:=hlL.out;have:=hSl.out;omega) hk2
    rw [hlL.out] at hsort
    have hms:∀ x∈X,(m3.put b (some ⟨pairsA (sortL L),146,.var,true⟩)).at_ x.2.1=some ⟨intsA x.2.2,3,.flat,true⟩:=by
     intro x hx
     have h1:=(hX2 x hx).1
     rw [put_at,if_neg ?_]
     ·exact h1
     ·intro e
      rw [e,hb] at h1
      have h2:=congrArg Blk.kind (Option.some.inj h1)
      cases h2
    have hcn:=nest_canon (m3.put b (some ⟨pairsA (sortL L),146,.var,true⟩)) 2 X [] [] hms hX3 (fun x hx i hi=>by cases hi)
    rw [←hX1.out,List.length_nil,List.nil_append,List.nil_append] at hcn
    have hany:(X.map (fun x=>(x.2.1,0))).any (fun i:Nat×Nat=>i.1 == b)=false:=by
     rw [List.any_eq_false]
     intro i hi
     obtain ⟨x,hx,rfl⟩:=List.mem_map.1 hi
     have h1:=(hX2 x hx).1
     intro e
     have e:x.2.1=b:=by simpa using e
     rw [e,hb] at h1
     have h2:=congrArg Blk.kind (Option.some.inj h1)
     cases h2
    have hcan:canon Tryz.prog (m3.put b (some ⟨pairsA (sortL L),146,.var,true⟩)) 3 [] [] (.sl b 0 S.length S.length false)=some (.sl X.length 0 S.length S.length false,X.map (fun x=>(x.2.1,0))++[(b,0)],nestR X++[(146,nestO 0 X)]):=by
     have k9:kindT Tryz.prog 146 = .var:=by kernel_rfl
     have hnr:(nestR X).length=X.length:=by simp [nestR]
     unfold canon
     simp only [put_at,if_true,Option.bind_some,k9,and_self,List.drop_zero,hcn,hany,Bool.false_eq_true,if_false,hnr]
    simp only [↓pre,simprocAttr,parV,sx,tys91,onceT,bne,postU,postA,postV,allocE,storeE,put_at,push_at,e13,e61,sr]
    refine .inr (.inr (.inl ⟨_,_,hsort, ?_⟩))
    simp only [↓pre,simprocAttr,parV,sx,tys91,onceT,bne,postU,postA,postV,allocE,storeE,put_at,push_at,e13,e61,hcan,sr]
    rw [←hres.out]
    unfold tallyR
    rw [if_neg hne]
    obtain ⟨c1,c2⟩:=nestO_congr X (tX hs) 0 (by rw [hX4.out];unfold tX;rw [List.map_map,hlen.out];rfl)
    have h1:=hvl.out
    have h2:=hXl.out
    have h3:=hlL.out
    have h4:S.length=(versF hs).length:=by omega
    rw [h1,h4,c1,c2]
    rfl
  ·simp only at hj hjs
   obtain ⟨ev,hev,hj⟩:=Option.bind_eq_some_iff.1 (zip_at (E:=E) (A:=A) j ▸ hj)
   obtain ⟨av,hav,rfl⟩:=Option.map_eq_some_iff.1 hj
   have hoj:=hM3.own j ev av hev hav
   have hei:=hE.out.is ev (List.mem_of_getElem? hev)
   obtain ⟨b',rfl,hb',hlt'⟩:=hoj.sl (List.length_pos_iff.2 hei.2.2)
   have hel:j < E.length:=(List.getElem?_eq_some_iff.1 hev).1
   have hent:entE (m3.setM (m3.mm.walk rr (g,S++[j]))) (.val (.pointer (some ⟨rr,0,none⟩)))=some (.tup [.val (.int .i64 ev.1),.sl b' 0 ev.2.length ev.2.length false]):=by
    have h1:(m3.setM (m3.mm.walk rr (g,S++[j]))).mm.iters rr=some (g,S++[j]):=by simp [Mem.setM,Maps.walk]
    have h2:(m3.setM (m3.mm.walk rr (g,S++[j]))).mm.maps g=some (zipM E A):=hM3.mp
    simp only [entE,iterAt,h1,h2,Option.bind_some,Option.map_some,List.getLast?_append,List.getLast?_singleton,Option.some_or,zip_at,hev,hav]
   have hlen2:S.length < E.length:=by
    have:=hJ3.out.2.1
    have h3:=hJ3.out.2.2.1
    have:(S++[j]).Nodup:=List.nodup_append.2 ⟨this,by simp,fun a ha b hb=>by simp at hb;subst hb;rintro rfl;exact hjs ha⟩
    have hle:=List.Nodup.length_le_of_subset this (l₂:=List.range E.length) (fun y hy=>by
     rw [List.mem_range]
     rcases List.mem_append.1 hy with hy | hy
     ·exact h3 y hy
     ·simp at hy;omega)
    simp at hle
    omega
   have hbs:=fun m=>build_var1 (P:=Tryz.prog) (m:=m) (t:=142) (el:=146) (a := .int .i64 ev.1) (x := .sl b' 0 ev.2.length ev.2.length false) (z:=[.int .i64 0,.slice none 0 0]) (by kernel_rfl) rfl rfl rfl (by kernel_rfl) (by kernel_rfl) (by kernel_rfl) rfl
   simp only [↓pre,simprocAttr,parV,sx,tys91,onceT,bne,postU,postA,postV,allocE,storeE,put_at,push_at,e13,e61,hent,hbs,sr]
   have hlv4:OwnK .var ((m3.setM (m3.mm.walk rr (g,S++[j]))).push ⟨[.val (.int .i64 ev.1),.sl b' 0 ev.2.length ev.2.length false],146,.var,true⟩) 146 2 lv S.length _:=(hlv.setM _).push _
   refine app_keepM (kd := .var) (sz:=2) (y:=32) (zl:=[.int .i64 0,.slice none 0 0]) (by kernel_rfl) hlv4 (by kernel_rfl) (by kernel_rfl) (by kernel_rfl) rfl (src1a (by kernel_rfl) rfl) (by rfl) (by have:=hEl.out;omega) (by have:=hEl.out;omega) ?_
   intro lv' m5 ho5 hn5 hkeep5 hbl5 hmm5
   simp only [↓pre,simprocAttr,parV,sx,tys91,onceT,bne,postU,postA,postV,allocE,storeE,put_at,push_at,e13,e61,sr]
   refine ⟨q - 1,by have:=hq.out;omega,S++[j],lv',by have:=hq.out;simp;omega,rfl, ?_,⟨?_, ?_, ?_, ?_⟩⟩
   ·rw [hmm5];simp [Mem.push,Mem.setM,Maps.walk]
   ·have hMp:MapI ((m3.setM (m3.mm.walk rr (g,S++[j]))).push ⟨[.val (.int .i64 ev.1),.sl b' 0 ev.2.length ev.2.length false],146,.var,true⟩) g E A:=(hM3.setM (mm:=m3.mm.walk rr (g,S++[j])) rfl).keep rfl (by rw [push_next];omega) fun j k hj hl _=>by rw [push_at,if_neg (by omega)];exact hj
    exact hMp.keep hmm5 hn5 fun j k hj hl hk=>hkeep5 j k hj hl (hlv4.ne_kind hj (by rw [hk];intro h;cases h))
   ·exact List.nodup_append.2 ⟨hJ3.out.2.1,by simp,fun a ha b hb=>by simp at hb;subst hb;rintro rfl;exact hjs ha⟩
   ·intro y hy
    rcases List.mem_append.1 hy with hy | hy
    ·exact hJ3.out.2.2.1 y hy
    ·simp at hy;omega
   ·have e1:(E.getD j (0,[])).1=ev.1:=by rw [List.getD_eq_getElem?_getD,hev];rfl
    have e2:A.getD j nilS = .sl b' 0 ev.2.length ev.2.length false:=by rw [List.getD_eq_getElem?_getD,hav];rfl
    rw [List.length_append,List.map_append,pairsA_append,List.map_cons,List.map_nil,e1,e2]
    exact ho5
end Go.Proofs.YtgcicholalgbiaaGreat