import Derived.Test.YtaekhhlgnbhnpaaGreatOycG08
import Derived.Laws.Strings
set_option linter.unusedVariables false
set_option linter.unusedSimpArgs false
namespace Go.Tw
open Go
section
variable {P:Program} {t:TypeId} {x y:Operand}
abbrev apn (s:ByteArray):AV := .val (.string s)
theorem ajw {a b:ByteArray}:dP P .lss t x y (.val (.string a)) (.val (.string b))=some (.val (.bool (Op.bytesLess a.data.toList b.data.toList))):=by
 rw [←ByteArray.toList_eq,←ByteArray.toList_eq]
 simp [dP,qA,eqGuard,binOp,Op.stringOp,cN,Bind.bind,Sem.bind,Pure.pure]
theorem ajx (a b:ByteArray):(a.toList == b.toList)=decide (a=b):=by
 by_cases h:a=b
 ·subst h;simp
 ·have:a.toList≠b.toList:=fun e=>h (by
   cases a;cases b
   simpa [ByteArray.toList_eq] using e)
  simp [h,this]
theorem afu {a b:ByteArray}:dP P .eql t x y (.val (.string a)) (.val (.string b))=some (.val (.bool (decide (a=b)))):=by
 simp [dP,qA,eqGuard,binOp,Op.stringOp,cN,Bind.bind,Sem.bind,Pure.pure,ajx]
theorem afv {a b:ByteArray}:dP P .neq t x y (.val (.string a)) (.val (.string b))=some (.val (.bool (!decide (a=b)))):=by
 simp [dP,qA,eqGuard,binOp,Op.stringOp,cN,Bind.bind,Sem.bind,Pure.pure,ajx]
theorem ajy {s:ByteArray} (h:mQ P t=true):jT P t (.val (.string s))=some (.val (.int .i64 s.size)):=by simp [jT,h,aE]
theorem ajz {s:ByteArray} {k:Nat} (h:mQ P t=true):zE P t k (.val (.string s))=(s.data.toList[k]?).map aU:=by simp [zE,h]
theorem ac8 {k:IntKind} {n:Nat}:jB (.val (.int k (n:Int)))=some n:=by simp [jB]
theorem ajA {k:IntKind} {n:Nat}:jB (.val (.int k (no_index (OfNat.ofNat n:Int))))=some n:=by simp only [jB];rfl
theorem ajB {m:aH} {ty:TypeId} {a:AV}:qV P m #[t] ty [a] .len=eR (jT P t a) m:=rfl
end
structure bD (v:AV) (n:Nat) (cs:List AV):Prop where
 form:(v=aP∧n=0)∨(∃ c f,v = .emp c f∧n=0)∨(∃ c f,v = .tree n c cs f∧n≤c)
section
variable {P:Program} {v:AV} {n:Nat} {cs:List AV}
theorem bD.len (h:bD v n cs) (t:TypeId):jT P t v=jT P t (.tree n n cs true):=by
 rcases h.form with ⟨rfl,rfl⟩ | ⟨c,f,rfl,rfl⟩ | ⟨c,f,rfl,_⟩ <;> simp [jT,vH,aP] <;> rfl
theorem bD.addr (h:bD v n cs) (t:TypeId) (k:Nat):mR P t k v=mR P t k (.tree n n cs true):=by
 rcases h.form with ⟨rfl,rfl⟩ | ⟨c,f,rfl,rfl⟩ | ⟨c,f,rfl,_⟩ <;> simp only [mR,aP]
 ·cases bZ P t with
  | none=>cases nT P t <;> rfl
  | some el=>simp
 ·cases bZ P t with
  | none=>cases nT P t <;> rfl
  | some el=>simp
theorem bD.len' (h:bD v n cs) {t:TypeId} (ht:(bZ P t).isSome=true):jT P t v=some (.val (.int .i64 (n:Nat))):=by
 rw [h.len]
 obtain ⟨el,hel⟩:=Option.isSome_iff_exists.1 ht
 simp [jT,hel,vH,aE]
theorem bD.addr' (h:bD v n cs) {t:TypeId} {k:Nat} (ht:(bZ P t).isSome=true):mR P t k v=(bZ P t).bind fun el=>(cG P el).bind fun sz=>if k < n then some (.tptr (k*sz) cs) else none:=by
 rw [h.addr]
 obtain ⟨el,hel⟩:=Option.isSome_iff_exists.1 ht
 simp [mR,hel]
theorem bD.plain (h:bD v n cs):plain v=true:=by
 rcases h.form with ⟨rfl,rfl⟩ | ⟨c,f,rfl,rfl⟩ | ⟨c,f,rfl,_⟩ <;> rfl
end
theorem dE {n:Nat} (h:n≤9223372036854775807):IntKind.i64.wrap (n:Int)=n:=by
 simp only [IntKind.wrap,IntKind.bits,IntKind.signed]
 simp
 split <;> omega
theorem cF {n:Nat} (h:n < 9223372036854775807):IntKind.i64.wrap ((n:Int)+1)=((n+1:Nat):Int):=by
 have:=dE (n:=n+1) (by omega)
 rw [←this];rfl
section
variable {m:aH} {x:eQ} {b j:Nat}
theorem aG:(m.push x).at_ j=if j=m.next then some x else m.at_ j:=rfl
theorem bO:(m.push x).next=m.next+1:=rfl
theorem aF {y:Option eQ}:(m.put b y).at_ j=if j=b then y else m.at_ j:=rfl
theorem bX {y:Option eQ}:(m.put b y).next=m.next:=rfl
end
theorem b8 {body:(Ex→bI→aH→Prop)→bI→aH→Prop} {Q:Ex→bI→aH→Prop} {e:bI} {m:aH} (J:Nat→bI→aH→Prop) (n:Nat) (h0:J n e m) (h:∀ n e m,J n e m→body (o7 (fun e' m'=>∃ n',n' < n∧J n' e' m') Q) e m):xW body Q e m:=⟨J,n,h0,h⟩
theorem aC:(type_of% @aG)∧(type_of% @aF)∧(type_of% @bO)∧(type_of% @bX)∧(type_of% @ajw)∧(type_of% @afu)∧(type_of% @afv)∧(type_of% @ajy)∧(type_of% @ajz)∧(type_of% @ac8)∧(type_of% @ajA)∧(type_of% @ajB):=⟨@aG,@aF,@bO,@bX,@ajw,@afu,@afv,@ajy,@ajz,@ac8,@ajA,@ajB⟩
section
variable {P:Program} {m:aH} {t:TypeId} {x y:Operand} {k yk:IntKind} {a:Int}
theorem ajC {t:TypeId} {k:IntKind} (h:z6 P t=some k):P.underlying t=some (.int k):=by
 unfold z6 at h
 split at h
 ·rename_i k' hu;rw [hu,Option.some.inj h]
 ·cases h
theorem ajD {src dst:TypeId} (h1:(z6 P src).isSome=true) (h2:(z6 P dst).isSome=true):lG P m src dst (.val (.int k a))=(z6 P dst).bind fun q=>some ⟨.val (.int q (q.wrap a)),m,none⟩:=by
 obtain ⟨k1,h1⟩:=Option.isSome_iff_exists.1 h1
 obtain ⟨k2,h2⟩:=Option.isSome_iff_exists.1 h2
 have u1:=ajC h1
 have u2:=ajC h2
 have e1:bZ P dst=none:=by simp [bZ,u2]
 have e2:mQ P dst=false:=by simp [mQ,u2]
 simp only [h2,Option.bind_some,lG,e1,e2,Go.convert,Bind.bind,underlying,program,Sem.bind]
 simp [cN,u1,u2,Bind.bind,Sem.bind,Pure.pure,Conv.intToInt,eR]
theorem ajE {n:Nat}:dP P .shr t x y (.val (.int k a)) (.val (.int yk (no_index (OfNat.ofNat n:Int))))=some (.val (.int k (a / 2 ^ min n k.bits))):=by
 have h1:¬ ((OfNat.ofNat n:Int) < 0):=by show ¬ ((n:Int) < 0);omega
 have h2:((OfNat.ofNat n:Int)).toNat=n:=rfl
 have h3:a.fdiv (2 ^ min n k.bits)=a / 2 ^ min n k.bits:=Int.fdiv_eq_ediv_of_nonneg _ (Int.le_of_lt (Int.pow_pos (by decide)))
 simp only [dP,qA,eqGuard,binOp,Op.shift,h1,h2,cN,Bind.bind,Sem.bind,Pure.pure,if_false,h3]
 simp [cN,Sem.bind]
end
theorem ac9 (n:Nat):IntKind.u8.wrap (n:Int)=((UInt8.ofNat n).toNat:Int):=by
 simp [IntKind.wrap,IntKind.bits,IntKind.signed]
theorem ajF {P:Program} {m:aH} {t t2 ty:TypeId} {s x:AV} (h:vG P t2=true):qV P m #[t,t2] ty [s,x] .append=(bZ P t).bind fun el=>fX P el m s x:=by simp [qV,h]
structure cH (kd:fO) (m:aH) (el:TypeId) (sz:Nat) (v:AV) (n:Nat) (cells:List AV):Prop where
 form:(v=aP∧n=0∧cells=[])∨(∃ b,v = .sl b 0 n n false∧m.at_ b=some ⟨cells,el,kd,true⟩∧b < m.next∧0 < n)
 len:cells.length=n*sz
abbrev eM:=cH .flat
theorem gT {kd:fO} {m:aH} {el:TypeId} {sz:Nat}:cH kd m el sz aP 0 []:=⟨.inl ⟨rfl,rfl,rfl⟩,by simp⟩
theorem cH.push {kd:fO} {m:aH} {el:TypeId} {sz n:Nat} {v:AV} {cells:List AV} (h:cH kd m el sz v n cells) (x:eQ)   : cH kd (m.push x) el sz v n cells:=by
 refine ⟨?_,h.len⟩
 rcases h.form with h1 | ⟨b,h1,h2,h3,h4⟩
 ·exact .inl h1
 ·exact .inr ⟨b,h1,by rw [aG,if_neg (by omega)];exact h2,by rw [bO];omega,h4⟩
theorem cH.put {kd:fO} {m:aH} {el:TypeId} {sz n:Nat} {v:AV} {cells:List AV} (h:cH kd m el sz v n cells) {j:Nat} {x:Option eQ} (hj:m.next≤j)   : cH kd (m.put j x) el sz v n cells:=by
 refine ⟨?_,h.len⟩
 rcases h.form with h1 | ⟨b,h1,h2,h3,h4⟩
 ·exact .inl h1
 ·exact .inr ⟨b,h1,by rw [aF,if_neg (by omega)];exact h2,h3,h4⟩
theorem cH.pp {kd:fO} {m:aH} {el:TypeId} {sz n:Nat} {v:AV} {cells:List AV} (h:cH kd m el sz v n cells) (x:eQ) (y:Option eQ):cH kd ((m.push x).put m.next y) el sz v n cells:=by
 refine ⟨?_,h.len⟩
 rcases h.form with h1 | ⟨b,h1,h2,h3,h4⟩
 ·exact .inl h1
 ·exact .inr ⟨b,h1,by rw [aF,if_neg (by omega),aG,if_neg (by omega)];exact h2,by rw [bX,bO];omega,h4⟩
theorem qE {P : Program} {kd : fO} {el : TypeId} {m : aH} {v x : AV} {K : bS → Prop} {sz y n cnt : Nat} {zl : List Value} {cells new : List AV} (hkd : bR P el = kd) (ho : cH kd m el sz v n cells) (h1 : cG P el = some sz) (h2 : j8 P el = some y) (h3 : gB P el = some zl) (h4 : zl.length = sz) (h5 : fW P el sz m x = some (new, cnt)) (h6 : new.length = cnt * sz) (h7 : (n + cnt) * y ≤ 140737488355328) (h8 : n + cnt ≤ 140737488355328)
   (hK : ∀ v' m', cH kd m' el sz v' (n + cnt) (cells ++ new) → m.next ≤ m'.next → K ⟨v', m', none⟩) : eL (fX P el m v x) K := by
 have hlen := ho.len
 rcases ho.form with ⟨rfl, rfl, rfl⟩ | ⟨b, rfl, hb, hlt, hn0⟩
 · by_cases hc : cnt = 0
   · subst hc
     have hn : new = [] := List.eq_nil_of_length_eq_zero (by omega)
     subst hn
     have : fX P el m aP x = some ⟨aP, m, none⟩ := by simp [fX, h1, h2, h3, h5, d6, aP, hkd, h4, bK]
     rw [this]
     exact hK _ _ gT (Nat.le_refl _)
   · have : fX P el m aP x = some ⟨.sl m.next 0 (0 + cnt) (0 + cnt) false, m.push ⟨new, el, kd, true⟩, none⟩ := by
       simp only [fX, h1, h2, h3, h5, d6, aP, hkd, Option.bind_some, h7, h8, h4, and_self, if_true, if_neg hc]
       simp [bK]
     rw [this]
     exact hK _ _ ⟨.inr ⟨m.next, rfl, by rw [aG, if_pos rfl]; rfl, by rw [bO]; omega, by omega⟩, by simp [h6]⟩ (by rw [bO]; omega)
 · have : fX P el m (.sl b 0 n n false) x = some ⟨.sl m.next 0 (n + cnt) (n + cnt) false, (m.put b none).push ⟨cells ++ new, el, kd, true⟩, none⟩ := by
     simp only [fX, h1, h2, h3, h5, d6, hb, hkd, Option.bind_some, h7, h8, h4, and_self, if_true]
     simp [bK, hlen, t7]
   rw [this]
   exact hK _ _ ⟨.inr ⟨m.next, rfl, by rw [aG, bX, if_pos rfl], by rw [bO, bX]; omega, by omega⟩, by simp [hlen, h6, Nat.add_mul]⟩ (by rw [bO, bX]; omega)
def iY (el:TypeId) (n:Nat) (cells:List AV):iO:=if n=0 then ⟨aP,[]⟩ else ⟨.sl 0 0 n n false,[(el,cells)]⟩
theorem ajG {P:Program} {m:aH} {el:TypeId} {sz n:Nat} {v:AV} {cells:List AV} (hkd:bR P el = .flat) (h:eM m el sz v n cells):canon P m 3 [] [] v=some ((iY el n cells).v,(if n=0 then [] else [(match v with | .sl b _ _ _ _=>(b,0) | _=>(0,0))]),(iY el n cells).rows):=by
 rcases h.form with ⟨rfl,rfl,rfl⟩ | ⟨b,rfl,hb,hlt,hn⟩
 ·unfold aP canon;rfl
 ·unfold canon;simp [hb,iY,Nat.ne_of_gt hn,hkd]
section
variable {P:Program} {m:aH} {t:TypeId} {k k':IntKind} {a b:Int}
theorem ajH (hk:(bZ P t).map (bR P)=some .flat) (h1:(bZ P t).bind (cG P)=some 1) (h2:((bZ P t).bind (gB P)).map List.length=some 1):oW P m t 1 [(0,.val (.int k a))]=(bZ P t).bind fun el=>some ⟨.sl m.next 0 1 1 true,m.push ⟨[.val (.int k a)],el,.flat,true⟩,none⟩:=by
 obtain ⟨el,hel,h1⟩:=Option.bind_eq_some_iff.1 h1
 obtain ⟨z,hz,h2⟩:=Option.map_eq_some_iff.1 h2
 obtain ⟨el',hel',hz⟩:=Option.bind_eq_some_iff.1 hz
 have:el'=el:=by rw [hel] at hel';exact (Option.some.inj hel').symm
 subst this
 rw [hel,Option.map_some,Option.some.injEq] at hk
 match z,h2 with
 | [z],_=>simp [oW,hk,hel,h1,hz,iW,List.range_succ,fU,fC,dB,cI,AV.cells,fzs,fz,bK]
theorem ajI (hk:(bZ P t).map (bR P)=some .flat) (h1:(bZ P t).bind (cG P)=some 1) (h2:((bZ P t).bind (gB P)).map List.length=some 1):oW P m t 2 [(0,.val (.int k a)),(1,.val (.int k' b))]=(bZ P t).bind fun el=>some ⟨.sl m.next 0 2 2 true,m.push ⟨[.val (.int k a),.val (.int k' b)],el,.flat,true⟩,none⟩:=by
 obtain ⟨el,hel,h1⟩:=Option.bind_eq_some_iff.1 h1
 obtain ⟨z,hz,h2⟩:=Option.map_eq_some_iff.1 h2
 obtain ⟨el',hel',hz⟩:=Option.bind_eq_some_iff.1 hz
 have:el'=el:=by rw [hel] at hel';exact (Option.some.inj hel').symm
 subst this
 rw [hel,Option.map_some,Option.some.injEq] at hk
 match z,h2 with
 | [z],_=>simp [oW,hk,hel,h1,hz,iW,List.range_succ,fU,fC,dB,cI,AV.cells,fzs,fz,bK]
theorem ajJ (h1:(bZ P t).bind (cG P)=some 1) (h2:((bZ P t).bind (gB P)).map List.length=some 1):fV P m t 1 [(0,.val (.int k a))]=some ⟨.tree 1 1 [.val (.int k a)] true,m,none⟩:=by
 obtain ⟨el,hel,h1⟩:=Option.bind_eq_some_iff.1 h1
 obtain ⟨z,hz,h2⟩:=Option.map_eq_some_iff.1 h2
 obtain ⟨el',hel',hz⟩:=Option.bind_eq_some_iff.1 hz
 have:el'=el:=by rw [hel] at hel';exact (Option.some.inj hel').symm
 subst this
 match z,h2 with
 | [z],_=>simp [fV,hel,h1,hz,iW,List.range_succ,fU,fC,dB,cI,AV.cells,jH,iN,bK]
theorem ajK (h1:(bZ P t).bind (cG P)=some 1) (h2:((bZ P t).bind (gB P)).map List.length=some 1):fV P m t 2 [(0,.val (.int k a)),(1,.val (.int k' b))]=some ⟨.tree 2 2 [.val (.int k a),.val (.int k' b)] true,m,none⟩:=by
 obtain ⟨el,hel,h1⟩:=Option.bind_eq_some_iff.1 h1
 obtain ⟨z,hz,h2⟩:=Option.map_eq_some_iff.1 h2
 obtain ⟨el',hel',hz⟩:=Option.bind_eq_some_iff.1 hz
 have:el'=el:=by rw [hel] at hel';exact (Option.some.inj hel').symm
 subst this
 match z,h2 with
 | [z],_=>simp [fV,hel,h1,hz,iW,List.range_succ,fU,fC,dB,cI,AV.cells,jH,iN,bK]
theorem aby {el:TypeId} {sz n c:Nat} {cs:List AV} {f:Bool} (h:n*sz≤cs.length):fW P el sz m (.tree n c cs f)=some (cs.take (n*sz),n):=by simp [fW,d6,h]
theorem xZ {n sz:Nat} {el:TypeId} {parts:List (Nat×AV)} {z cells:List AV} (h1:bZ P t=some el) (h2:cG P el=some sz) (h3:iW P el n=some z) (h4:fU (fun i=>some (i*sz,sz)) z parts=some cells) (h5:jH cells=false) (h6:n*sz≤16777216):fV P m t n parts=some ⟨.tree n n cells true,m,none⟩:=by
 simp [fV,h1,h2,h3,h4,h5,h6,bK]
theorem mH {el:TypeId} {f:Bool} {u:AV}:fW P el 1 m (.tree 1 1 [u] f)=some ([u],1):=by simp [fW,d6]
end
theorem aM:(type_of% @ajD)∧(type_of% @ajE)∧(type_of% @ac9)∧(type_of% @ajH)∧(type_of% @ajI)∧(type_of% @ajJ)∧(type_of% @ajK)∧(type_of% @ajF):=⟨@ajD,@ajE,@ac9,@ajH,@ajI,@ajJ,@ajK,@ajF⟩
section
variable {P:Program} {m:aH} {t el:TypeId} {v:AV} {n sz:Nat} {cs:List AV}
theorem bD.slOk (h:bD v n cs):slOk P m t v=true:=by
 rcases h.form with ⟨rfl,rfl⟩ | ⟨c,f,rfl,rfl⟩ | ⟨c,f,rfl,_⟩ <;> rfl
theorem bD.sliceX (h:bD v n cs) {d c:Bool} {lo hi mx:Option AV}:sliceX P d c m t v lo hi mx=(a8 lo).bind fun lo=>(a8 hi).bind fun hi=>(a8 mx).bind fun mx=>eR (lU P t lo hi mx v) m:=by
 rcases h.form with ⟨rfl,_⟩ | ⟨_,_,rfl,_⟩ | ⟨_,_,rfl,_⟩ <;> cases d <;> cases c <;> rfl
theorem bD.src (h:bD v n cs) (hc:n*sz≤cs.length):fW P el sz m v=some (cs.take (n*sz),n):=by
 rcases h.form with ⟨rfl,rfl⟩ | ⟨c,f,rfl,rfl⟩ | ⟨c,f,rfl,_⟩
 ·simp [fW,d6,aP]
 ·simp [fW,d6]
 ·simp [fW,d6,hc]
theorem bD.cut (h:bD v n cs) {lo:Nat} {hi:Option Nat} (h1:lo≤hi.getD n) (h2:hi.getD n≤n):∃ v',iG sz lo hi none v=some v'∧bD v' (hi.getD n - lo) (cs.drop (lo*sz)):=by
 rcases h.form with ⟨rfl,rfl⟩ | ⟨c,f,rfl,rfl⟩ | ⟨c,f,rfl,hc⟩
 ·have e1:hi.getD 0=0:=by omega
  have e2:lo=0:=by omega
  subst e2
  exact ⟨aP,by simp [iG,aP,e1],⟨.inl ⟨rfl,by omega⟩⟩⟩
 ·have e1:hi.getD 0=0:=by omega
  have e2:lo=0:=by omega
  subst e2
  exact ⟨.emp c f,by simp [iG,e1],⟨.inr (.inl ⟨c,f,rfl,by omega⟩)⟩⟩
 ·by_cases he:lo=hi.getD n
  ·refine ⟨.emp (c - lo) f, ?_,⟨.inr (.inl ⟨_,_,rfl,by omega⟩)⟩⟩
   simp only [iG,Option.getD_none,Option.isSome_none,Bool.or_false]
   rw [if_pos (by omega),if_pos he]
  ·refine ⟨.tree (hi.getD n - lo) (c - lo) (cs.drop (lo*sz)) f, ?_,⟨.inr (.inr ⟨_,_,rfl,by omega⟩)⟩⟩
   simp only [iG,Option.getD_none,Option.isSome_none,Bool.or_false]
   rw [if_pos (by omega),if_neg he]
theorem bD.slice (h:bD v n cs) {lo hi:Option Nat} (ht:(bZ P t).bind (cG P)=some sz) (h1:lo.getD 0≤hi.getD n) (h2:hi.getD n≤n):∃ v',lU P t lo hi none v=some v'∧bD v' (hi.getD n - lo.getD 0) (cs.drop (lo.getD 0*sz)):=by
 obtain ⟨el,hel,hsz⟩:=Option.bind_eq_some_iff.1 ht
 obtain ⟨v',h3,h4⟩:=h.cut (sz:=sz) h1 h2
 exact ⟨v',by simp [lU,hel,hsz,h3],h4⟩
theorem afw:∀ (bs:List UInt8),bytesOf (bs.map aU)=some bs
 | []=>rfl
 | b::bs=>by
  have:asB (aU b)=some b:=by simp [asB,aU]
  simp [bytesOf,this,afw bs]
theorem bD.str {bs:List UInt8} {x:List AV} (h:bD v bs.length (bs.map aU++x)) {src dst:TypeId} (h1:bZ P dst=none) (h2:mQ P dst=true) (h3:bZ P src=some el) (h4:p7 P el=true):lG P m src dst v=some ⟨.val (.string ⟨bs.toArray⟩),m,none⟩:=by
 have hv:d6 .flat m v=some (bs.map aU++x,bs.length,(match v with | .tree n c _ f=>f && c == n | _=>true))∨(bs=[]∧∃ q,d6 .flat m v=some ([],0,q)):=by
  rcases h.form with ⟨rfl,hn⟩ | ⟨c,f,rfl,hn⟩ | ⟨c,f,rfl,_⟩
  ·exact .inr ⟨List.eq_nil_of_length_eq_zero hn,true,rfl⟩
  ·exact .inr ⟨List.eq_nil_of_length_eq_zero hn,_,rfl⟩
  ·exact .inl rfl
 simp only [lG,h1,h2,h3,h4,if_true]
 rcases hv with hv | ⟨rfl,q,hv⟩
 ·have e:(bs.map aU++x).take bs.length=bs.map aU:=by rw [List.take_append_of_le_length (by simp)];rw [List.take_of_length_le (by simp)]
  simp [hv,e,afw,bK]
 ·simp [hv,bytesOf,bK]
theorem ajL {a b:Value} (ha:qQ a=true) (hb:qQ b=true) (h1:(bZ P t).bind (cG P)=some 2) (h2:((bZ P t).bind (gB P)).map List.length=some 2):fV P m t 1 [(0,.agg [.val a,.val b])]=some ⟨.tree 1 1 [.val a,.val b] true,m,none⟩:=by
 obtain ⟨el,hel,h1⟩:=Option.bind_eq_some_iff.1 h1
 obtain ⟨z,hz,h2⟩:=Option.map_eq_some_iff.1 h2
 obtain ⟨el',hel',hz⟩:=Option.bind_eq_some_iff.1 hz
 have:el'=el:=by rw [hel] at hel';exact (Option.some.inj hel').symm
 subst this
 match z,h2 with
 | [z,z'],_=>simp [fV,hel,h1,hz,iW,List.range_succ,fU,fC,cI,AV.cells,jH,iN,bK]
theorem abz {el:TypeId} {f:Bool} {u u':AV}:fW P el 2 m (.tree 1 1 [u,u'] f)=some ([u,u'],1):=by simp [fW,d6]
theorem apo {el el':TypeId} {kd:fO} {b:Nat} {f wr:Bool} {u u':AV} (hkd:bR P el=kd) (hb:b=m.next):fW P el 2 (m.push ⟨[u,u'],el',kd,wr⟩) (.sl b 0 1 1 f)=some ([u,u'],1):=by
 subst hb;simp [fW,d6,aG,hkd]
end
def z7 (k:IntKind) (a b:Int):Int:=k.wrap ((BitVec.ofInt k.bits a ||| BitVec.ofInt k.bits b).toNat:Int)
def uI (k:IntKind) (a b:Int):Int:=k.wrap ((BitVec.ofInt k.bits a ^^^ BitVec.ofInt k.bits b).toNat:Int)
def rA (k:IntKind) (a b:Int):Int:=k.wrap ((BitVec.ofInt k.bits a &&& BitVec.ofInt k.bits b).toNat:Int)
section
variable {P:Program} {t:TypeId} {x y:Operand} {k yk:IntKind} {a b:Int}
theorem ajM:dP P .or t x y (.val (.int k a)) (.val (.int k b))=some (.val (.int k (z7 k a b))):=by
 simp [o8,binOp,Op.intBits,z7,cN,Bind.bind,Sem.bind,Pure.pure]
theorem ajN:dP P .xor t x y (.val (.int k a)) (.val (.int k b))=some (.val (.int k (uI k a b))):=by
 simp [o8,binOp,Op.intBits,uI,cN,Bind.bind,Sem.bind,Pure.pure]
theorem ajO:dP P .and t x y (.val (.int k a)) (.val (.int k b))=some (.val (.int k (rA k a b))):=by
 simp [o8,binOp,Op.intBits,rA,cN,Bind.bind,Sem.bind,Pure.pure]
theorem ajP {n:Nat}:dP P .shl t x y (.val (.int k a)) (.val (.int yk (no_index (OfNat.ofNat n:Int))))=some (.val (.int k (k.wrap (a*2 ^ min n k.bits)))):=by
 have h1:¬ ((OfNat.ofNat n:Int) < 0):=by show ¬ ((n:Int) < 0);omega
 have h2:((OfNat.ofNat n:Int)).toNat=n:=rfl
 simp only [dP,qA,eqGuard,binOp,Op.shift,h1,h2,cN,Bind.bind,Sem.bind,Pure.pure,if_false]
 simp [cN,Sem.bind]
end
theorem tD {w n:Nat}:BitVec.ofInt w (n:Int)=BitVec.ofNat w n:=by
 apply BitVec.eq_of_toNat_eq
 simp
theorem ajQ {a b:Nat} (ha:a < 9223372036854775808) (hb:b < 9223372036854775808):z7 .i64 a b=((a ||| b:Nat):Int):=by
 have h:a ||| b < 9223372036854775808:=Nat.or_lt_two_pow (n:=63) ha hb
 unfold z7
 rw [tD,tD,BitVec.toNat_or,BitVec.toNat_ofNat,BitVec.toNat_ofNat]
 simp only [IntKind.bits]
 rw [Nat.mod_eq_of_lt (by omega),Nat.mod_eq_of_lt (by omega)]
 exact dE (by omega)
theorem app {a b:Nat} (ha:a < 256) (hb:b < 256):uI .u8 a b=((a ^^^ b:Nat):Int):=by
 have h:a ^^^ b < 256:=Nat.xor_lt_two_pow (n:=8) ha hb
 unfold uI
 rw [tD,tD,BitVec.toNat_xor,BitVec.toNat_ofNat,BitVec.toNat_ofNat]
 simp only [IntKind.bits]
 rw [Nat.mod_eq_of_lt (by omega),Nat.mod_eq_of_lt (by omega)]
 simp [IntKind.wrap,IntKind.bits,IntKind.signed]
 omega
theorem ajR {a b:Nat} (hb:b < 256):a*256 ||| b=a*256+b:=by
 have:=Nat.two_pow_add_eq_or_of_lt (i:=8) hb a
 rw [show (2:Nat) ^ 8=256 from rfl,Nat.mul_comm] at this
 exact this.symm
theorem cV:(type_of% @ajM)∧(type_of% @ajN)∧(type_of% @ajO)∧(type_of% @ajP):=⟨@ajM,@ajN,@ajO,@ajP⟩
end Go.Tw