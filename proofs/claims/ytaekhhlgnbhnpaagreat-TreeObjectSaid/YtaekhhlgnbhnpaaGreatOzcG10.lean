import Derived.Test.YtaekhhlgnbhnpaaGreatOzcG08
import Derived.Laws.Strings
set_option linter.unusedVariables false
set_option linter.unusedSimpArgs false
namespace Go.Tw
open Go
section
variable {P:Program} {t:TypeId} {x y:Operand}
abbrev aqw (s:ByteArray):AV := .val (.string s)
theorem akh {a b:ByteArray}:dV P .lss t x y (.val (.string a)) (.val (.string b))=some (.val (.bool (Op.bytesLess a.data.toList b.data.toList))):=by
 rw [←ByteArray.toList_eq,←ByteArray.toList_eq]
 simp [dV,qN,eqGuard,binOp,Op.stringOp,cT,Bind.bind,Sem.bind,Pure.pure]
theorem aki (a b:ByteArray):(a.toList == b.toList)=decide (a=b):=by
 by_cases h:a=b
 ·subst h;simp
 ·have:a.toList≠b.toList:=fun e=>h (by
   cases a;cases b
   simpa [ByteArray.toList_eq] using e)
  simp [h,this]
theorem akj {a b:ByteArray}:dV P .eql t x y (.val (.string a)) (.val (.string b))=some (.val (.bool (decide (a=b)))):=by
 simp [dV,qN,eqGuard,binOp,Op.stringOp,cT,Bind.bind,Sem.bind,Pure.pure,aki]
theorem af2 {a b:ByteArray}:dV P .neq t x y (.val (.string a)) (.val (.string b))=some (.val (.bool (!decide (a=b)))):=by
 simp [dV,qN,eqGuard,binOp,Op.stringOp,cT,Bind.bind,Sem.bind,Pure.pure,aki]
theorem akk {s:ByteArray} (h:nO P t=true):lenE P t (.val (.string s))=some (.val (.int .i64 s.size)):=by simp [lenE,h,aD]
theorem akl {s:ByteArray} {k:Nat} (h:nO P t=true):aak P t k (.val (.string s))=(s.data.toList[k]?).map aU:=by simp [aak,h]
theorem ace {k:IntKind} {n:Nat}:iA (.val (.int k (n:Int)))=some n:=by simp [iA]
theorem akm {k:IntKind} {n:Nat}:iA (.val (.int k (no_index (OfNat.ofNat n:Int))))=some n:=by simp only [iA];rfl
theorem akn {m:aF} {ty:TypeId} {a:AV}:oO P m #[t] ty [a] .len=eQ (lenE P t a) m:=rfl
end
structure bC (v:AV) (n:Nat) (cs:List AV):Prop where
 form:(v=aO∧n=0)∨(∃ c f,v = .emp c f∧n=0)∨(∃ c f,v = .tree n c cs f∧n≤c)
section
variable {P:Program} {v:AV} {n:Nat} {cs:List AV}
theorem bC.len (h:bC v n cs) (t:TypeId):lenE P t v=lenE P t (.tree n n cs true):=by
 rcases h.form with ⟨rfl,rfl⟩ | ⟨c,f,rfl,rfl⟩ | ⟨c,f,rfl,_⟩ <;> simp [lenE,rH,aO] <;> rfl
theorem bC.addr (h:bC v n cs) (t:TypeId) (k:Nat):lZ P t k v=lZ P t k (.tree n n cs true):=by
 rcases h.form with ⟨rfl,rfl⟩ | ⟨c,f,rfl,rfl⟩ | ⟨c,f,rfl,_⟩ <;> simp only [lZ,aO]
 ·cases cD P t with
  | none=>cases oN P t <;> rfl
  | some el=>simp
 ·cases cD P t with
  | none=>cases oN P t <;> rfl
  | some el=>simp
theorem bC.len' (h:bC v n cs) {t:TypeId} (ht:(cD P t).isSome=true):lenE P t v=some (.val (.int .i64 (n:Nat))):=by
 rw [h.len]
 obtain ⟨el,hel⟩:=Option.isSome_iff_exists.1 ht
 simp [lenE,hel,rH,aD]
theorem bC.addr' (h:bC v n cs) {t:TypeId} {k:Nat} (ht:(cD P t).isSome=true):lZ P t k v=(cD P t).bind fun el=>(cH P el).bind fun sz=>if k < n then some (.tptr (k*sz) cs) else none:=by
 rw [h.addr]
 obtain ⟨el,hel⟩:=Option.isSome_iff_exists.1 ht
 simp [lZ,hel]
theorem bC.plain (h:bC v n cs):plain v=true:=by
 rcases h.form with ⟨rfl,rfl⟩ | ⟨c,f,rfl,rfl⟩ | ⟨c,f,rfl,_⟩ <;> rfl
end
theorem dT {n:Nat} (h:n≤9223372036854775807):IntKind.i64.wrap (n:Int)=n:=by
 simp only [IntKind.wrap,IntKind.bits,IntKind.signed]
 simp
 split <;> omega
theorem cI {n:Nat} (h:n < 9223372036854775807):IntKind.i64.wrap ((n:Int)+1)=((n+1:Nat):Int):=by
 have:=dT (n:=n+1) (by omega)
 rw [←this];rfl
section
variable {m:aF} {x:eP} {b j:Nat}
theorem aH:(m.push x).at_ j=if j=m.next then some x else m.at_ j:=rfl
theorem aW:(m.push x).next=m.next+1:=rfl
theorem aG {y:Option eP}:(m.put b y).at_ j=if j=b then y else m.at_ j:=rfl
theorem aZ {y:Option eP}:(m.put b y).next=m.next:=rfl
end
theorem cA {body:(Ex→bN→aF→Prop)→bN→aF→Prop} {Q:Ex→bN→aF→Prop} {e:bN} {m:aF} (J:Nat→bN→aF→Prop) (n:Nat) (h0:J n e m) (h:∀ n e m,J n e m→body (pR (fun e' m'=>∃ n',n' < n∧J n' e' m') Q) e m):yV body Q e m:=⟨J,n,h0,h⟩
theorem aC:(type_of% @aH)∧(type_of% @aG)∧(type_of% @aW)∧(type_of% @aZ)∧(type_of% @akh)∧(type_of% @akj)∧(type_of% @af2)∧(type_of% @akk)∧(type_of% @akl)∧(type_of% @ace)∧(type_of% @akm)∧(type_of% @akn):=⟨@aH,@aG,@aW,@aZ,@akh,@akj,@af2,@akk,@akl,@ace,@akm,@akn⟩
section
variable {P:Program} {m:aF} {t:TypeId} {x y:Operand} {k yk:IntKind} {a:Int}
theorem ako {t:TypeId} {k:IntKind} (h:aaH P t=some k):P.underlying t=some (.int k):=by
 unfold aaH at h
 split at h
 ·rename_i k' hu;rw [hu,Option.some.inj h]
 ·cases h
theorem akp {src dst:TypeId} (h1:(aaH P src).isSome=true) (h2:(aaH P dst).isSome=true):mK P m src dst (.val (.int k a))=(aaH P dst).bind fun q=>some ⟨.val (.int q (q.wrap a)),m,none⟩:=by
 obtain ⟨k1,h1⟩:=Option.isSome_iff_exists.1 h1
 obtain ⟨k2,h2⟩:=Option.isSome_iff_exists.1 h2
 have u1:=ako h1
 have u2:=ako h2
 have e1:cD P dst=none:=by simp [cD,u2]
 have e2:nO P dst=false:=by simp [nO,u2]
 simp only [h2,Option.bind_some,mK,e1,e2,Go.convert,Bind.bind,underlying,program,Sem.bind]
 simp [cT,u1,u2,Bind.bind,Sem.bind,Pure.pure,Conv.intToInt,eQ]
theorem akq {n:Nat}:dV P .shr t x y (.val (.int k a)) (.val (.int yk (no_index (OfNat.ofNat n:Int))))=some (.val (.int k (a / 2 ^ min n k.bits))):=by
 have h1:¬ ((OfNat.ofNat n:Int) < 0):=by show ¬ ((n:Int) < 0);omega
 have h2:((OfNat.ofNat n:Int)).toNat=n:=rfl
 have h3:a.fdiv (2 ^ min n k.bits)=a / 2 ^ min n k.bits:=Int.fdiv_eq_ediv_of_nonneg _ (Int.le_of_lt (Int.pow_pos (by decide)))
 simp only [dV,qN,eqGuard,binOp,Op.shift,h1,h2,cT,Bind.bind,Sem.bind,Pure.pure,if_false,h3]
 simp [cT,Sem.bind]
end
theorem adH (n:Nat):IntKind.u8.wrap (n:Int)=((UInt8.ofNat n).toNat:Int):=by
 simp [IntKind.wrap,IntKind.bits,IntKind.signed]
theorem akr {P:Program} {m:aF} {t t2 ty:TypeId} {s x:AV} (h:uA P t2=true):oO P m #[t,t2] ty [s,x] .append=(cD P t).bind fun el=>dW P el m s x:=by simp [oO,h]
structure cO (kd:fW) (m:aF) (el:TypeId) (sz:Nat) (v:AV) (n:Nat) (cells:List AV):Prop where
 form:(v=aO∧n=0∧cells=[])∨(∃ b,v = .sl b 0 n n false∧m.at_ b=some ⟨cells,el,kd,true⟩∧b < m.next∧0 < n)
 len:cells.length=n*sz
abbrev cY:=cO .flat
theorem fB {kd:fW} {m:aF} {el:TypeId} {sz:Nat}:cO kd m el sz aO 0 []:=⟨.inl ⟨rfl,rfl,rfl⟩,by simp⟩
theorem cO.push {kd:fW} {m:aF} {el:TypeId} {sz n:Nat} {v:AV} {cells:List AV} (h:cO kd m el sz v n cells) (x:eP)   : cO kd (m.push x) el sz v n cells:=by
 refine ⟨?_,h.len⟩
 rcases h.form with h1 | ⟨b,h1,h2,h3,h4⟩
 ·exact .inl h1
 ·exact .inr ⟨b,h1,by rw [aH,if_neg (by omega)];exact h2,by rw [aW];omega,h4⟩
theorem cO.put {kd:fW} {m:aF} {el:TypeId} {sz n:Nat} {v:AV} {cells:List AV} (h:cO kd m el sz v n cells) {j:Nat} {x:Option eP} (hj:m.next≤j)   : cO kd (m.put j x) el sz v n cells:=by
 refine ⟨?_,h.len⟩
 rcases h.form with h1 | ⟨b,h1,h2,h3,h4⟩
 ·exact .inl h1
 ·exact .inr ⟨b,h1,by rw [aG,if_neg (by omega)];exact h2,h3,h4⟩
theorem cO.pp {kd:fW} {m:aF} {el:TypeId} {sz n:Nat} {v:AV} {cells:List AV} (h:cO kd m el sz v n cells) (x:eP) (y:Option eP):cO kd ((m.push x).put m.next y) el sz v n cells:=by
 refine ⟨?_,h.len⟩
 rcases h.form with h1 | ⟨b,h1,h2,h3,h4⟩
 ·exact .inl h1
 ·exact .inr ⟨b,h1,by rw [aG,if_neg (by omega),aH,if_neg (by omega)];exact h2,by rw [aZ,aW];omega,h4⟩
theorem oT {P : Program} {kd : fW} {el : TypeId} {m : aF} {v x : AV} {K : bY → Prop} {sz y n cnt : Nat} {zl : List Value} {cells new : List AV} (hkd : bW P el = kd) (ho : cO kd m el sz v n cells) (h1 : cH P el = some sz) (h2 : hY P el = some y) (h3 : eX P el = some zl) (h4 : zl.length = sz) (h5 : eZ P el sz m x = some (new, cnt)) (h6 : new.length = cnt * sz) (h7 : (n + cnt) * y ≤ 140737488355328) (h8 : n + cnt ≤ 140737488355328)
   (hK : ∀ v' m', cO kd m' el sz v' (n + cnt) (cells ++ new) → m.next ≤ m'.next → K ⟨v', m', none⟩) : eG (dW P el m v x) K := by
 have hlen := ho.len
 rcases ho.form with ⟨rfl, rfl, rfl⟩ | ⟨b, rfl, hb, hlt, hn0⟩
 · by_cases hc : cnt = 0
   · subst hc
     have hn : new = [] := List.eq_nil_of_length_eq_zero (by omega)
     subst hn
     have : dW P el m aO x = some ⟨aO, m, none⟩ := by simp [dW, h1, h2, h3, h5, dR, aO, hkd, h4, bO]
     rw [this]
     exact hK _ _ fB (Nat.le_refl _)
   · have : dW P el m aO x = some ⟨.sl m.next 0 (0 + cnt) (0 + cnt) false, m.push ⟨new, el, kd, true⟩, none⟩ := by
       simp only [dW, h1, h2, h3, h5, dR, aO, hkd, Option.bind_some, h7, h8, h4, and_self, if_true, if_neg hc]
       simp [bO]
     rw [this]
     exact hK _ _ ⟨.inr ⟨m.next, rfl, by rw [aH, if_pos rfl]; rfl, by rw [aW]; omega, by omega⟩, by simp [h6]⟩ (by rw [aW]; omega)
 · have : dW P el m (.sl b 0 n n false) x = some ⟨.sl m.next 0 (n + cnt) (n + cnt) false, (m.put b none).push ⟨cells ++ new, el, kd, true⟩, none⟩ := by
     simp only [dW, h1, h2, h3, h5, dR, hb, hkd, Option.bind_some, h7, h8, h4, and_self, if_true]
     simp [bO, hlen, vA]
   rw [this]
   exact hK _ _ ⟨.inr ⟨m.next, rfl, by rw [aH, aZ, if_pos rfl], by rw [aW, aZ]; omega, by omega⟩, by simp [hlen, h6, Nat.add_mul]⟩ (by rw [aW, aZ]; omega)
def i6 (el:TypeId) (n:Nat) (cells:List AV):gJ:=if n=0 then ⟨aO,[]⟩ else ⟨.sl 0 0 n n false,[(el,cells)]⟩
theorem aks {P:Program} {m:aF} {el:TypeId} {sz n:Nat} {v:AV} {cells:List AV} (hkd:bW P el = .flat) (h:cY m el sz v n cells):canon P m 3 [] [] v=some ((i6 el n cells).v,(if n=0 then [] else [(match v with | .sl b _ _ _ _=>(b,0) | _=>(0,0))]),(i6 el n cells).rows):=by
 rcases h.form with ⟨rfl,rfl,rfl⟩ | ⟨b,rfl,hb,hlt,hn⟩
 ·unfold aO canon;rfl
 ·unfold canon;simp [hb,i6,Nat.ne_of_gt hn,hkd]
section
variable {P:Program} {m:aF} {t:TypeId} {k k':IntKind} {a b:Int}
theorem akt (hk:(cD P t).map (bW P)=some .flat) (h1:(cD P t).bind (cH P)=some 1) (h2:((cD P t).bind (eX P)).map List.length=some 1):pH P m t 1 [(0,.val (.int k a))]=(cD P t).bind fun el=>some ⟨.sl m.next 0 1 1 true,m.push ⟨[.val (.int k a)],el,.flat,true⟩,none⟩:=by
 obtain ⟨el,hel,h1⟩:=awC h1
 obtain ⟨z,hz,h2⟩:=awD h2
 obtain ⟨el',hel',hz⟩:=awC hz
 have:el'=el:=by rw [hel] at hel';exact (Option.some.inj hel').symm
 subst this
 rw [hel,Option.map_some,Option.some.injEq] at hk
 match z,h2 with
 | [z],_=>simp [pH,hk,hel,h1,hz,i4,List.range_succ,fX,fK,dF,cN,AV.cells,fzs,fz,bO]
theorem aku (hk:(cD P t).map (bW P)=some .flat) (h1:(cD P t).bind (cH P)=some 1) (h2:((cD P t).bind (eX P)).map List.length=some 1):pH P m t 2 [(0,.val (.int k a)),(1,.val (.int k' b))]=(cD P t).bind fun el=>some ⟨.sl m.next 0 2 2 true,m.push ⟨[.val (.int k a),.val (.int k' b)],el,.flat,true⟩,none⟩:=by
 obtain ⟨el,hel,h1⟩:=awC h1
 obtain ⟨z,hz,h2⟩:=awD h2
 obtain ⟨el',hel',hz⟩:=awC hz
 have:el'=el:=by rw [hel] at hel';exact (Option.some.inj hel').symm
 subst this
 rw [hel,Option.map_some,Option.some.injEq] at hk
 match z,h2 with
 | [z],_=>simp [pH,hk,hel,h1,hz,i4,List.range_succ,fX,fK,dF,cN,AV.cells,fzs,fz,bO]
theorem af3 (h1:(cD P t).bind (cH P)=some 1) (h2:((cD P t).bind (eX P)).map List.length=some 1):eY P m t 1 [(0,.val (.int k a))]=some ⟨.tree 1 1 [.val (.int k a)] true,m,none⟩:=by
 obtain ⟨el,hel,h1⟩:=awC h1
 obtain ⟨z,hz,h2⟩:=awD h2
 obtain ⟨el',hel',hz⟩:=awC hz
 have:el'=el:=by rw [hel] at hel';exact (Option.some.inj hel').symm
 subst this
 match z,h2 with
 | [z],_=>simp [eY,hel,h1,hz,i4,List.range_succ,fX,fK,dF,cN,AV.cells,jG,iS,bO]
theorem akv (h1:(cD P t).bind (cH P)=some 1) (h2:((cD P t).bind (eX P)).map List.length=some 1):eY P m t 2 [(0,.val (.int k a)),(1,.val (.int k' b))]=some ⟨.tree 2 2 [.val (.int k a),.val (.int k' b)] true,m,none⟩:=by
 obtain ⟨el,hel,h1⟩:=awC h1
 obtain ⟨z,hz,h2⟩:=awD h2
 obtain ⟨el',hel',hz⟩:=awC hz
 have:el'=el:=by rw [hel] at hel';exact (Option.some.inj hel').symm
 subst this
 match z,h2 with
 | [z],_=>simp [eY,hel,h1,hz,i4,List.range_succ,fX,fK,dF,cN,AV.cells,jG,iS,bO]
theorem uD {el:TypeId} {sz n c:Nat} {cs:List AV} {f:Bool} (h:n*sz≤cs.length):eZ P el sz m (.tree n c cs f)=some (cs.take (n*sz),n):=by simp [eZ,dR,h]
theorem tI {n sz:Nat} {el:TypeId} {parts:List (Nat×AV)} {z cells:List AV} (h1:cD P t=some el) (h2:cH P el=some sz) (h3:i4 P el n=some z) (h4:fX (fun i=>some (i*sz,sz)) z parts=some cells) (h5:jG cells=false) (h6:n*sz≤16777216):eY P m t n parts=some ⟨.tree n n cells true,m,none⟩:=by
 simp [eY,h1,h2,h3,h4,h5,h6,bO]
theorem l8 {el:TypeId} {f:Bool} {u:AV}:eZ P el 1 m (.tree 1 1 [u] f)=some ([u],1):=by simp [eZ,dR]
end
theorem aL:(type_of% @akp)∧(type_of% @akq)∧(type_of% @adH)∧(type_of% @akt)∧(type_of% @aku)∧(type_of% @af3)∧(type_of% @akv)∧(type_of% @akr):=⟨@akp,@akq,@adH,@akt,@aku,@af3,@akv,@akr⟩
section
variable {P:Program} {m:aF} {t el:TypeId} {v:AV} {n sz:Nat} {cs:List AV}
theorem bC.slOk (h:bC v n cs):slOk P m t v=true:=by
 rcases h.form with ⟨rfl,rfl⟩ | ⟨c,f,rfl,rfl⟩ | ⟨c,f,rfl,_⟩ <;> rfl
theorem bC.sliceX (h:bC v n cs) {d c:Bool} {lo hi mx:Option AV}:sliceX P d c m t v lo hi mx=(bH lo).bind fun lo=>(bH hi).bind fun hi=>(bH mx).bind fun mx=>eQ (kI P t lo hi mx v) m:=by
 rcases h.form with ⟨rfl,_⟩ | ⟨_,_,rfl,_⟩ | ⟨_,_,rfl,_⟩ <;> cases d <;> cases c <;> rfl
theorem bC.src (h:bC v n cs) (hc:n*sz≤cs.length):eZ P el sz m v=some (cs.take (n*sz),n):=by
 rcases h.form with ⟨rfl,rfl⟩ | ⟨c,f,rfl,rfl⟩ | ⟨c,f,rfl,_⟩
 ·simp [eZ,dR,aO]
 ·simp [eZ,dR]
 ·simp [eZ,dR,hc]
theorem bC.cut (h:bC v n cs) {lo:Nat} {hi:Option Nat} (h1:lo≤hi.getD n) (h2:hi.getD n≤n):∃ v',cutE sz lo hi none v=some v'∧bC v' (hi.getD n - lo) (cs.drop (lo*sz)):=by
 rcases h.form with ⟨rfl,rfl⟩ | ⟨c,f,rfl,rfl⟩ | ⟨c,f,rfl,hc⟩
 ·have e1:hi.getD 0=0:=by omega
  have e2:lo=0:=by omega
  subst e2
  exact ⟨aO,by simp [cutE,aO,e1],⟨.inl ⟨rfl,by omega⟩⟩⟩
 ·have e1:hi.getD 0=0:=by omega
  have e2:lo=0:=by omega
  subst e2
  exact ⟨.emp c f,by simp [cutE,e1],⟨.inr (.inl ⟨c,f,rfl,by omega⟩)⟩⟩
 ·by_cases he:lo=hi.getD n
  ·refine ⟨.emp (c - lo) f, ?_,⟨.inr (.inl ⟨_,_,rfl,by omega⟩)⟩⟩
   simp only [cutE,Option.getD_none,Option.isSome_none,Bool.or_false]
   rw [if_pos (by omega),if_pos he]
  ·refine ⟨.tree (hi.getD n - lo) (c - lo) (cs.drop (lo*sz)) f, ?_,⟨.inr (.inr ⟨_,_,rfl,by omega⟩)⟩⟩
   simp only [cutE,Option.getD_none,Option.isSome_none,Bool.or_false]
   rw [if_pos (by omega),if_neg he]
theorem bC.slice (h:bC v n cs) {lo hi:Option Nat} (ht:(cD P t).bind (cH P)=some sz) (h1:lo.getD 0≤hi.getD n) (h2:hi.getD n≤n):∃ v',kI P t lo hi none v=some v'∧bC v' (hi.getD n - lo.getD 0) (cs.drop (lo.getD 0*sz)):=by
 obtain ⟨el,hel,hsz⟩:=awC ht
 obtain ⟨v',h3,h4⟩:=h.cut (sz:=sz) h1 h2
 exact ⟨v',by simp [kI,hel,hsz,h3],h4⟩
theorem akw:∀ (bs:List UInt8),bytesOf (bs.map aU)=some bs
 | []=>rfl
 | b::bs=>by
  have:asB (aU b)=some b:=by simp [asB,aU]
  simp [bytesOf,this,akw bs]
theorem bC.str {bs:List UInt8} {x:List AV} (h:bC v bs.length (bs.map aU++x)) {src dst:TypeId} (h1:cD P dst=none) (h2:nO P dst=true) (h3:cD P src=some el) (h4:rG P el=true):mK P m src dst v=some ⟨.val (.string ⟨bs.toArray⟩),m,none⟩:=by
 have hv:dR .flat m v=some (bs.map aU++x,bs.length,(match v with | .tree n c _ f=>f && c == n | _=>true))∨(bs=[]∧∃ q,dR .flat m v=some ([],0,q)):=by
  rcases h.form with ⟨rfl,hn⟩ | ⟨c,f,rfl,hn⟩ | ⟨c,f,rfl,_⟩
  ·exact .inr ⟨List.eq_nil_of_length_eq_zero hn,true,rfl⟩
  ·exact .inr ⟨List.eq_nil_of_length_eq_zero hn,_,rfl⟩
  ·exact .inl rfl
 simp only [mK,h1,h2,h3,h4,if_true]
 rcases hv with hv | ⟨rfl,q,hv⟩
 ·have e:(bs.map aU++x).take bs.length=bs.map aU:=by rw [List.take_append_of_le_length (by simp)];rw [List.take_of_length_le (by simp)]
  simp [hv,e,akw,bO]
 ·simp [hv,bytesOf,bO]
theorem acf (h:cY m el sz v n cs) (k:Nat):∃ av,lend k m v=some av∧bC av n cs:=by
 rcases h.form with ⟨rfl,rfl,rfl⟩ | ⟨b,rfl,hb,_,hn⟩
 ·exact ⟨aO,by unfold aO lend;rfl,⟨.inl ⟨rfl,rfl⟩⟩⟩
 ·refine ⟨.tree n n cs false, ?_,⟨.inr (.inr ⟨n,false,rfl,Nat.le_refl _⟩)⟩⟩
  cases k <;> (unfold lend;simp [hb])
theorem af4 {a b:Value} (ha:rF a=true) (hb:rF b=true) (h1:(cD P t).bind (cH P)=some 2) (h2:((cD P t).bind (eX P)).map List.length=some 2):eY P m t 1 [(0,.agg [.val a,.val b])]=some ⟨.tree 1 1 [.val a,.val b] true,m,none⟩:=by
 obtain ⟨el,hel,h1⟩:=awC h1
 obtain ⟨z,hz,h2⟩:=awD h2
 obtain ⟨el',hel',hz⟩:=awC hz
 have:el'=el:=by rw [hel] at hel';exact (Option.some.inj hel').symm
 subst this
 match z,h2 with
 | [z,z'],_=>simp [eY,hel,h1,hz,i4,List.range_succ,fX,fK,cN,AV.cells,jG,iS,bO]
theorem acg {el:TypeId} {f:Bool} {u u':AV}:eZ P el 2 m (.tree 1 1 [u,u'] f)=some ([u,u'],1):=by simp [eZ,dR]
theorem aqx {el el':TypeId} {kd:fW} {b:Nat} {f wr:Bool} {u u':AV} (hkd:bW P el=kd) (hb:b=m.next):eZ P el 2 (m.push ⟨[u,u'],el',kd,wr⟩) (.sl b 0 1 1 f)=some ([u,u'],1):=by
 subst hb;simp [eZ,dR,aH,hkd]
end
def aaK (k:IntKind) (a b:Int):Int:=k.wrap ((BitVec.ofInt k.bits a ||| BitVec.ofInt k.bits b).toNat:Int)
def vL (k:IntKind) (a b:Int):Int:=k.wrap ((BitVec.ofInt k.bits a ^^^ BitVec.ofInt k.bits b).toNat:Int)
def rT (k:IntKind) (a b:Int):Int:=k.wrap ((BitVec.ofInt k.bits a &&& BitVec.ofInt k.bits b).toNat:Int)
section
variable {P:Program} {t:TypeId} {x y:Operand} {k yk:IntKind} {a b:Int}
theorem akx:dV P .or t x y (.val (.int k a)) (.val (.int k b))=some (.val (.int k (aaK k a b))):=by
 simp [pV,binOp,Op.intBits,aaK,cT,Bind.bind,Sem.bind,Pure.pure]
theorem aky:dV P .xor t x y (.val (.int k a)) (.val (.int k b))=some (.val (.int k (vL k a b))):=by
 simp [pV,binOp,Op.intBits,vL,cT,Bind.bind,Sem.bind,Pure.pure]
theorem akz:dV P .and t x y (.val (.int k a)) (.val (.int k b))=some (.val (.int k (rT k a b))):=by
 simp [pV,binOp,Op.intBits,rT,cT,Bind.bind,Sem.bind,Pure.pure]
theorem akA {n:Nat}:dV P .shl t x y (.val (.int k a)) (.val (.int yk (no_index (OfNat.ofNat n:Int))))=some (.val (.int k (k.wrap (a*2 ^ min n k.bits)))):=by
 have h1:¬ ((OfNat.ofNat n:Int) < 0):=by show ¬ ((n:Int) < 0);omega
 have h2:((OfNat.ofNat n:Int)).toNat=n:=rfl
 simp only [dV,qN,eqGuard,binOp,Op.shift,h1,h2,cT,Bind.bind,Sem.bind,Pure.pure,if_false]
 simp [cT,Sem.bind]
end
theorem uE {w n:Nat}:BitVec.ofInt w (n:Int)=BitVec.ofNat w n:=by
 apply BitVec.eq_of_toNat_eq
 simp
theorem akB {a b:Nat} (ha:a < 9223372036854775808) (hb:b < 9223372036854775808):aaK .i64 a b=((a ||| b:Nat):Int):=by
 have h:a ||| b < 9223372036854775808:=Nat.or_lt_two_pow (n:=63) ha hb
 unfold aaK
 rw [uE,uE,BitVec.toNat_or,BitVec.toNat_ofNat,BitVec.toNat_ofNat]
 simp only [IntKind.bits]
 rw [Nat.mod_eq_of_lt (by omega),Nat.mod_eq_of_lt (by omega)]
 exact dT (by omega)
theorem aqy {a b:Nat} (ha:a < 256) (hb:b < 256):vL .u8 a b=((a ^^^ b:Nat):Int):=by
 have h:a ^^^ b < 256:=Nat.xor_lt_two_pow (n:=8) ha hb
 unfold vL
 rw [uE,uE,BitVec.toNat_xor,BitVec.toNat_ofNat,BitVec.toNat_ofNat]
 simp only [IntKind.bits]
 rw [Nat.mod_eq_of_lt (by omega),Nat.mod_eq_of_lt (by omega)]
 simp [IntKind.wrap,IntKind.bits,IntKind.signed]
 omega
theorem akC {a b:Nat} (hb:b < 256):a*256 ||| b=a*256+b:=by
 have:=Nat.two_pow_add_eq_or_of_lt (i:=8) hb a
 rw [show (2:Nat) ^ 8=256 from rfl,Nat.mul_comm] at this
 exact this.symm
theorem c8:(type_of% @akx)∧(type_of% @aky)∧(type_of% @akz)∧(type_of% @akA):=⟨@akx,@aky,@akz,@akA⟩
end Go.Tw