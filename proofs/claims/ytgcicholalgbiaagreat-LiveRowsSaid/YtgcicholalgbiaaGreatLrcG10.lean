import Derived.Test.YtgcicholalgbiaaGreatLrcG08
import Derived.Laws.Strings
set_option linter.unusedVariables false
set_option linter.unusedSimpArgs false
namespace Go.Tw
open Go
section
variable {P:Program} {t:TypeId} {x y:Operand}
abbrev strV (s:ByteArray):AV := .val (.string s)
theorem bin_str_lss {a b:ByteArray}:binE P .lss t x y (.val (.string a)) (.val (.string b))=some (.val (.bool (Op.bytesLess a.data.toList b.data.toList))):=by
 rw [←ByteArray.toList_eq,←ByteArray.toList_eq]
 simp [binE,binV,eqGuard,binOp,Op.stringOp,pureR,Bind.bind,Sem.bind,Pure.pure]
theorem str_beq (a b:ByteArray):(a.toList == b.toList)=decide (a=b):=by
 by_cases h:a=b
 ·subst h;simp
 ·have:a.toList≠b.toList:=fun e=>h (by
   cases a;cases b
   simpa [ByteArray.toList_eq] using e)
  simp [h,this]
theorem bin_str_eql {a b:ByteArray}:binE P .eql t x y (.val (.string a)) (.val (.string b))=some (.val (.bool (decide (a=b)))):=by
 simp [binE,binV,eqGuard,binOp,Op.stringOp,pureR,Bind.bind,Sem.bind,Pure.pure,str_beq]
theorem bin_str_neq {a b:ByteArray}:binE P .neq t x y (.val (.string a)) (.val (.string b))=some (.val (.bool (!decide (a=b)))):=by
 simp [binE,binV,eqGuard,binOp,Op.stringOp,pureR,Bind.bind,Sem.bind,Pure.pure,str_beq]
theorem len_str {s:ByteArray} (h:isStr P t=true):lenE P t (.val (.string s))=some (.val (.int .i64 s.size)):=by simp [lenE,h,intV]
theorem index_str {s:ByteArray} {k:Nat} (h:isStr P t=true):indexE P t k (.val (.string s))=(s.data.toList[k]?).map byteV:=by simp [indexE,h]
theorem nat_of {k:IntKind} {n:Nat}:natOf (.val (.int k (n:Int)))=some n:=by simp [natOf]
theorem natOf_lit {k:IntKind} {n:Nat}:natOf (.val (.int k (no_index (OfNat.ofNat n:Int))))=some n:=by simp only [natOf];rfl
theorem len1 {m:Mem} {ty:TypeId} {a:AV}:builtinE P m #[t] ty [a] .len=outO (lenE P t a) m:=rfl
end
structure RdSl (v:AV) (n:Nat) (cs:List AV):Prop where
 form:(v=nilS∧n=0)∨(∃ c f,v = .emp c f∧n=0)∨(∃ c f,v = .tree n c cs f∧n≤c)
section
variable {P:Program} {v:AV} {n:Nat} {cs:List AV}
theorem RdSl.len (h:RdSl v n cs) (t:TypeId):lenE P t v=lenE P t (.tree n n cs true):=by
 rcases h.form with ⟨rfl,rfl⟩ | ⟨c,f,rfl,rfl⟩ | ⟨c,f,rfl,_⟩ <;> simp [lenE,slLen,nilS] <;> rfl
theorem RdSl.addr (h:RdSl v n cs) (t:TypeId) (k:Nat):addrE P t k v=addrE P t k (.tree n n cs true):=by
 rcases h.form with ⟨rfl,rfl⟩ | ⟨c,f,rfl,rfl⟩ | ⟨c,f,rfl,_⟩ <;> simp only [addrE,nilS]
 ·cases elE P t with
  | none=>cases arrE P t <;> rfl
  | some el=>simp
 ·cases elE P t with
  | none=>cases arrE P t <;> rfl
  | some el=>simp
theorem RdSl.len' (h:RdSl v n cs) {t:TypeId} (ht:(elE P t).isSome=true):lenE P t v=some (.val (.int .i64 (n:Nat))):=by
 rw [h.len]
 obtain ⟨el,hel⟩:=Option.isSome_iff_exists.1 ht
 simp [lenE,hel,slLen,intV]
theorem RdSl.addr' (h:RdSl v n cs) {t:TypeId} {k:Nat} (ht:(elE P t).isSome=true):addrE P t k v=(elE P t).bind fun el=>(szE P el).bind fun sz=>if k < n then some (.tptr (k*sz) cs) else none:=by
 rw [h.addr]
 obtain ⟨el,hel⟩:=Option.isSome_iff_exists.1 ht
 simp [addrE,hel]
theorem RdSl.plain (h:RdSl v n cs):plain v=true:=by
 rcases h.form with ⟨rfl,rfl⟩ | ⟨c,f,rfl,rfl⟩ | ⟨c,f,rfl,_⟩ <;> rfl
end
theorem wrap_nat {n:Nat} (h:n≤9223372036854775807):IntKind.i64.wrap (n:Int)=n:=by
 simp only [IntKind.wrap,IntKind.bits,IntKind.signed]
 simp
 split <;> omega
theorem wrap_succ {n:Nat} (h:n < 9223372036854775807):IntKind.i64.wrap ((n:Int)+1)=((n+1:Nat):Int):=by
 have:=wrap_nat (n:=n+1) (by omega)
 rw [←this];rfl
section
variable {m:Mem} {x:Blk} {b j:Nat}
theorem push_at:(m.push x).at_ j=if j=m.next then some x else m.at_ j:=rfl
theorem push_next:(m.push x).next=m.next+1:=rfl
theorem put_at {y:Option Blk}:(m.put b y).at_ j=if j=b then y else m.at_ j:=rfl
theorem put_next {y:Option Blk}:(m.put b y).next=m.next:=rfl
end
theorem loop_intro {body:(Ex→Env→Mem→Prop)→Env→Mem→Prop} {Q:Ex→Env→Mem→Prop} {e:Env} {m:Mem} (J:Nat→Env→Mem→Prop) (n:Nat) (h0:J n e m) (h:∀ n e m,J n e m→body (thenQ (fun e' m'=>∃ n',n' < n∧J n' e' m') Q) e m):loopW body Q e m:=⟨J,n,h0,h⟩
theorem postU:(type_of% @push_at)∧(type_of% @put_at)∧(type_of% @push_next)∧(type_of% @put_next)∧(type_of% @bin_str_lss)∧(type_of% @bin_str_eql)∧(type_of% @bin_str_neq)∧(type_of% @len_str)∧(type_of% @index_str)∧(type_of% @nat_of)∧(type_of% @natOf_lit)∧(type_of% @len1):=⟨@push_at,@put_at,@push_next,@put_next,@bin_str_lss,@bin_str_eql,@bin_str_neq,@len_str,@index_str,@nat_of,@natOf_lit,@len1⟩
section
variable {P:Program} {m:Mem} {t:TypeId} {x y:Operand} {k yk:IntKind} {a:Int}
theorem kind_spec {t:TypeId} {k:IntKind} (h:kindE P t=some k):P.underlying t=some (.int k):=by
 unfold kindE at h
 split at h
 ·rename_i k' hu;rw [hu,Option.some.inj h]
 ·cases h
theorem conv_int {src dst:TypeId} (h1:(kindE P src).isSome=true) (h2:(kindE P dst).isSome=true):convE P m src dst (.val (.int k a))=(kindE P dst).bind fun q=>some ⟨.val (.int q (q.wrap a)),m,none⟩:=by
 obtain ⟨k1,h1⟩:=Option.isSome_iff_exists.1 h1
 obtain ⟨k2,h2⟩:=Option.isSome_iff_exists.1 h2
 have u1:=kind_spec h1
 have u2:=kind_spec h2
 have e1:elE P dst=none:=by simp [elE,u2]
 have e2:isStr P dst=false:=by simp [isStr,u2]
 simp only [h2,Option.bind_some,convE,e1,e2,Go.convert,Bind.bind,underlying,program,Sem.bind]
 simp [pureR,u1,u2,Bind.bind,Sem.bind,Pure.pure,Conv.intToInt,outO]
theorem bin_shr {n:Nat}:binE P .shr t x y (.val (.int k a)) (.val (.int yk (no_index (OfNat.ofNat n:Int))))=some (.val (.int k (a / 2 ^ min n k.bits))):=by
 have h1:¬ ((OfNat.ofNat n:Int) < 0):=by show ¬ ((n:Int) < 0);omega
 have h2:((OfNat.ofNat n:Int)).toNat=n:=rfl
 have h3:a.fdiv (2 ^ min n k.bits)=a / 2 ^ min n k.bits:=Int.fdiv_eq_ediv_of_nonneg _ (Int.le_of_lt (Int.pow_pos (by decide)))
 simp only [binE,binV,eqGuard,binOp,Op.shift,h1,h2,pureR,Bind.bind,Sem.bind,Pure.pure,if_false,h3]
 simp [pureR,Sem.bind]
end
theorem u8_wrap (n:Nat):IntKind.u8.wrap (n:Int)=((UInt8.ofNat n).toNat:Int):=by
 simp [IntKind.wrap,IntKind.bits,IntKind.signed]
theorem app2 {P:Program} {m:Mem} {t t2 ty:TypeId} {s x:AV} (h:notInt P t2=true):builtinE P m #[t,t2] ty [s,x] .append=(elE P t).bind fun el=>appE P el m s x:=by simp [builtinE,h]
structure OwnK (kd:Kind) (m:Mem) (el:TypeId) (sz:Nat) (v:AV) (n:Nat) (cells:List AV):Prop where
 form:(v=nilS∧n=0∧cells=[])∨(∃ b,v = .sl b 0 n n false∧m.at_ b=some ⟨cells,el,kd,true⟩∧b < m.next∧0 < n)
 len:cells.length=n*sz
abbrev Own:=OwnK .flat
theorem own_nil {kd:Kind} {m:Mem} {el:TypeId} {sz:Nat}:OwnK kd m el sz nilS 0 []:=⟨.inl ⟨rfl,rfl,rfl⟩,by simp⟩
theorem OwnK.push {kd:Kind} {m:Mem} {el:TypeId} {sz n:Nat} {v:AV} {cells:List AV} (h:OwnK kd m el sz v n cells) (x:Blk)   : OwnK kd (m.push x) el sz v n cells:=by
 refine ⟨?_,h.len⟩
 rcases h.form with h1 | ⟨b,h1,h2,h3,h4⟩
 ·exact .inl h1
 ·exact .inr ⟨b,h1,by rw [push_at,if_neg (by omega)];exact h2,by rw [push_next];omega,h4⟩
theorem OwnK.put {kd:Kind} {m:Mem} {el:TypeId} {sz n:Nat} {v:AV} {cells:List AV} (h:OwnK kd m el sz v n cells) {j:Nat} {x:Option Blk} (hj:m.next≤j)   : OwnK kd (m.put j x) el sz v n cells:=by
 refine ⟨?_,h.len⟩
 rcases h.form with h1 | ⟨b,h1,h2,h3,h4⟩
 ·exact .inl h1
 ·exact .inr ⟨b,h1,by rw [put_at,if_neg (by omega)];exact h2,h3,h4⟩
theorem OwnK.pp {kd:Kind} {m:Mem} {el:TypeId} {sz n:Nat} {v:AV} {cells:List AV} (h:OwnK kd m el sz v n cells) (x:Blk) (y:Option Blk):OwnK kd ((m.push x).put m.next y) el sz v n cells:=by
 refine ⟨?_,h.len⟩
 rcases h.form with h1 | ⟨b,h1,h2,h3,h4⟩
 ·exact .inl h1
 ·exact .inr ⟨b,h1,by rw [put_at,if_neg (by omega),push_at,if_neg (by omega)];exact h2,by rw [put_next,push_next];omega,h4⟩
theorem app_rule {P : Program} {kd : Kind} {el : TypeId} {m : Mem} {v x : AV} {K : Out → Prop} {sz y n cnt : Nat} {zl : List Value} {cells new : List AV} (hkd : kindT P el = kd) (ho : OwnK kd m el sz v n cells) (h1 : szE P el = some sz) (h2 : byE P el = some y) (h3 : zeroE P el = some zl) (h4 : zl.length = sz) (h5 : srcE P el sz m x = some (new, cnt)) (h6 : new.length = cnt * sz) (h7 : (n + cnt) * y ≤ 140737488355328) (h8 : n + cnt ≤ 140737488355328)
   (hK : ∀ v' m', OwnK kd m' el sz v' (n + cnt) (cells ++ new) → m.next ≤ m'.next → K ⟨v', m', none⟩) : outW (appE P el m v x) K := by
 have hlen := ho.len
 rcases ho.form with ⟨rfl, rfl, rfl⟩ | ⟨b, rfl, hb, hlt, hn0⟩
 · by_cases hc : cnt = 0
   · subst hc
     have hn : new = [] := List.eq_nil_of_length_eq_zero (by omega)
     subst hn
     have : appE P el m nilS x = some ⟨nilS, m, none⟩ := by simp [appE, h1, h2, h3, h5, slView, nilS, hkd, h4, outV]
     rw [this]
     exact hK _ _ own_nil (Nat.le_refl _)
   · have : appE P el m nilS x = some ⟨.sl m.next 0 (0 + cnt) (0 + cnt) false, m.push ⟨new, el, kd, true⟩, none⟩ := by
       simp only [appE, h1, h2, h3, h5, slView, nilS, hkd, Option.bind_some, h7, h8, h4, and_self, if_true, if_neg hc]
       simp [outV]
     rw [this]
     exact hK _ _ ⟨.inr ⟨m.next, rfl, by rw [push_at, if_pos rfl]; rfl, by rw [push_next]; omega, by omega⟩, by simp [h6]⟩ (by rw [push_next]; omega)
 · have : appE P el m (.sl b 0 n n false) x = some ⟨.sl m.next 0 (n + cnt) (n + cnt) false, (m.put b none).push ⟨cells ++ new, el, kd, true⟩, none⟩ := by
     simp only [appE, h1, h2, h3, h5, slView, hb, hkd, Option.bind_some, h7, h8, h4, and_self, if_true]
     simp [outV, hlen, tight]
   rw [this]
   exact hK _ _ ⟨.inr ⟨m.next, rfl, by rw [push_at, put_next, if_pos rfl], by rw [push_next, put_next]; omega, by omega⟩, by simp [hlen, h6, Nat.add_mul]⟩ (by rw [push_next, put_next]; omega)
def ownR (el:TypeId) (n:Nat) (cells:List AV):Res:=if n=0 then ⟨nilS,[]⟩ else ⟨.sl 0 0 n n false,[(el,cells)]⟩
theorem own_canon {P:Program} {m:Mem} {el:TypeId} {sz n:Nat} {v:AV} {cells:List AV} (hkd:kindT P el = .flat) (h:Own m el sz v n cells):canon P m 3 [] [] v=some ((ownR el n cells).v,(if n=0 then [] else [(match v with | .sl b _ _ _ _=>(b,0) | _=>(0,0))]),(ownR el n cells).rows):=by
 rcases h.form with ⟨rfl,rfl,rfl⟩ | ⟨b,rfl,hb,hlt,hn⟩
 ·unfold nilS canon;rfl
 ·unfold canon;simp [hb,ownR,Nat.ne_of_gt hn,hkd]
section
variable {P:Program} {m:Mem} {t:TypeId} {k k':IntKind} {a b:Int}
theorem build1 (hk:(elE P t).map (kindT P)=some .flat) (h1:(elE P t).bind (szE P)=some 1) (h2:((elE P t).bind (zeroE P)).map List.length=some 1):buildSliceE P m t 1 [(0,.val (.int k a))]=(elE P t).bind fun el=>some ⟨.sl m.next 0 1 1 true,m.push ⟨[.val (.int k a)],el,.flat,true⟩,none⟩:=by
 obtain ⟨el,hel,h1⟩:=Option.bind_eq_some_iff.1 h1
 obtain ⟨z,hz,h2⟩:=Option.map_eq_some_iff.1 h2
 obtain ⟨el',hel',hz⟩:=Option.bind_eq_some_iff.1 hz
 have:el'=el:=by rw [hel] at hel';exact (Option.some.inj hel').symm
 subst this
 rw [hel,Option.map_some,Option.some.injEq] at hk
 match z,h2 with
 | [z],_=>simp [buildSliceE,hk,hel,h1,hz,zerosE,List.range_succ,fillE,okA,oneA,splice,AV.cells,fzs,fz,outV]
theorem build2 (hk:(elE P t).map (kindT P)=some .flat) (h1:(elE P t).bind (szE P)=some 1) (h2:((elE P t).bind (zeroE P)).map List.length=some 1):buildSliceE P m t 2 [(0,.val (.int k a)),(1,.val (.int k' b))]=(elE P t).bind fun el=>some ⟨.sl m.next 0 2 2 true,m.push ⟨[.val (.int k a),.val (.int k' b)],el,.flat,true⟩,none⟩:=by
 obtain ⟨el,hel,h1⟩:=Option.bind_eq_some_iff.1 h1
 obtain ⟨z,hz,h2⟩:=Option.map_eq_some_iff.1 h2
 obtain ⟨el',hel',hz⟩:=Option.bind_eq_some_iff.1 hz
 have:el'=el:=by rw [hel] at hel';exact (Option.some.inj hel').symm
 subst this
 rw [hel,Option.map_some,Option.some.injEq] at hk
 match z,h2 with
 | [z],_=>simp [buildSliceE,hk,hel,h1,hz,zerosE,List.range_succ,fillE,okA,oneA,splice,AV.cells,fzs,fz,outV]
theorem buildT1 (h1:(elE P t).bind (szE P)=some 1) (h2:((elE P t).bind (zeroE P)).map List.length=some 1):buildTreeE P m t 1 [(0,.val (.int k a))]=some ⟨.tree 1 1 [.val (.int k a)] true,m,none⟩:=by
 obtain ⟨el,hel,h1⟩:=Option.bind_eq_some_iff.1 h1
 obtain ⟨z,hz,h2⟩:=Option.map_eq_some_iff.1 h2
 obtain ⟨el',hel',hz⟩:=Option.bind_eq_some_iff.1 hz
 have:el'=el:=by rw [hel] at hel';exact (Option.some.inj hel').symm
 subst this
 match z,h2 with
 | [z],_=>simp [buildTreeE,hel,h1,hz,zerosE,List.range_succ,fillE,okA,oneA,splice,AV.cells,hasRefs,hasRef,outV]
theorem buildT2 (h1:(elE P t).bind (szE P)=some 1) (h2:((elE P t).bind (zeroE P)).map List.length=some 1):buildTreeE P m t 2 [(0,.val (.int k a)),(1,.val (.int k' b))]=some ⟨.tree 2 2 [.val (.int k a),.val (.int k' b)] true,m,none⟩:=by
 obtain ⟨el,hel,h1⟩:=Option.bind_eq_some_iff.1 h1
 obtain ⟨z,hz,h2⟩:=Option.map_eq_some_iff.1 h2
 obtain ⟨el',hel',hz⟩:=Option.bind_eq_some_iff.1 hz
 have:el'=el:=by rw [hel] at hel';exact (Option.some.inj hel').symm
 subst this
 match z,h2 with
 | [z],_=>simp [buildTreeE,hel,h1,hz,zerosE,List.range_succ,fillE,okA,oneA,splice,AV.cells,hasRefs,hasRef,outV]
theorem src_tree {el:TypeId} {sz n c:Nat} {cs:List AV} {f:Bool} (h:n*sz≤cs.length):srcE P el sz m (.tree n c cs f)=some (cs.take (n*sz),n):=by simp [srcE,slView,h]
theorem buildT_of {n sz:Nat} {el:TypeId} {parts:List (Nat×AV)} {z cells:List AV} (h1:elE P t=some el) (h2:szE P el=some sz) (h3:zerosE P el n=some z) (h4:fillE (fun i=>some (i*sz,sz)) z parts=some cells) (h5:hasRefs cells=false) (h6:n*sz≤16777216):buildTreeE P m t n parts=some ⟨.tree n n cells true,m,none⟩:=by
 simp [buildTreeE,h1,h2,h3,h4,h5,h6,outV]
theorem srcT1 {el:TypeId} {f:Bool} {u:AV}:srcE P el 1 m (.tree 1 1 [u] f)=some ([u],1):=by simp [srcE,slView]
end
theorem postV:(type_of% @conv_int)∧(type_of% @bin_shr)∧(type_of% @u8_wrap)∧(type_of% @build1)∧(type_of% @build2)∧(type_of% @buildT1)∧(type_of% @buildT2)∧(type_of% @app2):=⟨@conv_int,@bin_shr,@u8_wrap,@build1,@build2,@buildT1,@buildT2,@app2⟩
section
variable {P:Program} {m:Mem} {t el:TypeId} {v:AV} {n sz:Nat} {cs:List AV}
theorem RdSl.slOk (h:RdSl v n cs):slOk P m t v=true:=by
 rcases h.form with ⟨rfl,rfl⟩ | ⟨c,f,rfl,rfl⟩ | ⟨c,f,rfl,_⟩ <;> rfl
theorem RdSl.sliceX (h:RdSl v n cs) {d c:Bool} {lo hi mx:Option AV}:sliceX P d c m t v lo hi mx=(optNat lo).bind fun lo=>(optNat hi).bind fun hi=>(optNat mx).bind fun mx=>outO (sliceE P t lo hi mx v) m:=by
 rcases h.form with ⟨rfl,_⟩ | ⟨_,_,rfl,_⟩ | ⟨_,_,rfl,_⟩ <;> cases d <;> cases c <;> rfl
theorem RdSl.src (h:RdSl v n cs) (hc:n*sz≤cs.length):srcE P el sz m v=some (cs.take (n*sz),n):=by
 rcases h.form with ⟨rfl,rfl⟩ | ⟨c,f,rfl,rfl⟩ | ⟨c,f,rfl,_⟩
 ·simp [srcE,slView,nilS]
 ·simp [srcE,slView]
 ·simp [srcE,slView,hc]
theorem RdSl.cut (h:RdSl v n cs) {lo:Nat} {hi:Option Nat} (h1:lo≤hi.getD n) (h2:hi.getD n≤n):∃ v',cutE sz lo hi none v=some v'∧RdSl v' (hi.getD n - lo) (cs.drop (lo*sz)):=by
 rcases h.form with ⟨rfl,rfl⟩ | ⟨c,f,rfl,rfl⟩ | ⟨c,f,rfl,hc⟩
 ·have e1:hi.getD 0=0:=by omega
  have e2:lo=0:=by omega
  subst e2
  exact ⟨nilS,by simp [cutE,nilS,e1],⟨.inl ⟨rfl,by omega⟩⟩⟩
 ·have e1:hi.getD 0=0:=by omega
  have e2:lo=0:=by omega
  subst e2
  exact ⟨.emp c f,by simp [cutE,e1],⟨.inr (.inl ⟨c,f,rfl,by omega⟩)⟩⟩
 ·by_cases he:lo=hi.getD n
  ·refine ⟨.emp (c - lo) f, ?_,⟨.inr (.inl ⟨_,_,rfl,by omega⟩)⟩⟩
   simp only [cutE,Option.getD_none,Option.isSome_none,Bool.or_false]
   rw [if_pos (by omega),if_pos he]
  ·refine ⟨.tree (hi.getD n - lo) (c - lo) (cs.drop (lo*sz)) f, ?_,⟨.inr (.inr ⟨_,_,rfl,by omega⟩)⟩⟩
   simp only [cutE,Option.getD_none,Option.isSome_none,Bool.or_false]
   rw [if_pos (by omega),if_neg he]
theorem RdSl.slice (h:RdSl v n cs) {lo hi:Option Nat} (ht:(elE P t).bind (szE P)=some sz) (h1:lo.getD 0≤hi.getD n) (h2:hi.getD n≤n):∃ v',sliceE P t lo hi none v=some v'∧RdSl v' (hi.getD n - lo.getD 0) (cs.drop (lo.getD 0*sz)):=by
 obtain ⟨el,hel,hsz⟩:=Option.bind_eq_some_iff.1 ht
 obtain ⟨v',h3,h4⟩:=h.cut (sz:=sz) h1 h2
 exact ⟨v',by simp [sliceE,hel,hsz,h3],h4⟩
theorem bytesOf_map:∀ (bs:List UInt8),bytesOf (bs.map byteV)=some bs
 | []=>rfl
 | b::bs=>by
  have:asB (byteV b)=some b:=by simp [asB,byteV]
  simp [bytesOf,this,bytesOf_map bs]
theorem RdSl.str {bs:List UInt8} {x:List AV} (h:RdSl v bs.length (bs.map byteV++x)) {src dst:TypeId} (h1:elE P dst=none) (h2:isStr P dst=true) (h3:elE P src=some el) (h4:isU8 P el=true):convE P m src dst v=some ⟨.val (.string ⟨bs.toArray⟩),m,none⟩:=by
 have hv:slView .flat m v=some (bs.map byteV++x,bs.length,(match v with | .tree n c _ f=>f && c == n | _=>true))∨(bs=[]∧∃ q,slView .flat m v=some ([],0,q)):=by
  rcases h.form with ⟨rfl,hn⟩ | ⟨c,f,rfl,hn⟩ | ⟨c,f,rfl,_⟩
  ·exact .inr ⟨List.eq_nil_of_length_eq_zero hn,true,rfl⟩
  ·exact .inr ⟨List.eq_nil_of_length_eq_zero hn,_,rfl⟩
  ·exact .inl rfl
 simp only [convE,h1,h2,h3,h4,if_true]
 rcases hv with hv | ⟨rfl,q,hv⟩
 ·have e:(bs.map byteV++x).take bs.length=bs.map byteV:=by rw [List.take_append_of_le_length (by simp)];rw [List.take_of_length_le (by simp)]
  simp [hv,e,bytesOf_map,outV]
 ·simp [hv,bytesOf,outV]
theorem own_lend (h:Own m el sz v n cs) (k:Nat):∃ av,lend k m v=some av∧RdSl av n cs:=by
 rcases h.form with ⟨rfl,rfl,rfl⟩ | ⟨b,rfl,hb,_,hn⟩
 ·exact ⟨nilS,by unfold nilS lend;rfl,⟨.inl ⟨rfl,rfl⟩⟩⟩
 ·refine ⟨.tree n n cs false, ?_,⟨.inr (.inr ⟨n,false,rfl,Nat.le_refl _⟩)⟩⟩
  cases k <;> (unfold lend;simp [hb])
theorem own_lend1 (h:Own m el sz v n cs):∃ av,lends 3 m [v]=some [av]∧RdSl av n cs:=by
 obtain ⟨av,h1,h2⟩:=own_lend h 3
 refine ⟨av, ?_,h2⟩
 unfold lends
 rw [h1]
 unfold lends
 rfl
theorem own_lend2 (h:Own m el sz v n cs) {a:AV} (ha:plain a=true):∃ av,lends 3 m [a,v]=some [a,av]∧RdSl av n cs:=by
 obtain ⟨av,h1,h2⟩:=own_lend1 h
 refine ⟨av, ?_,h2⟩
 unfold lends
 rw [(plain_lend 3 a ha).1,h1]
 rfl
theorem buildT1a {a b:Value} (ha:oneV a=true) (hb:oneV b=true) (h1:(elE P t).bind (szE P)=some 2) (h2:((elE P t).bind (zeroE P)).map List.length=some 2):buildTreeE P m t 1 [(0,.agg [.val a,.val b])]=some ⟨.tree 1 1 [.val a,.val b] true,m,none⟩:=by
 obtain ⟨el,hel,h1⟩:=Option.bind_eq_some_iff.1 h1
 obtain ⟨z,hz,h2⟩:=Option.map_eq_some_iff.1 h2
 obtain ⟨el',hel',hz⟩:=Option.bind_eq_some_iff.1 hz
 have:el'=el:=by rw [hel] at hel';exact (Option.some.inj hel').symm
 subst this
 match z,h2 with
 | [z,z'],_=>simp [buildTreeE,hel,h1,hz,zerosE,List.range_succ,fillE,okA,splice,AV.cells,hasRefs,hasRef,outV]
theorem srcT1a {el:TypeId} {f:Bool} {u u':AV}:srcE P el 2 m (.tree 1 1 [u,u'] f)=some ([u,u'],1):=by simp [srcE,slView]
theorem src1a {el el':TypeId} {kd:Kind} {b:Nat} {f wr:Bool} {u u':AV} (hkd:kindT P el=kd) (hb:b=m.next):srcE P el 2 (m.push ⟨[u,u'],el',kd,wr⟩) (.sl b 0 1 1 f)=some ([u,u'],1):=by
 subst hb;simp [srcE,slView,push_at,hkd]
end
def borI (k:IntKind) (a b:Int):Int:=k.wrap ((BitVec.ofInt k.bits a ||| BitVec.ofInt k.bits b).toNat:Int)
def bxorI (k:IntKind) (a b:Int):Int:=k.wrap ((BitVec.ofInt k.bits a ^^^ BitVec.ofInt k.bits b).toNat:Int)
def bandI (k:IntKind) (a b:Int):Int:=k.wrap ((BitVec.ofInt k.bits a &&& BitVec.ofInt k.bits b).toNat:Int)
section
variable {P:Program} {t:TypeId} {x y:Operand} {k yk:IntKind} {a b:Int}
theorem bin_bor:binE P .or t x y (.val (.int k a)) (.val (.int k b))=some (.val (.int k (borI k a b))):=by
 simp [bin_int,binOp,Op.intBits,borI,pureR,Bind.bind,Sem.bind,Pure.pure]
theorem bin_bxor:binE P .xor t x y (.val (.int k a)) (.val (.int k b))=some (.val (.int k (bxorI k a b))):=by
 simp [bin_int,binOp,Op.intBits,bxorI,pureR,Bind.bind,Sem.bind,Pure.pure]
theorem bin_band:binE P .and t x y (.val (.int k a)) (.val (.int k b))=some (.val (.int k (bandI k a b))):=by
 simp [bin_int,binOp,Op.intBits,bandI,pureR,Bind.bind,Sem.bind,Pure.pure]
theorem bin_shl {n:Nat}:binE P .shl t x y (.val (.int k a)) (.val (.int yk (no_index (OfNat.ofNat n:Int))))=some (.val (.int k (k.wrap (a*2 ^ min n k.bits)))):=by
 have h1:¬ ((OfNat.ofNat n:Int) < 0):=by show ¬ ((n:Int) < 0);omega
 have h2:((OfNat.ofNat n:Int)).toNat=n:=rfl
 simp only [binE,binV,eqGuard,binOp,Op.shift,h1,h2,pureR,Bind.bind,Sem.bind,Pure.pure,if_false]
 simp [pureR,Sem.bind]
end
theorem bv_nat {w n:Nat}:BitVec.ofInt w (n:Int)=BitVec.ofNat w n:=by
 apply BitVec.eq_of_toNat_eq
 simp
theorem borI_i64 {a b:Nat} (ha:a < 9223372036854775808) (hb:b < 9223372036854775808):borI .i64 a b=((a ||| b:Nat):Int):=by
 have h:a ||| b < 9223372036854775808:=Nat.or_lt_two_pow (n:=63) ha hb
 unfold borI
 rw [bv_nat,bv_nat,BitVec.toNat_or,BitVec.toNat_ofNat,BitVec.toNat_ofNat]
 simp only [IntKind.bits]
 rw [Nat.mod_eq_of_lt (by omega),Nat.mod_eq_of_lt (by omega)]
 exact wrap_nat (by omega)
theorem bxorI_u8 {a b:Nat} (ha:a < 256) (hb:b < 256):bxorI .u8 a b=((a ^^^ b:Nat):Int):=by
 have h:a ^^^ b < 256:=Nat.xor_lt_two_pow (n:=8) ha hb
 unfold bxorI
 rw [bv_nat,bv_nat,BitVec.toNat_xor,BitVec.toNat_ofNat,BitVec.toNat_ofNat]
 simp only [IntKind.bits]
 rw [Nat.mod_eq_of_lt (by omega),Nat.mod_eq_of_lt (by omega)]
 simp [IntKind.wrap,IntKind.bits,IntKind.signed]
 omega
theorem or_add {a b:Nat} (hb:b < 256):a*256 ||| b=a*256+b:=by
 have:=Nat.two_pow_add_eq_or_of_lt (i:=8) hb a
 rw [show (2:Nat) ^ 8=256 from rfl,Nat.mul_comm] at this
 exact this.symm
theorem postX:(type_of% @bin_bor)∧(type_of% @bin_bxor)∧(type_of% @bin_band)∧(type_of% @bin_shl):=⟨@bin_bor,@bin_bxor,@bin_band,@bin_shl⟩
end Go.Tw