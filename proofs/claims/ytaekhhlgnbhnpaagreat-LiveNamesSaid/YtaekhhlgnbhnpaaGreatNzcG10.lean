import Derived.Test.YtaekhhlgnbhnpaaGreatNzcG08
import Derived.Laws.Strings
set_option linter.defProp false
set_option linter.unusedVariables false
set_option linter.unusedSimpArgs false
open Bind renaming bind→aAL
open BitVec renaming ofInt→aAU,toNat_ofNat→aAV
open Go.ByteArray renaming toList_eq→aAK
open Go.IntKind renaming wrap→aAO,bits→aAP,signed→aAQ
open Go.Sem renaming bind→aAM
open List renaming eq_nil_of_length_eq_zero→azY,length→aAS,range_succ→aAT
open Nat renaming mod_eq_of_lt→aAW
open OfNat renaming ofNat→aAN
open Option renaming isSome_iff_exists→aAl,bind_some→aAh,map_eq_some_iff→ayY,map_some→az3,getD_none→aAA
open Option.some renaming inj→aAR,injEq→ayX
open Pure renaming pure→aAE
namespace Go.Tw
open Go
section
variable {P:Program} {t:TypeId} {x y:Operand}
abbrev gG (s:ByteArray):AV := .val (.string s)
theorem alf {a b:ByteArray}:dR P .lss t x y (.val (.string a)) (.val (.string b))=some (.val (.bool (Op.bytesLess a.data.toList b.data.toList))):=by
 rw [←aAK,←aAK];simp [dR,pZ,eqGuard,binOp,Op.stringOp,cF,aAL,aAM,aAE]
theorem agU (a b:ByteArray):(a.toList == b.toList)=decide (a=b):=by
 by_cases h:a=b
 ·subst h;simp
 ·have:a.toList≠b.toList:=fun e=>h (by
   cases a;cases b;simpa [aAK] using e)
  simp [h,this]
theorem alg {a b:ByteArray}:dR P .eql t x y (.val (.string a)) (.val (.string b))=some (.val (.bool (decide (a=b)))):=by
 simp [dR,pZ,eqGuard,binOp,Op.stringOp,cF,aAL,aAM,aAE,agU]
theorem agV {a b:ByteArray}:dR P .neq t x y (.val (.string a)) (.val (.string b))=some (.val (.bool (!decide (a=b)))):=by
 simp [dR,pZ,eqGuard,binOp,Op.stringOp,cF,aAL,aAM,aAE,agU]
theorem alh {s:ByteArray} (h:oH P t=true):lenE P t (.val (.string s))=some (.val (.int .i64 s.size)):=by simp [lenE,h,aC]
theorem ali {s:ByteArray} {k:Nat} (h:oH P t=true):aav P t k (.val (.string s))=(s.data.toList[k]?).map bA:=by simp [aav,h]
theorem ad4 {k:IntKind} {n:Nat}:jW (.val (.int k (n:Int)))=some n:=by simp [jW]
theorem alj {k:IntKind} {n:Nat}:jW (.val (.int k (no_index (aAN n:Int))))=some n:=by simp only [jW];rfl
theorem alk {m:aF} {ty:TypeId} {a:AV}:r6 P m #[t] ty [a] .len=eX (lenE P t a) m:=rfl
end
structure aZ (v:AV) (n:Nat) (cs:List AV):Prop where
 form:(v=aN∧n=0)∨(∃ c f,v = .emp c f∧n=0)∨(∃ c f,v = .tree n c cs f∧n≤c)
section
variable {P:Program} {v:AV} {n:Nat} {cs:List AV}
theorem aZ.len (h:aZ v n cs) (t:TypeId):lenE P t v=lenE P t (.tree n n cs true):=by
 rcases h.form with ⟨rfl,rfl⟩ | ⟨c,f,rfl,rfl⟩ | ⟨c,f,rfl,_⟩ <;> simp [lenE,vQ,aN] <;> rfl
theorem aZ.addr (h:aZ v n cs) (t:TypeId) (k:Nat):nL P t k v=nL P t k (.tree n n cs true):=by
 rcases h.form with ⟨rfl,rfl⟩ | ⟨c,f,rfl,rfl⟩ | ⟨c,f,rfl,_⟩ <;> simp only [nL,aN]
 ·cases bZ P t with
  | none=>cases o6 P t <;> rfl
  | some el=>simp
 ·cases bZ P t with
  | none=>cases o6 P t <;> rfl
  | some el=>simp
theorem aZ.len' (h:aZ v n cs) {t:TypeId} (b:(bZ P t).isSome=true):lenE P t v=some (.val (.int .i64 (n:Nat))):=by
 rw [h.len];obtain ⟨el,a⟩:=aAl.1 b;simp [lenE,a,vQ,aC]
theorem aZ.addr' (h:aZ v n cs) {t:TypeId} {k:Nat} (b:(bZ P t).isSome=true):nL P t k v=(bZ P t).bind fun el=>(cE P el).bind fun sz=>if k < n then some (.tptr (k*sz) cs) else none:=by
 rw [h.addr];obtain ⟨el,a⟩:=aAl.1 b;simp [nL,a]
theorem aZ.plain (h:aZ v n cs):plain v=true:=by
 rcases h.form with ⟨rfl,rfl⟩ | ⟨c,f,rfl,rfl⟩ | ⟨c,f,rfl,_⟩ <;> rfl
end
theorem cD {n:Nat} (h:n≤9223372036854775807):IntKind.i64.wrap (n:Int)=n:=by
 simp only [aAO,aAP,aAQ];simp;split <;> omega
theorem bY {n:Nat} (h:n < 9223372036854775807):IntKind.i64.wrap ((n:Int)+1)=((n+1:Nat):Int):=by
 have:=cD (n:=n+1) (by omega);rw [←this];rfl
section
variable {m:aF} {x:eR} {b j:Nat}
theorem aT:(m.push x).at_ j=if j=m.next then some x else m.at_ j:=rfl
theorem bM:(m.push x).next=m.next+1:=rfl
theorem aO {y:Option eR}:(m.put b y).at_ j=if j=b then y else m.at_ j:=rfl
theorem bX {y:Option eR}:(m.put b y).next=m.next:=rfl
end
theorem bU {a:(Ex→bB→aF→Prop)→bB→aF→Prop} {Q:Ex→bB→aF→Prop} {e:bB} {m:aF} (J:Nat→bB→aF→Prop) (n:Nat) (c:J n e m) (h:∀ n e m,J n e m→a (qB (fun e' m'=>∃ b,b < n∧J b e' m') Q) e m):zN a Q e m:=⟨J,n,c,h⟩
def aE:=(⟨@aT,@aO,@bM,@bX,@alf,@alg,@agV,@alh,@ali,@ad4,@alj,@alk⟩:_∧_∧_∧_∧_∧_∧_∧_∧_∧_∧_∧_)
section
variable {P:Program} {m:aF} {t:TypeId} {x y:Operand} {k yk:IntKind} {a:Int}
theorem alm {t:TypeId} {k:IntKind} (h:aaR P t=some k):P.underlying t=some (.int k):=by
 unfold aaR at h;split at h
 ·rename_i k' a;rw [a,aAR h]
 ·cases h
theorem aln {src dst:TypeId} (d:(aaR P src).isSome=true) (b:(aaR P dst).isSome=true):mJ P m src dst (.val (.int k a))=(aaR P dst).bind fun q=>some ⟨.val (.int q (q.wrap a)),m,none⟩:=by
 obtain ⟨i,d⟩:=aAl.1 d;obtain ⟨h,b⟩:=aAl.1 b;have f:=alm d;have c:=alm b;have g:bZ P dst=none:=by simp [bZ,c]
 have e:oH P dst=false:=by simp [oH,c]
 simp only [b,aAh,mJ,g,e,Go.convert,aAL,underlying,program,aAM];simp [cF,f,c,aAM,aAE,Conv.intToInt,eX]
theorem alo {n:Nat}:dR P .shr t x y (.val (.int k a)) (.val (.int yk (no_index (aAN n:Int))))=some (.val (.int k (a / 2 ^ min n k.bits))):=by
 have d:¬ ((aAN n:Int) < 0):=by show ¬ ((n:Int) < 0);omega
 have b:((aAN n:Int)).toNat=n:=rfl;have c:a.fdiv (2 ^ min n k.bits)=a / 2 ^ min n k.bits:=Int.fdiv_eq_ediv_of_nonneg _ (Int.le_of_lt (Int.pow_pos (by decide)));simp only [dR,pZ,eqGuard,binOp,Op.shift,d,b,aAL,aAE,if_false,c];simp [cF,aAM]
end
theorem ad5 (n:Nat):IntKind.u8.wrap (n:Int)=((UInt8.ofNat n).toNat:Int):=by
 simp [aAO,aAP,aAQ]
theorem alp {P:Program} {m:aF} {t a ty:TypeId} {s x:AV} (h:xL P a=true):r6 P m #[t,a] ty [s,x] .append=(bZ P t).bind fun el=>gA P el m s x:=by simp [r6,h]
structure cG (kd:fZ) (m:aF) (el:TypeId) (sz:Nat) (v:AV) (n:Nat) (cells:List AV):Prop where
 form:(v=aN∧n=0∧cells=[])∨(∃ b,v = .sl b 0 n n false∧m.at_ b=some ⟨cells,el,kd,true⟩∧b < m.next∧0 < n)
 len:cells.length=n*sz
abbrev Own:=cG .flat
theorem fC {kd:fZ} {m:aF} {el:TypeId} {sz:Nat}:cG kd m el sz aN 0 []:=⟨.inl ⟨rfl,rfl,rfl⟩,by simp⟩
theorem cG.push {kd:fZ} {m:aF} {el:TypeId} {sz n:Nat} {v:AV} {cells:List AV} (h:cG kd m el sz v n cells) (x:eR)   : cG kd (m.push x) el sz v n cells:=by
 refine ⟨?_,h.len⟩;rcases h.form with a | ⟨b,a,d,e,c⟩
 ·exact .inl a
 ·exact .inr ⟨b,a,by rw [aT,if_neg (by omega)];exact d,by rw [bM];omega,c⟩
theorem cG.put {kd:fZ} {m:aF} {el:TypeId} {sz n:Nat} {v:AV} {cells:List AV} (h:cG kd m el sz v n cells) {j:Nat} {x:Option eR} (f:m.next≤j)   : cG kd (m.put j x) el sz v n cells:=by
 refine ⟨?_,h.len⟩;rcases h.form with a | ⟨b,a,e,c,d⟩
 ·exact .inl a
 ·exact .inr ⟨b,a,by rw [aO,if_neg (by omega)];exact e,c,d⟩
theorem cG.pp {kd:fZ} {m:aF} {el:TypeId} {sz n:Nat} {v:AV} {cells:List AV} (h:cG kd m el sz v n cells) (x:eR) (y:Option eR):cG kd ((m.push x).put m.next y) el sz v n cells:=by
 refine ⟨?_,h.len⟩;rcases h.form with a | ⟨b,a,d,e,c⟩
 ·exact .inl a
 ·exact .inr ⟨b,a,by rw [aO,if_neg (by omega),aT,if_neg (by omega)];exact d,by rw [bX,bM];omega,c⟩
theorem pA {P:Program} {kd:fZ} {el:TypeId} {m:aF} {v x:AV} {K:bR→Prop} {sz y n cnt:Nat} {zl:List Value} {cells new:List AV} (c:bP P el=kd) (o:cG kd m el sz v n cells) (h:cE P el=some sz) (i:lB P el=some y) (g:gN P el=some zl) (e:zl.length=sz) (d:f9 P el sz m x=some (new,cnt)) (k:new.length=cnt*sz) (l:(n+cnt)*y≤140737488355328) (j:n+cnt≤140737488355328)
 (f:∀ p m',cG kd m' el sz p (n+cnt) (cells++new)→m.next≤m'.next→K ⟨p,m',none⟩):eO (gA P el m v x) K:=by
 have a:=o.len;rcases o.form with ⟨rfl,rfl,rfl⟩ | ⟨b,rfl,u,r,s⟩
 ·by_cases q:cnt=0
  ·subst q;have t:new=[]:=azY (by omega);subst t;have:gA P el m aN x=some ⟨aN,m,none⟩:=by simp [gA,h,i,g,d,eE,aN,c,e,bL]
   rw [this];exact f _ _ fC (Nat.le_refl _)
  ·have:gA P el m aN x=some ⟨.sl m.next 0 (0+cnt) (0+cnt) false,m.push ⟨new,el,kd,true⟩,none⟩:=by
    simp only [gA,h,i,g,d,eE,aN,c,aAh,l,j,e,and_self,if_true,if_neg q];simp [bL]
   rw [this];exact f _ _ ⟨.inr ⟨m.next,rfl,by rw [aT,if_pos rfl];rfl,by rw [bM];omega,by omega⟩,by simp [k]⟩ (by rw [bM];omega)
 ·have:gA P el m (.sl b 0 n n false) x=some ⟨.sl m.next 0 (n+cnt) (n+cnt) false,(m.put b none).push ⟨cells++new,el,kd,true⟩,none⟩:=by
   simp only [gA,h,i,g,d,eE,u,c,aAh,l,j,e,and_self,if_true];simp [bL,a,vS]
  rw [this];exact f _ _ ⟨.inr ⟨m.next,rfl,by rw [aT,bX,if_pos rfl],by rw [bM,bX];omega,by omega⟩,by simp [a,k,Nat.add_mul]⟩ (by rw [bM,bX];omega)
def fU (el:TypeId) (n:Nat) (cells:List AV):fF:=if n=0 then ⟨aN,[]⟩ else ⟨.sl 0 0 n n false,[(el,cells)]⟩
theorem ad6 {P:Program} {m:aF} {el:TypeId} {sz n:Nat} {v:AV} {cells:List AV} (a:bP P el = .flat) (h:Own m el sz v n cells):canon P m 3 [] [] v=some ((fU el n cells).v,(if n=0 then [] else [(match v with | .sl b _ _ _ _=>(b,0) | _=>(0,0))]),(fU el n cells).rows):=by
 rcases h.form with ⟨rfl,rfl,rfl⟩ | ⟨b,rfl,e,c,d⟩
 ·unfold aN canon;rfl
 ·unfold canon;simp [e,fU,Nat.ne_of_gt d,a]
section
variable {P:Program} {m:aF} {t:TypeId} {k k':IntKind} {a b:Int}
theorem alq (g:(bZ P t).map (bP P)=some .flat) (f:(bZ P t).bind (cE P)=some 1) (e:((bZ P t).bind (gN P)).map aAS=some 1):p6 P m t 1 [(0,.val (.int k a))]=(bZ P t).bind fun el=>some ⟨.sl m.next 0 1 1 true,m.push ⟨[.val (.int k a)],el,.flat,true⟩,none⟩:=by
 obtain ⟨el,c,f⟩:=ayQ f;obtain ⟨z,d,e⟩:=ayR e;obtain ⟨el',b,d⟩:=ayQ d;have:el'=el:=by rw [c] at b;exact (aAR b).symm
 subst this;rw [c,az3,ayX] at g
 match z,e with
 | [z],_=>simp [p6,g,c,f,d,jF,aAT,iR,g8,d5,cP,AV.cells,fzs,fz,bL]
theorem alr (h:(bZ P t).map (bP P)=some .flat) (g:(bZ P t).bind (cE P)=some 1) (f:((bZ P t).bind (gN P)).map aAS=some 1):p6 P m t 2 [(0,.val (.int k a)),(1,.val (.int k' b))]=(bZ P t).bind fun el=>some ⟨.sl m.next 0 2 2 true,m.push ⟨[.val (.int k a),.val (.int k' b)],el,.flat,true⟩,none⟩:=by
 obtain ⟨el,d,g⟩:=ayQ g;obtain ⟨z,e,f⟩:=ayR f;obtain ⟨el',c,e⟩:=ayQ e;have:el'=el:=by rw [d] at c;exact (aAR c).symm
 subst this;rw [d,az3,ayX] at h
 match z,f with
 | [z],_=>simp [p6,h,d,g,e,jF,aAT,iR,g8,d5,cP,AV.cells,fzs,fz,bL]
theorem als (f:(bZ P t).bind (cE P)=some 1) (e:((bZ P t).bind (gN P)).map aAS=some 1):gF P m t 1 [(0,.val (.int k a))]=some ⟨.tree 1 1 [.val (.int k a)] true,m,none⟩:=by
 obtain ⟨el,c,f⟩:=ayQ f;obtain ⟨z,d,e⟩:=ayR e;obtain ⟨el',b,d⟩:=ayQ d;have:el'=el:=by rw [c] at b;exact (aAR b).symm
 subst this
 match z,e with
 | [z],_=>simp [gF,c,f,d,jF,aAT,iR,g8,d5,cP,AV.cells,j5,i7,bL]
theorem alt (g:(bZ P t).bind (cE P)=some 1) (f:((bZ P t).bind (gN P)).map aAS=some 1):gF P m t 2 [(0,.val (.int k a)),(1,.val (.int k' b))]=some ⟨.tree 2 2 [.val (.int k a),.val (.int k' b)] true,m,none⟩:=by
 obtain ⟨el,d,g⟩:=ayQ g;obtain ⟨z,e,f⟩:=ayR f;obtain ⟨el',c,e⟩:=ayQ e;have:el'=el:=by rw [d] at c;exact (aAR c).symm
 subst this
 match z,f with
 | [z],_=>simp [gF,d,g,e,jF,aAT,iR,g8,d5,cP,AV.cells,j5,i7,bL]
theorem acz {el:TypeId} {sz n c:Nat} {cs:List AV} {f:Bool} (h:n*sz≤cs.length):f9 P el sz m (.tree n c cs f)=some (cs.take (n*sz),n):=by simp [f9,eE,h]
theorem zP {n sz:Nat} {el:TypeId} {parts:List (Nat×AV)} {z cells:List AV} (f:bZ P t=some el) (e:cE P el=some sz) (b:jF P el n=some z) (c:iR (fun i=>some (i*sz,sz)) z parts=some cells) (a:j5 cells=false) (d:n*sz≤16777216):gF P m t n parts=some ⟨.tree n n cells true,m,none⟩:=by
 simp [gF,f,e,b,c,a,d,bL]
theorem mN {el:TypeId} {f:Bool} {u:AV}:f9 P el 1 m (.tree 1 1 [u] f)=some ([u],1):=by simp [f9,eE]
end
def bE:=(⟨@aln,@alo,@ad5,@alq,@alr,@als,@alt,@alp⟩:_∧_∧_∧_∧_∧_∧_∧_)
section
variable {P:Program} {m:aF} {t el:TypeId} {v:AV} {n sz:Nat} {cs:List AV}
theorem aZ.slOk (h:aZ v n cs):slOk P m t v=true:=by
 rcases h.form with ⟨rfl,rfl⟩ | ⟨c,f,rfl,rfl⟩ | ⟨c,f,rfl,_⟩ <;> rfl
theorem aZ.sliceX (h:aZ v n cs) {d c:Bool} {lo hi mx:Option AV}:sliceX P d c m t v lo hi mx=(dB lo).bind fun lo=>(dB hi).bind fun hi=>(dB mx).bind fun mx=>eX (mH P t lo hi mx v) m:=by
 rcases h.form with ⟨rfl,_⟩ | ⟨_,_,rfl,_⟩ | ⟨_,_,rfl,_⟩ <;> cases d <;> cases c <;> rfl
theorem aZ.src (h:aZ v n cs) (a:n*sz≤cs.length):f9 P el sz m v=some (cs.take (n*sz),n):=by
 rcases h.form with ⟨rfl,rfl⟩ | ⟨c,f,rfl,rfl⟩ | ⟨c,f,rfl,_⟩
 ·simp [f9,eE,aN]
 ·simp [f9,eE]
 ·simp [f9,eE,a]
theorem aZ.cut (h:aZ v n cs) {lo:Nat} {hi:Option Nat} (j:lo≤hi.getD n) (i:hi.getD n≤n):∃ e,jE sz lo hi none v=some e∧aZ e (hi.getD n - lo) (cs.drop (lo*sz)):=by
 rcases h.form with ⟨rfl,rfl⟩ | ⟨c,f,rfl,rfl⟩ | ⟨c,f,rfl,g⟩
 ·have b:hi.getD 0=0:=by omega
  have a:lo=0:=by omega
  subst a;exact ⟨aN,by simp [jE,aN,b],⟨.inl ⟨rfl,by omega⟩⟩⟩
 ·have b:hi.getD 0=0:=by omega
  have a:lo=0:=by omega
  subst a;exact ⟨.emp c f,by simp [jE,b],⟨.inr (.inl ⟨c,f,rfl,by omega⟩)⟩⟩
 ·by_cases d:lo=hi.getD n
  ·refine ⟨.emp (c - lo) f, ?_,⟨.inr (.inl ⟨_,_,rfl,by omega⟩)⟩⟩;simp only [jE,aAA,Option.isSome_none,Bool.or_false];rw [if_pos (by omega),if_pos d]
  ·refine ⟨.tree (hi.getD n - lo) (c - lo) (cs.drop (lo*sz)) f, ?_,⟨.inr (.inr ⟨_,_,rfl,by omega⟩)⟩⟩;simp only [jE,aAA,Option.isSome_none,Bool.or_false];rw [if_pos (by omega),if_neg d]
theorem aZ.slice (h:aZ v n cs) {lo hi:Option Nat} (d:(bZ P t).bind (cE P)=some sz) (i:lo.getD 0≤hi.getD n) (g:hi.getD n≤n):∃ a,mH P t lo hi none v=some a∧aZ a (hi.getD n - lo.getD 0) (cs.drop (lo.getD 0*sz)):=by
 obtain ⟨el,b,c⟩:=ayQ d;obtain ⟨a,e,f⟩:=h.cut (sz:=sz) i g;exact ⟨a,by simp [mH,b,c,e],f⟩
theorem alu:∀ (bs:List UInt8),bytesOf (bs.map bA)=some bs
 | []=>rfl
 | b::bs=>by
  have:asB (bA b)=some b:=by simp [asB,bA]
  simp [bytesOf,this,alu bs]
theorem aZ.str {bs:List UInt8} {x:List AV} (h:aZ v bs.length (bs.map bA++x)) {src dst:TypeId} (j:bZ P dst=none) (i:oH P dst=true) (d:bZ P src=some el) (g:rX P el=true):mJ P m src dst v=some ⟨.val (.string ⟨bs.toArray⟩),m,none⟩:=by
 have a:eE .flat m v=some (bs.map bA++x,bs.length,(match v with | .tree n c _ f=>f && c == n | _=>true))∨(bs=[]∧∃ q,eE .flat m v=some ([],0,q)):=by
  rcases h.form with ⟨rfl,b⟩ | ⟨c,f,rfl,b⟩ | ⟨c,f,rfl,_⟩
  ·exact .inr ⟨azY b,true,rfl⟩
  ·exact .inr ⟨azY b,_,rfl⟩
  ·exact .inl rfl
 simp only [mJ,j,i,d,g,if_true];rcases a with a | ⟨rfl,q,a⟩
 ·have e:(bs.map bA++x).take bs.length=bs.map bA:=by rw [List.take_append_of_le_length (by simp)];rw [List.take_of_length_le (by simp)]
  simp [a,e,alu,bL]
 ·simp [a,bytesOf,bL]
theorem agW (h:Own m el sz v n cs) (k:Nat):∃ a,lend k m v=some a∧aZ a n cs:=by
 rcases h.form with ⟨rfl,rfl,rfl⟩ | ⟨b,rfl,c,_,d⟩
 ·exact ⟨aN,by unfold aN lend;rfl,⟨.inl ⟨rfl,rfl⟩⟩⟩
 ·refine ⟨.tree n n cs false, ?_,⟨.inr (.inr ⟨n,false,rfl,Nat.le_refl _⟩)⟩⟩;cases k <;> (unfold lend;simp [c])
theorem arC (h:Own m el sz v n cs):∃ a,d9 3 m [v]=some [a]∧aZ a n cs:=by
 obtain ⟨a,c,b⟩:=agW h 3;refine ⟨a, ?_,b⟩;unfold d9;rw [c];unfold d9;rfl
theorem alv (h:Own m el sz v n cs) {a:AV} (c:plain a=true):∃ b,d9 3 m [a,v]=some [a,b]∧aZ b n cs:=by
 obtain ⟨b,e,d⟩:=arC h;refine ⟨b, ?_,d⟩;unfold d9;rw [(uW 3 a c).1,e];rfl
theorem ad7 {a b:Value} (i:tO a=true) (h:tO b=true) (g:(bZ P t).bind (cE P)=some 2) (f:((bZ P t).bind (gN P)).map aAS=some 2):gF P m t 1 [(0,.agg [.val a,.val b])]=some ⟨.tree 1 1 [.val a,.val b] true,m,none⟩:=by
 obtain ⟨el,d,g⟩:=ayQ g;obtain ⟨z,e,f⟩:=ayR f;obtain ⟨el',c,e⟩:=ayQ e;have:el'=el:=by rw [d] at c;exact (aAR c).symm
 subst this
 match z,f with
 | [z,z'],_=>simp [gF,d,g,e,jF,aAT,iR,g8,cP,AV.cells,j5,i7,bL]
theorem zQ {el:TypeId} {f:Bool} {u a:AV}:f9 P el 2 m (.tree 1 1 [u,a] f)=some ([u,a],1):=by simp [f9,eE]
theorem arD {el el':TypeId} {kd:fZ} {b:Nat} {f wr:Bool} {u c:AV} (a:bP P el=kd) (d:b=m.next):f9 P el 2 (m.push ⟨[u,c],el',kd,wr⟩) (.sl b 0 1 1 f)=some ([u,c],1):=by
 subst d;simp [f9,eE,aT,a]
end
def zR (k:IntKind) (a b:Int):Int:=k.wrap ((aAU k.bits a ||| aAU k.bits b).toNat:Int)
def v6 (k:IntKind) (a b:Int):Int:=k.wrap ((aAU k.bits a ^^^ aAU k.bits b).toNat:Int)
def sH (k:IntKind) (a b:Int):Int:=k.wrap ((aAU k.bits a &&& aAU k.bits b).toNat:Int)
section
variable {P:Program} {t:TypeId} {x y:Operand} {k yk:IntKind} {a b:Int}
theorem alw:dR P .or t x y (.val (.int k a)) (.val (.int k b))=some (.val (.int k (zR k a b))):=by
 simp [qD,binOp,Op.intBits,zR,cF,aAE]
theorem alx:dR P .xor t x y (.val (.int k a)) (.val (.int k b))=some (.val (.int k (v6 k a b))):=by
 simp [qD,binOp,Op.intBits,v6,cF,aAE]
theorem aly:dR P .and t x y (.val (.int k a)) (.val (.int k b))=some (.val (.int k (sH k a b))):=by
 simp [qD,binOp,Op.intBits,sH,cF,aAE]
theorem alz {n:Nat}:dR P .shl t x y (.val (.int k a)) (.val (.int yk (no_index (aAN n:Int))))=some (.val (.int k (k.wrap (a*2 ^ min n k.bits)))):=by
 have c:¬ ((aAN n:Int) < 0):=by show ¬ ((n:Int) < 0);omega
 have b:((aAN n:Int)).toNat=n:=rfl;simp only [dR,pZ,eqGuard,binOp,Op.shift,c,b,aAL,aAE,if_false];simp [cF,aAM]
end
theorem uX {w n:Nat}:aAU w (n:Int)=BitVec.ofNat w n:=by
 apply BitVec.eq_of_toNat_eq;simp
theorem ad8 {a b:Nat} (c:a < 9223372036854775808) (d:b < 9223372036854775808):zR .i64 a b=((a ||| b:Nat):Int):=by
 have h:a ||| b < 9223372036854775808:=Nat.or_lt_two_pow (n:=63) c d
 unfold zR;rw [uX,uX,BitVec.toNat_or,aAV,aAV];simp only [aAP];rw [aAW (by omega),aAW (by omega)];exact cD (by omega)
theorem arE {a b:Nat} (c:a < 256) (d:b < 256):v6 .u8 a b=((a ^^^ b:Nat):Int):=by
 have h:a ^^^ b < 256:=Nat.xor_lt_two_pow (n:=8) c d;unfold v6;rw [uX,uX,BitVec.toNat_xor,aAV,aAV];simp only [aAP];rw [aAW (by omega),aAW (by omega)];simp [aAO,aAP,aAQ];omega
theorem ad9 {a b:Nat} (c:b < 256):a*256 ||| b=a*256+b:=by
 have:=Nat.two_pow_add_eq_or_of_lt (i:=8) c a;rw [show (2:Nat) ^ 8=256 from rfl,Nat.mul_comm] at this;exact this.symm
def lF:=(⟨@alw,@alx,@aly,@alz⟩:_∧_∧_∧_)
end Go.Tw
namespace Go.Tw
open Go
def za:=(⟨@aE,@sr,@sx⟩:_∧_∧_)
end Go.Tw
