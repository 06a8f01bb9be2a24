import Derived.Test.YtaekhhlgnbhnpaaGreatQmcG08
import Derived.Laws.Strings
set_option linter.defProp false
set_option linter.unusedVariables false
set_option linter.unusedSimpArgs false
open Bind renaming bind→aAO
open BitVec renaming ofInt→aAX,toNat_ofNat→aAY
open Go.ByteArray renaming toList_eq→aAN
open Go.IntKind renaming wrap→aAR,bits→aAS,signed→aAT
open Go.Sem renaming bind→aAP
open List renaming eq_nil_of_length_eq_zero→az1,length→aAV,range_succ→aAW
open Nat renaming mod_eq_of_lt→aAZ
open OfNat renaming ofNat→aAQ
open Option renaming isSome_iff_exists→aAo,bind_some→aAk,map_eq_some_iff→ay1,map_some→az6,getD_none→aAD
open Option.some renaming inj→aAU,injEq→ay0
open Pure renaming pure→aAH
namespace Go.Tw
open Go
section
variable {P:Program} {t:TypeId} {x y:Operand}
abbrev ase (s:ByteArray):AV := .val (.string s)
theorem alC {a b:ByteArray}:eA P .lss t x y (.val (.string a)) (.val (.string b))=some (.val (.bool (Op.bytesLess a.data.toList b.data.toList))):=by
 rw [←aAN,←aAN];simp [eA,sO,eqGuard,binOp,Op.stringOp,cT,aAO,aAP,aAH]
theorem alD (a b:ByteArray):(a.toList == b.toList)=decide (a=b):=by
 by_cases h:a=b
 ·subst h;simp
 ·have:a.toList≠b.toList:=fun e=>h (by
   cases a;cases b;simpa [aAN] using e)
  simp [h,this]
theorem alE {a b:ByteArray}:eA P .eql t x y (.val (.string a)) (.val (.string b))=some (.val (.bool (decide (a=b)))):=by
 simp [eA,sO,eqGuard,binOp,Op.stringOp,cT,aAO,aAP,aAH,alD]
theorem ag4 {a b:ByteArray}:eA P .neq t x y (.val (.string a)) (.val (.string b))=some (.val (.bool (!decide (a=b)))):=by
 simp [eA,sO,eqGuard,binOp,Op.stringOp,cT,aAO,aAP,aAH,alD]
theorem alF {s:ByteArray} (h:pQ P t=true):lenE P t (.val (.string s))=some (.val (.int .i64 s.size)):=by simp [lenE,h,aB]
theorem alG {s:ByteArray} {k:Nat} (h:pQ P t=true):abm P t k (.val (.string s))=(s.data.toList[k]?).map bA:=by simp [abm,h]
theorem alH {k:IntKind} {n:Nat}:kS (.val (.int k (n:Int)))=some n:=by simp [kS]
theorem alI {k:IntKind} {n:Nat}:kS (.val (.int k (no_index (aAQ n:Int))))=some n:=by simp only [kS];rfl
theorem alJ {m:aF} {ty:TypeId} {a:AV}:tT P m #[t] ty [a] .len=eV (lenE P t a) m:=rfl
end
structure aT (v:AV) (n:Nat) (cs:List AV):Prop where
 form:(v=aW∧n=0)∨(∃ c f,v = .emp c f∧n=0)∨(∃ c f,v = .tree n c cs f∧n≤c)
section
variable {P:Program} {v:AV} {n:Nat} {cs:List AV}
theorem aT.len (h:aT v n cs) (t:TypeId):lenE P t v=lenE P t (.tree n n cs true):=by
 rcases h.form with ⟨rfl,rfl⟩ | ⟨c,f,rfl,rfl⟩ | ⟨c,f,rfl,_⟩ <;> simp [lenE,sN,aW] <;> rfl
theorem aT.addr (h:aT v n cs) (t:TypeId) (k:Nat):oJ P t k v=oJ P t k (.tree n n cs true):=by
 rcases h.form with ⟨rfl,rfl⟩ | ⟨c,f,rfl,rfl⟩ | ⟨c,f,rfl,_⟩ <;> simp only [oJ,aW]
 ·cases bO P t with
  | none=>cases qK P t <;> rfl
  | some el=>simp
 ·cases bO P t with
  | none=>cases qK P t <;> rfl
  | some el=>simp
theorem aT.len' (h:aT v n cs) {t:TypeId} (b:(bO P t).isSome=true):lenE P t v=some (.val (.int .i64 (n:Nat))):=by
 rw [h.len];obtain ⟨el,a⟩:=aAo.1 b;simp [lenE,a,sN,aB]
theorem aT.addr' (h:aT v n cs) {t:TypeId} {k:Nat} (b:(bO P t).isSome=true):oJ P t k v=(bO P t).bind fun el=>(bX P el).bind fun sz=>if k < n then some (.tptr (k*sz) cs) else none:=by
 rw [h.addr];obtain ⟨el,a⟩:=aAo.1 b;simp [oJ,a]
theorem aT.plain (h:aT v n cs):plain v=true:=by
 rcases h.form with ⟨rfl,rfl⟩ | ⟨c,f,rfl,rfl⟩ | ⟨c,f,rfl,_⟩ <;> rfl
end
theorem dO {n:Nat} (h:n≤9223372036854775807):IntKind.i64.wrap (n:Int)=n:=by
 simp only [aAR,aAS,aAT];simp;split <;> omega
theorem cB {n:Nat} (h:n < 9223372036854775807):IntKind.i64.wrap ((n:Int)+1)=((n+1:Nat):Int):=by
 have:=dO (n:=n+1) (by omega);rw [←this];rfl
section
variable {m:aF} {x:eZ} {b j:Nat}
theorem cF:(m.push x).at_ j=if j=m.next then some x else m.at_ j:=rfl
theorem cQ:(m.push x).next=m.next+1:=rfl
theorem cI {y:Option eZ}:(m.put b y).at_ j=if j=b then y else m.at_ j:=rfl
theorem fC {y:Option eZ}:(m.put b y).next=m.next:=rfl
end
theorem bU {a:(Ex→bC→aF→Prop)→bC→aF→Prop} {Q:Ex→bC→aF→Prop} {e:bC} {m:aF} (J:Nat→bC→aF→Prop) (n:Nat) (c:J n e m) (h:∀ n e m,J n e m→a (sW (fun e' m'=>∃ b,b < n∧J b e' m') Q) e m):aaN a Q e m:=⟨J,n,c,h⟩
def aG:=(⟨@cF,@cI,@cQ,@fC,@alC,@alE,@ag4,@alF,@alG,@alH,@alI,@alJ⟩:_∧_∧_∧_∧_∧_∧_∧_∧_∧_∧_∧_)
section
variable {P:Program} {m:aF} {t:TypeId} {x y:Operand} {k yk:IntKind} {a:Int}
theorem alK {t:TypeId} {k:IntKind} (h:abN P t=some k):P.underlying t=some (.int k):=by
 unfold abN at h;split at h
 ·rename_i k' a;rw [a,aAU h]
 ·cases h
theorem alL {src dst:TypeId} (d:(abN P src).isSome=true) (b:(abN P dst).isSome=true):nJ P m src dst (.val (.int k a))=(abN P dst).bind fun q=>some ⟨.val (.int q (q.wrap a)),m,none⟩:=by
 obtain ⟨i,d⟩:=aAo.1 d;obtain ⟨h,b⟩:=aAo.1 b;have e:=alK d;have c:=alK b;have f:bO P dst=none:=by simp [bO,c]
 have g:pQ P dst=false:=by simp [pQ,c]
 simp only [b,aAk,nJ,f,g,Go.convert,aAO,underlying,program,aAP];simp [cT,e,c,aAP,aAH,Conv.intToInt,eV]
theorem alM {n:Nat}:eA P .shr t x y (.val (.int k a)) (.val (.int yk (no_index (aAQ n:Int))))=some (.val (.int k (a / 2 ^ min n k.bits))):=by
 have c:¬ ((aAQ n:Int) < 0):=by show ¬ ((n:Int) < 0);omega
 have b:((aAQ n:Int)).toNat=n:=rfl;have d:a.fdiv (2 ^ min n k.bits)=a / 2 ^ min n k.bits:=Int.fdiv_eq_ediv_of_nonneg _ (Int.le_of_lt (Int.pow_pos (by decide)));simp only [eA,sO,eqGuard,binOp,Op.shift,c,b,aAO,aAH,if_false,d];simp [cT,aAP]
end
theorem vM (n:Nat):IntKind.u8.wrap (n:Int)=((UInt8.ofNat n).toNat:Int):=by
 simp [aAR,aAS,aAT]
theorem alN {P:Program} {m:aF} {t a ty:TypeId} {s x:AV} (h:zF P a=true):tT P m #[t,a] ty [s,x] .append=(bO P t).bind fun el=>fR P el m s x:=by simp [tT,h]
structure bY (kd:gJ) (m:aF) (el:TypeId) (sz:Nat) (v:AV) (n:Nat) (cells:List AV):Prop where
 form:(v=aW∧n=0∧cells=[])∨(∃ b,v = .sl b 0 n n false∧m.at_ b=some ⟨cells,el,kd,true⟩∧b < m.next∧0 < n)
 len:cells.length=n*sz
abbrev Own:=bY .flat
theorem gK {kd:gJ} {m:aF} {el:TypeId} {sz:Nat}:bY kd m el sz aW 0 []:=⟨.inl ⟨rfl,rfl,rfl⟩,by simp⟩
theorem bY.push {kd:gJ} {m:aF} {el:TypeId} {sz n:Nat} {v:AV} {cells:List AV} (h:bY kd m el sz v n cells) (x:eZ)   : bY kd (m.push x) el sz v n cells:=by
 refine ⟨?_,h.len⟩;rcases h.form with a | ⟨b,a,d,e,c⟩
 ·exact .inl a
 ·exact .inr ⟨b,a,by rw [cF,if_neg (by omega)];exact d,by rw [cQ];omega,c⟩
theorem bY.put {kd:gJ} {m:aF} {el:TypeId} {sz n:Nat} {v:AV} {cells:List AV} (h:bY kd m el sz v n cells) {j:Nat} {x:Option eZ} (f:m.next≤j)   : bY kd (m.put j x) el sz v n cells:=by
 refine ⟨?_,h.len⟩;rcases h.form with a | ⟨b,a,e,d,c⟩
 ·exact .inl a
 ·exact .inr ⟨b,a,by rw [cI,if_neg (by omega)];exact e,d,c⟩
theorem bY.pp {kd:gJ} {m:aF} {el:TypeId} {sz n:Nat} {v:AV} {cells:List AV} (h:bY kd m el sz v n cells) (x:eZ) (y:Option eZ):bY kd ((m.push x).put m.next y) el sz v n cells:=by
 refine ⟨?_,h.len⟩;rcases h.form with a | ⟨b,a,d,e,c⟩
 ·exact .inl a
 ·exact .inr ⟨b,a,by rw [cI,if_neg (by omega),cF,if_neg (by omega)];exact d,by rw [fC,cQ];omega,c⟩
theorem nP {P:Program} {kd:gJ} {el:TypeId} {m:aF} {v x:AV} {K:bL→Prop} {sz y n a:Nat} {zl:List Value} {cells new:List AV} (d:bK P el=kd) (o:bY kd m el sz v n cells) (e:bX P el=some sz) (h:jN P el=some y) (i:gF P el=some zl) (j:zl.length=sz) (g:eM P el sz m x=some (new,a)) (k:new.length=a*sz) (l:(n+a)*y≤140737488355328) (q:n+a≤140737488355328)
 (f:∀ v' m',bY kd m' el sz v' (n+a) (cells++new)→m.next≤m'.next→K ⟨v',m',none⟩):eO (fR P el m v x) K:=by
 have c:=o.len;rcases o.form with ⟨rfl,rfl,rfl⟩ | ⟨b,rfl,s,t,r⟩
 ·by_cases p:a=0
  ·subst p;have u:new=[]:=az1 (by omega);subst u;have:fR P el m aW x=some ⟨aW,m,none⟩:=by simp [fR,e,h,i,g,dR,aW,d,j,bI]
   rw [this];exact f _ _ gK (Nat.le_refl _)
  ·have:fR P el m aW x=some ⟨.sl m.next 0 (0+a) (0+a) false,m.push ⟨new,el,kd,true⟩,none⟩:=by
    simp only [fR,e,h,i,g,dR,aW,d,aAk,l,q,j,and_self,if_true,if_neg p];simp [bI]
   rw [this];exact f _ _ ⟨.inr ⟨m.next,rfl,by rw [cF,if_pos rfl];rfl,by rw [cQ];omega,by omega⟩,by simp [k]⟩ (by rw [cQ];omega)
 ·have:fR P el m (.sl b 0 n n false) x=some ⟨.sl m.next 0 (n+a) (n+a) false,(m.put b none).push ⟨cells++new,el,kd,true⟩,none⟩:=by
   simp only [fR,e,h,i,g,dR,s,d,aAk,l,q,j,and_self,if_true];simp [bI,c,xT]
  rw [this];exact f _ _ ⟨.inr ⟨m.next,rfl,by rw [cF,fC,if_pos rfl],by rw [cQ,fC];omega,by omega⟩,by simp [c,k,Nat.add_mul]⟩ (by rw [cQ,fC];omega)
def jC (el:TypeId) (n:Nat) (cells:List AV):fA:=if n=0 then ⟨aW,[]⟩ else ⟨.sl 0 0 n n false,[(el,cells)]⟩
theorem alO {P:Program} {m:aF} {el:TypeId} {sz n:Nat} {v:AV} {cells:List AV} (a:bK P el = .flat) (h:Own m el sz v n cells):canon P m 3 [] [] v=some ((jC el n cells).v,(if n=0 then [] else [(match v with | .sl b _ _ _ _=>(b,0) | _=>(0,0))]),(jC el n cells).rows):=by
 rcases h.form with ⟨rfl,rfl,rfl⟩ | ⟨b,rfl,d,c,e⟩
 ·unfold aW canon;rfl
 ·unfold canon;simp [d,jC,Nat.ne_of_gt e,a]
section
variable {P:Program} {m:aF} {t:TypeId} {k k':IntKind} {a b:Int}
theorem alP (g:(bO P t).map (bK P)=some .flat) (e:(bO P t).bind (bX P)=some 1) (d:((bO P t).bind (gF P)).map aAV=some 1):pR P m t 1 [(0,.val (.int k a))]=(bO P t).bind fun el=>some ⟨.sl m.next 0 1 1 true,m.push ⟨[.val (.int k a)],el,.flat,true⟩,none⟩:=by
 obtain ⟨el,c,e⟩:=ayS e;obtain ⟨z,f,d⟩:=ayT d;obtain ⟨el',b,f⟩:=ayS f;have:el'=el:=by rw [c] at b;exact (aAU b).symm
 subst this;rw [c,az6,ay0] at g
 match z,d with
 | [z],_=>simp [pR,g,c,e,f,iJ,aAW,hU,gD,dL,cH,AV.cells,fzs,fz,bI]
theorem alQ (h:(bO P t).map (bK P)=some .flat) (f:(bO P t).bind (bX P)=some 1) (e:((bO P t).bind (gF P)).map aAV=some 1):pR P m t 2 [(0,.val (.int k a)),(1,.val (.int k' b))]=(bO P t).bind fun el=>some ⟨.sl m.next 0 2 2 true,m.push ⟨[.val (.int k a),.val (.int k' b)],el,.flat,true⟩,none⟩:=by
 obtain ⟨el,d,f⟩:=ayS f;obtain ⟨z,g,e⟩:=ayT e;obtain ⟨el',c,g⟩:=ayS g;have:el'=el:=by rw [d] at c;exact (aAU c).symm
 subst this;rw [d,az6,ay0] at h
 match z,e with
 | [z],_=>simp [pR,h,d,f,g,iJ,aAW,hU,gD,dL,cH,AV.cells,fzs,fz,bI]
theorem ag5 (e:(bO P t).bind (bX P)=some 1) (d:((bO P t).bind (gF P)).map aAV=some 1):fY P m t 1 [(0,.val (.int k a))]=some ⟨.tree 1 1 [.val (.int k a)] true,m,none⟩:=by
 obtain ⟨el,c,e⟩:=ayS e;obtain ⟨z,f,d⟩:=ayT d;obtain ⟨el',b,f⟩:=ayS f;have:el'=el:=by rw [c] at b;exact (aAU b).symm
 subst this
 match z,d with
 | [z],_=>simp [fY,c,e,f,iJ,aAW,hU,gD,dL,cH,AV.cells,kF,iI,bI]
theorem alR (f:(bO P t).bind (bX P)=some 1) (e:((bO P t).bind (gF P)).map aAV=some 1):fY P m t 2 [(0,.val (.int k a)),(1,.val (.int k' b))]=some ⟨.tree 2 2 [.val (.int k a),.val (.int k' b)] true,m,none⟩:=by
 obtain ⟨el,d,f⟩:=ayS f;obtain ⟨z,g,e⟩:=ayT e;obtain ⟨el',c,g⟩:=ayS g;have:el'=el:=by rw [d] at c;exact (aAU c).symm
 subst this
 match z,e with
 | [z],_=>simp [fY,d,f,g,iJ,aAW,hU,gD,dL,cH,AV.cells,kF,iI,bI]
theorem abQ {el:TypeId} {sz n c:Nat} {cs:List AV} {f:Bool} (h:n*sz≤cs.length):eM P el sz m (.tree n c cs f)=some (cs.take (n*sz),n):=by simp [eM,dR,h]
theorem ag6 {n sz:Nat} {el:TypeId} {parts:List (Nat×AV)} {z cells:List AV} (d:bO P t=some el) (c:bX P el=some sz) (b:iJ P el n=some z) (a:hU (fun i=>some (i*sz,sz)) z parts=some cells) (f:kF cells=false) (e:n*sz≤16777216):fY P m t n parts=some ⟨.tree n n cells true,m,none⟩:=by
 simp [fY,d,c,b,a,f,e,bI]
theorem lV {el:TypeId} {f:Bool} {u:AV}:eM P el 1 m (.tree 1 1 [u] f)=some ([u],1):=by simp [eM,dR]
end
def cO:=(⟨@alL,@alM,@vM,@alP,@alQ,@ag5,@alR,@alN⟩:_∧_∧_∧_∧_∧_∧_∧_)
section
variable {P:Program} {m:aF} {t el:TypeId} {v:AV} {n sz:Nat} {cs:List AV}
theorem aT.slOk (h:aT v n cs):slOk P m t v=true:=by
 rcases h.form with ⟨rfl,rfl⟩ | ⟨c,f,rfl,rfl⟩ | ⟨c,f,rfl,_⟩ <;> rfl
theorem aT.sliceX (h:aT v n cs) {d c:Bool} {lo hi mx:Option AV}:sliceX P d c m t v lo hi mx=(dD lo).bind fun lo=>(dD hi).bind fun hi=>(dD mx).bind fun mx=>eV (kT P t lo hi mx v) m:=by
 rcases h.form with ⟨rfl,_⟩ | ⟨_,_,rfl,_⟩ | ⟨_,_,rfl,_⟩ <;> cases d <;> cases c <;> rfl
theorem aT.src (h:aT v n cs) (a:n*sz≤cs.length):eM P el sz m v=some (cs.take (n*sz),n):=by
 rcases h.form with ⟨rfl,rfl⟩ | ⟨c,f,rfl,rfl⟩ | ⟨c,f,rfl,_⟩
 ·simp [eM,dR,aW]
 ·simp [eM,dR]
 ·simp [eM,dR,a]
theorem aT.cut (h:aT v n cs) {lo:Nat} {hi:Option Nat} (g:lo≤hi.getD n) (e:hi.getD n≤n):∃ v',tS sz lo hi none v=some v'∧aT v' (hi.getD n - lo) (cs.drop (lo*sz)):=by
 rcases h.form with ⟨rfl,rfl⟩ | ⟨c,f,rfl,rfl⟩ | ⟨c,f,rfl,i⟩
 ·have a:hi.getD 0=0:=by omega
  have b:lo=0:=by omega
  subst b;exact ⟨aW,by simp [tS,aW,a],⟨.inl ⟨rfl,by omega⟩⟩⟩
 ·have a:hi.getD 0=0:=by omega
  have b:lo=0:=by omega
  subst b;exact ⟨.emp c f,by simp [tS,a],⟨.inr (.inl ⟨c,f,rfl,by omega⟩)⟩⟩
 ·by_cases d:lo=hi.getD n
  ·refine ⟨.emp (c - lo) f, ?_,⟨.inr (.inl ⟨_,_,rfl,by omega⟩)⟩⟩;simp only [tS,aAD,Option.isSome_none,Bool.or_false];rw [if_pos (by omega),if_pos d]
  ·refine ⟨.tree (hi.getD n - lo) (c - lo) (cs.drop (lo*sz)) f, ?_,⟨.inr (.inr ⟨_,_,rfl,by omega⟩)⟩⟩;simp only [tS,aAD,Option.isSome_none,Bool.or_false];rw [if_pos (by omega),if_neg d]
theorem aT.slice (h:aT v n cs) {lo hi:Option Nat} (g:(bO P t).bind (bX P)=some sz) (f:lo.getD 0≤hi.getD n) (e:hi.getD n≤n):∃ v',kT P t lo hi none v=some v'∧aT v' (hi.getD n - lo.getD 0) (cs.drop (lo.getD 0*sz)):=by
 obtain ⟨el,b,a⟩:=ayS g;obtain ⟨v',d,c⟩:=h.cut (sz:=sz) f e;exact ⟨v',by simp [kT,b,a,d],c⟩
theorem alS:∀ (bs:List UInt8),bytesOf (bs.map bA)=some bs
 | []=>rfl
 | b::bs=>by
  have:asB (bA b)=some b:=by simp [asB,bA]
  simp [bytesOf,this,alS bs]
theorem aT.str {bs:List UInt8} {x:List AV} (h:aT v bs.length (bs.map bA++x)) {src dst:TypeId} (j:bO P dst=none) (i:pQ P dst=true) (g:bO P src=some el) (d:tR P el=true):nJ P m src dst v=some ⟨.val (.string ⟨bs.toArray⟩),m,none⟩:=by
 have a:dR .flat m v=some (bs.map bA++x,bs.length,(match v with | .tree n c _ f=>f && c == n | _=>true))∨(bs=[]∧∃ q,dR .flat m v=some ([],0,q)):=by
  rcases h.form with ⟨rfl,b⟩ | ⟨c,f,rfl,b⟩ | ⟨c,f,rfl,_⟩
  ·exact .inr ⟨az1 b,true,rfl⟩
  ·exact .inr ⟨az1 b,_,rfl⟩
  ·exact .inl rfl
 simp only [nJ,j,i,g,d,if_true];rcases a with a | ⟨rfl,q,a⟩
 ·have e:(bs.map bA++x).take bs.length=bs.map bA:=by rw [List.take_append_of_le_length (by simp)];rw [List.take_of_length_le (by simp)]
  simp [a,e,alS,bI]
 ·simp [a,bytesOf,bI]
theorem alT (h:Own m el sz v n cs) (k:Nat):∃ a,lend k m v=some a∧aT a n cs:=by
 rcases h.form with ⟨rfl,rfl,rfl⟩ | ⟨b,rfl,c,_,d⟩
 ·exact ⟨aW,by unfold aW lend;rfl,⟨.inl ⟨rfl,rfl⟩⟩⟩
 ·refine ⟨.tree n n cs false, ?_,⟨.inr (.inr ⟨n,false,rfl,Nat.le_refl _⟩)⟩⟩;cases k <;> (unfold lend;simp [c])
theorem alU {a b:Value} (h:vA a=true) (i:vA b=true) (f:(bO P t).bind (bX P)=some 2) (e:((bO P t).bind (gF P)).map aAV=some 2):fY P m t 1 [(0,.agg [.val a,.val b])]=some ⟨.tree 1 1 [.val a,.val b] true,m,none⟩:=by
 obtain ⟨el,d,f⟩:=ayS f;obtain ⟨z,g,e⟩:=ayT e;obtain ⟨el',c,g⟩:=ayS g;have:el'=el:=by rw [d] at c;exact (aAU c).symm
 subst this
 match z,e with
 | [z,z'],_=>simp [fY,d,f,g,iJ,aAW,hU,gD,cH,AV.cells,kF,iI,bI]
theorem aet {el:TypeId} {f:Bool} {u a:AV}:eM P el 2 m (.tree 1 1 [u,a] f)=some ([u,a],1):=by simp [eM,dR]
theorem asf {el el':TypeId} {kd:gJ} {b:Nat} {f wr:Bool} {u c:AV} (a:bK P el=kd) (d:b=m.next):eM P el 2 (m.push ⟨[u,c],el',kd,wr⟩) (.sl b 0 1 1 f)=some ([u,c],1):=by
 subst d;simp [eM,dR,cF,a]
end
def abR (k:IntKind) (a b:Int):Int:=k.wrap ((aAX k.bits a ||| aAX k.bits b).toNat:Int)
def yD (k:IntKind) (a b:Int):Int:=k.wrap ((aAX k.bits a ^^^ aAX k.bits b).toNat:Int)
def uA (k:IntKind) (a b:Int):Int:=k.wrap ((aAX k.bits a &&& aAX k.bits b).toNat:Int)
section
variable {P:Program} {t:TypeId} {x y:Operand} {k yk:IntKind} {a b:Int}
theorem alV:eA P .or t x y (.val (.int k a)) (.val (.int k b))=some (.val (.int k (abR k a b))):=by
 simp [rK,binOp,Op.intBits,abR,cT,aAH]
theorem alW:eA P .xor t x y (.val (.int k a)) (.val (.int k b))=some (.val (.int k (yD k a b))):=by
 simp [rK,binOp,Op.intBits,yD,cT,aAH]
theorem alX:eA P .and t x y (.val (.int k a)) (.val (.int k b))=some (.val (.int k (uA k a b))):=by
 simp [rK,binOp,Op.intBits,uA,cT,aAH]
theorem alY {n:Nat}:eA P .shl t x y (.val (.int k a)) (.val (.int yk (no_index (aAQ n:Int))))=some (.val (.int k (k.wrap (a*2 ^ min n k.bits)))):=by
 have c:¬ ((aAQ n:Int) < 0):=by show ¬ ((n:Int) < 0);omega
 have b:((aAQ n:Int)).toNat=n:=rfl;simp only [eA,sO,eqGuard,binOp,Op.shift,c,b,aAO,aAH,if_false];simp [cT,aAP]
end
theorem wV {w n:Nat}:aAX w (n:Int)=BitVec.ofNat w n:=by
 apply BitVec.eq_of_toNat_eq;simp
theorem alZ {a b:Nat} (c:a < 9223372036854775808) (d:b < 9223372036854775808):abR .i64 a b=((a ||| b:Nat):Int):=by
 have h:a ||| b < 9223372036854775808:=Nat.or_lt_two_pow (n:=63) c d
 unfold abR;rw [wV,wV,BitVec.toNat_or,aAY,aAY];simp only [aAS];rw [aAZ (by omega),aAZ (by omega)];exact dO (by omega)
theorem asg {a b:Nat} (c:a < 256) (d:b < 256):yD .u8 a b=((a ^^^ b:Nat):Int):=by
 have h:a ^^^ b < 256:=Nat.xor_lt_two_pow (n:=8) c d;unfold yD;rw [wV,wV,BitVec.toNat_xor,aAY,aAY];simp only [aAS];rw [aAZ (by omega),aAZ (by omega)];simp [aAR,aAS,aAT];omega
theorem al0 {a b:Nat} (c:b < 256):a*256 ||| b=a*256+b:=by
 have:=Nat.two_pow_add_eq_or_of_lt (i:=8) c a;rw [show (2:Nat) ^ 8=256 from rfl,Nat.mul_comm] at this;exact this.symm
def uB:=(⟨@alV,@alW,@alX,@alY⟩:_∧_∧_∧_)
end Go.Tw
namespace Go.Tw
open Go
def za:=(⟨@aG,@sr,@sx⟩:_∧_∧_)
end Go.Tw
