import Derived.Test.YtaekhhlgnbhnpaaGreatOycG05
import Derived.Test.YtaekhhlgnbhnpaaGreatOycG06
import Derived.Deep.LoopGhost
set_option linter.unusedVariables false
set_option linter.unusedSimpArgs false
namespace Go.Tw
open Go
def vR (P:Program) (m:aH) (t:TypeId) (len:Nat) (parts:List (Nat×AV)):Option bS :=
 (bZ P t).bind fun el=>(cG P el).bind fun n=>(iW P el len).bind fun z=>if len*n≤16777216 then
  (fU (fun i=>some (i*n,n)) z parts).bind fun cs=>(fzs m cs).bind fun r=>bK (.tree len len r.1 true) r.2
 else none
section
variable {P:Program} {w:World} {I:Nat→Prop} {ρ:cC} {m:aH}
theorem aoU (hS : SR P w I ρ m) {t : TypeId} {len : Nat} {parts : List (Nat × AV)} {out : bS} (h : fV P m t len parts = some out) (hfree : ∀ b, m.next ≤ b → b < out.m.next → ρ b = none)
   {vparts : List (Nat × Value)} (hl : vparts.length = parts.length) (hv : ∀ (j i : Nat) (av : AV) (i' : Nat) (v : Value), parts[j]? = some (i, av) → vparts[j]? = some (i', v) → i = i' ∧ VR P w I ρ av v) (addr : Value) :
   hY P w I ρ m ((Instr.buildSlice t len vparts.toArray).run P w) id out addr := by
 unfold fV at h
 obtain ⟨el, hel, h⟩ := Option.bind_eq_some_iff.1 h
 obtain ⟨n, hn, h⟩ := Option.bind_eq_some_iff.1 h
 obtain ⟨z, hz, h⟩ := Option.bind_eq_some_iff.1 h
 split at h
 · rename_i hle
   obtain ⟨cs, hcs, h⟩ := Option.bind_eq_some_iff.1 h
   split at h
   · cases h
   rename_i hnr
   simp only [bK, Option.some.injEq] at h
   subst h
   obtain ⟨sz, hsz, arr, q1, q2, q3, q4, q5⟩ := acM hz
   rw [hn, Option.some.injEq] at hsz
   subst hsz
   obtain ⟨arr', f1, f2, f3, f4, f5⟩ := zJ (P := P) (w := w) (I := I) (ρ := ρ) (place := fun i => some (i * n, n)) (placeE := fun i => some (i * n, n)) (fun _ _ h => h) parts vparts z cs arr hcs hl hv (by rw [q2, q3]) q4 (q5 w I ρ)
   have hA := nX.alloc w arr' el
   obtain ⟨a, b⟩ := acK hA hS
   refine ⟨.slice (some ⟨w.heap.size, 0, none⟩) len len, _, _, _, ?_, ?_, a, b, fun d y h => by cases h⟩
   · have q1' := q1 w
     simp only [Sem.run_bind, Sem.run_ite, Sem.run_pure] at q1'
     by_cases h0 : len * n = 0
     · simp [h0] at q1'
       simp [Instr.buildSlice, cT (hU hel), gY hn, h0, f1, q1', newRow]
     · simp only [h0, if_false] at q1'
       have hnot : ¬ (16777216 < len * n) := by omega
       cases hzv : (zeroValue el).run P w with
       | halt x y => rw [hzv] at q1'; simp at q1'
       | ok x y =>
         rw [hzv] at q1'
         simp at q1'
         obtain ⟨q6, q7⟩ := q1'
         subst q7
         simp [Instr.buildSlice, cT (hU hel), gY hn, h0, hnot, hzv, q6, f1, newRow]
   · simp only [id, VR]
     obtain ⟨fr, hfr⟩ := hA.blk
     refine ⟨_, 0, len, rfl, .inr rfl, ⟨Nat.le_refl _, Nat.le_refl _⟩, fun _ => rfl, f4, ?_⟩
     exact g8 (eF (b.keeps hS) (fun _ _ h => h) _ _ (xS cs _ (by simpa using hnr) f5)) fun j _ => by rw [cell_of_row _ _ _ _ _ _ hfr, Nat.zero_add]
 · cases h
theorem aoV (hS : SR P w I ρ m) {t : TypeId} {len : Nat} {parts : List (Nat × AV)} {out : bS} (h : vR P m t len parts = some out) (hfree : ∀ b, m.next ≤ b → b < out.m.next → ρ b = none)
   {vparts : List (Nat × Value)} (hl : vparts.length = parts.length) (hv : ∀ (j i : Nat) (av : AV) (i' : Nat) (v : Value), parts[j]? = some (i, av) → vparts[j]? = some (i', v) → i = i' ∧ VR P w I ρ av v) (addr : Value) :
   hY P w I ρ m ((Instr.buildSlice t len vparts.toArray).run P w) id out addr := by
 unfold vR at h
 obtain ⟨el, hel, h⟩ := Option.bind_eq_some_iff.1 h
 obtain ⟨n, hn, h⟩ := Option.bind_eq_some_iff.1 h
 obtain ⟨z, hz, h⟩ := Option.bind_eq_some_iff.1 h
 split at h
 · rename_i hle
   obtain ⟨cs, hcs, h⟩ := Option.bind_eq_some_iff.1 h
   obtain ⟨rf, hrf, h⟩ := Option.bind_eq_some_iff.1 h
   obtain ⟨cs', m'⟩ := rf
   simp only [bK, Option.some.injEq] at h
   subst h
   obtain ⟨sz, hsz, arr, q1, q2, q3, q4, q5⟩ := acM hz
   rw [hn, Option.some.injEq] at hsz
   subst hsz
   obtain ⟨arr', f1, f2, f3, f4, f5⟩ := zJ (P := P) (w := w) (I := I) (ρ := ρ) (place := fun i => some (i * n, n)) (placeE := fun i => some (i * n, n)) (fun _ _ h => h) parts vparts z cs arr hcs hl hv (by rw [q2, q3]) q4 (q5 w I ρ)
   have hA := nX.alloc w arr' el
   obtain ⟨I1, g1, g2, g3, g4, g5, g6⟩ := vL cs m m' I cs' _ hrf hS f5
   obtain ⟨a, b⟩ := acK hA g1
   refine ⟨.slice (some ⟨w.heap.size, 0, none⟩) len len, _, _, _, ?_, ?_, a, g2.trans b, fun d y h => by cases h⟩
   · have q1' := q1 w
     simp only [Sem.run_bind, Sem.run_ite, Sem.run_pure] at q1'
     by_cases h0 : len * n = 0
     · simp [h0] at q1'
       simp [Instr.buildSlice, cT (hU hel), gY hn, h0, f1, q1', newRow]
     · simp only [h0, if_false] at q1'
       have hnot : ¬ (16777216 < len * n) := by omega
       cases hzv : (zeroValue el).run P w with
       | halt x y => rw [hzv] at q1'; simp at q1'
       | ok x y =>
         rw [hzv] at q1'
         simp at q1'
         obtain ⟨q6, q7⟩ := q1'
         subst q7
         simp [Instr.buildSlice, cT (hU hel), gY hn, h0, hnot, hzv, q6, f1, newRow]
   · simp only [id, VR]
     obtain ⟨fr, hfr⟩ := hA.blk
     refine ⟨_, 0, len, rfl, .inr rfl, ⟨Nat.le_refl _, Nat.le_refl _⟩, fun _ => rfl, g6 f4, ?_⟩
     exact g8 (eF (b.keeps g1) (fun _ _ h => h) _ _ g4) fun j _ => by rw [cell_of_row _ _ _ _ _ _ hfr, Nat.zero_add]
 · cases h
end
def sA (P:Program) (d once:Bool) (m:aH) (t:TypeId) (x:AV):Option AV:=match d && once with
 | true=>(match x with | .tptr off cells=>kO P t cells off | _=>none)
 | false=>iX P m t x
def ac0 (a b:Option bS):Option bS:=match a with
 | some o=>some o
 | none=>b
def sB (P:Program) (d once:Bool) (m:aH) (t:TypeId) (len:Nat) (parts:List (Nat×AV)):Option bS:=match once,d with
 | true,true=>fV P m t len parts
 | true,false=>ac0 (fV P m t len parts) (vR P m t len parts)
 | false,_=>oW P m t len parts
def mF (P:Program) (once:Bool) (m:aH) (src dst:TypeId) (x:AV):Option bS:=match once,bZ P dst,x with
 | true,some el,.val (.string s)=>if p7 P el∧mQ P src∧cG P el=some 1 then bK (.tree s.size s.size (fE s) false) m else none
 | _,_,_=>lG P m src dst x
theorem aoW {P : Program} {w : World} {I : Nat → Prop} {ρ : cC} {m : aH} (hS : SR P w I ρ m) {once : Bool} {src dst : TypeId} {x : AV} {out : bS} (h : mF P once m src dst x = some out) (hfree : ∀ b, m.next ≤ b → b < out.m.next → ρ b = none) {v : Value} (hv : VR P w I ρ x v) (addr : Value) :
   hY P w I ρ m ((Go.convert src dst v).run P w) id out addr := by
 unfold mF at h
 split at h
 · rename_i el s hel
   split at h
   · rename_i hc
     obtain ⟨hu, hss, hsz1⟩ := hc
     have hds := zF hss
     simp only [bK, Option.some.injEq] at h
     subst h
     simp only [VR] at hv
     subst hv
     obtain ⟨cap, arr, w', h1, h2, h3, h4, h5, h6⟩ := ahm (P := P) (w := w) el s
     obtain ⟨a, b⟩ := acK h3 hS
     refine ⟨.slice (some ⟨w.heap.size, 0, none⟩) s.size cap, w', _, _, ?_, ?_, a, b, fun d y h => by cases h⟩
     · simp [Go.convert, cT hds, cT (hU hel), cT (aeD hu), h1]
     · simp only [id, VR]
       obtain ⟨fr, hfr⟩ := h3.blk
       refine ⟨_, 0, cap, rfl, .inr rfl, ⟨Nat.le_refl _, h2⟩, (fun h => by cases h), aeP s, ?_⟩
       exact g8 (aeO s) fun j hj => by rw [cell_of_row _ _ _ _ _ _ hfr, Nat.zero_add]; exact h5 j (by rw [aeQ] at hj; exact hj)
   · cases h
 · exact aho hS h hfree hv addr
theorem aoX {P:Program} {m:aH} {once:Bool} {src dst:TypeId} {x:AV} {out:bS} (h:mF P once m src dst x=some out):out.wb=none:=by
 unfold mF at h
 split at h
 ·split at h
  ·simp only [bK,Option.some.injEq] at h;subst h;rfl
  ·cases h
 ·unfold lG at h
  split at h
  ·split at h
   ·split at h
    ·simp only [bK,Option.some.injEq] at h;subst h;rfl
    ·cases h
   ·cases h
  ·split at h
   ·split at h
    ·obtain ⟨_,_,h⟩:=Option.bind_eq_some_iff.1 h
     split at h
     ·obtain ⟨_,_,h⟩:=Option.bind_eq_some_iff.1 h
      simp only [bK,Option.some.injEq] at h;subst h;rfl
     ·cases h
    ·cases h
   ·split at h
    ·obtain ⟨_,_,rfl⟩:=Option.map_eq_some_iff.1 h;rfl
    ·cases h
def mU (P:Program) (d once:Bool) (m:aH) (src dst:TypeId) (x:AV):Option bS:=match once && d with
 | true=>(match x with
  | .sl .. => none
  | _=>mF P once m src dst x)
 | false=>mF P once m src dst x
theorem ahT {P:Program} {d once:Bool} {m:aH} {src dst:TypeId} {x:AV} {out:bS} (h:mU P d once m src dst x=some out):mF P once m src dst x=some out:=by
 unfold mU at h
 split at h
 ·split at h
  ·cases h
  ·exact h
 ·exact h
theorem aoY {P:Program} {d once:Bool} {m:aH} {t:TypeId} {x av:AV} (h:sA P d once m t x=some av):iX P m t x=some av:=by
 unfold sA at h
 split at h
 ·split at h
  ·exact h
  ·cases h
 ·exact h
def abp (P:Program) (m:aH) (t:TypeId) (x:AV) (lo hi mx:Option AV):Option bS:=if slOk P m t x then (a8 lo).bind fun lo=>(a8 hi).bind fun hi=>(a8 mx).bind fun mx=>eR (lU P t lo hi mx x) m else none
def sliceX (P:Program) (d once:Bool) (m:aH) (t:TypeId) (x:AV) (lo hi mx:Option AV):Option bS:=match d && once with
 | true=>(match x with
  | .sl .. => none
  | _=>abp P m t x lo hi mx)
 | false=>abp P m t x lo hi mx
theorem aoZ {P:Program} {d once:Bool} {m:aH} {t:TypeId} {x:AV} {lo hi mx:Option AV} {out:bS} (h:sliceX P d once m t x lo hi mx=some out):abp P m t x lo hi mx=some out:=by
 unfold sliceX at h
 split at h
 ·split at h
  ·cases h
  ·exact h
 ·exact h
def eL (r:Option bS) (K:bS→Prop):Prop:=match r with
 | some o=>K o
 | none=>False
def ahU (P:Program) (f:FuncId) (args:List AV) (m:aH) (K:bS→Prop):Prop :=
 ∃ args' r,gI 3 m args=some args'∧aY P f args' r∧(jH args=false∨r.apart=true)∧K ⟨shift m.next r.v,eB P m r.rows,none⟩
def ahV (P:Program) (f:FuncId) (args:List AV) (m:aH) (K:bS→Prop):Prop:=gO P f args m fun v m'=>K ⟨v,m',none⟩
def ao0 (P:Program) (f:FuncId) (args:List AV) (m:aH) (K:bS→Prop):Prop:=∃ r m',gO P f args m (fun v m1=>v=r∧m1=m')∧K ⟨r,m',none⟩
def ahW (P:Program) (f:FuncId) (args:List AV) (m:aH) (K:bS→Prop):Prop :=
 ∃ args' m1 r,fzs m args=some (args',m1)∧aY P f args' r∧K ⟨shift m1.next r.v,eB P m1 r.rows,none⟩
def ahX (P:Program) (f:FuncId) (args:List AV) (m:aH) (K:bS→Prop):Prop:=∃ r,aou P f args m r∧K ⟨r,m,none⟩
def nY (P:Program) (d:Bool) (f:FuncId) (args:List AV) (m:aH) (K:bS→Prop):Prop:=ahU P f args m K∨(d=false∧ahV P f args m K)∨ao0 P f args m K∨ahX P f args m K∨ahW P f args m K
def xV (P:Program) (f:FuncId) (args:List AV) (m:aH) (K:bS→Prop):Prop :=
 ∃ r,aY P f args r∧r.rows=[]∧(∀ k m,gI k m args=some args)∧jH args=false∧(∀ k,shift k r.v=r.v)∧K ⟨r.v,m,none⟩
def mV (P:Program) (d once:Bool) (m:aH) (args:List AV) (K:bS→Prop):AV→Prop
 | .clo g caps=>match once && d with
  | true=>xV P g (args++caps) m K
  | false=>nY P d g (args++caps) m K
 | _=>False
theorem ao1 {P:Program} {d:Bool} {f:FuncId} {args:List AV} {m:aH} {K:bS→Prop} (h:xV P f args m K):nY P d f args m K:=by
 obtain ⟨r,h1,h2,h3,h4,h5,h6⟩:=h
 exact .inl ⟨args,r,h3 3 m,h1,.inl h4,by rw [h5,h2];exact h6⟩
theorem ao2 {P:Program} {d c:Bool} {f:FuncId} {args:List AV} {m:aH} {K:bS→Prop} (h:match c && d with | true=>xV P f args m K | false=>nY P d f args m K):nY P d f args m K:=by
 split at h
 ·exact ao1 h
 ·exact h
def cD (P:Program) (d once:Bool) (e:bI) (m:aH) (ty:TypeId) (K:bS→Prop):Op→Prop
 | .call ⟨.builtin b,args,ts⟩=>eL (qV P m ts ty (args.toList.map (opd e)) b) K
 | .call ⟨.value f,args,_⟩=>mV P d once m (args.toList.map (opd e)) K (opd e f)
 | .call _=>False
 | .buildSlice t len parts=>eL (sB P d once m t len (parts.toList.map fun p=>(p.1,opd e p.2))) K
 | .load t a=>eL (eR (sA P d once m t (opd e a)) m) K
 | .slice t x lo hi mx=>eL (sliceX P d once m t (opd e x) (lo.map (opd e)) (hi.map (opd e)) (mx.map (opd e))) K
 | .convert src dst x=>eL (mU P d once m src dst (opd e x)) K
 | .lookup t x k false=>eL (eR (uC P m t (opd e x) (opd e k)) m) K
 | .mapUpdate t x k v=>eL (r7 P m t (opd e x) (opd e k) (opd e v)) K
 | .entry x=>eL (eR (abl m (opd e x)) m) K
 | .makeMap _ none=>d=false∧zS m K
 | .range t x=>d=false∧zT P m t (opd e x) K
 | .next x false=>d=false∧zU m (opd e x) K
 | op=>eL (cW P once e m op) K
def sC (e:bI):Option (Nat×AV)→bI
 | some (d,y)=>e.set d y
 | none=>e
def zW (c:Bool):Op→Bool
 | .load .. | .slice .. | .buildSlice .. | .convert .. | .call ⟨.value _,_,_⟩=>c
 | .move _ | .assign _ | .build .. | .pick .. | .binOp .. | .unOp .. | .nilCheck _ | .extract .. | .field .. | .fieldAddr .. | .indexAddr .. | .index .. => true
 | .call ⟨.builtin .len,_,_⟩ | .call ⟨.builtin .min,_,_⟩ | .call ⟨.builtin .max,_,_⟩=>true
 | _=>false
def sE (o:Oper):List Nat:=(o.after.toList.filter fun e=>Region.binds .any e).map (·.on)
def just (ms:List Nat) (bs:List Nat):Nat:=bs.foldl (fun x b=>x ||| (2 ^ b ||| ms.getD b 0)) 0
def ahY:List Oper→List Nat→List Nat
 | [],acc=>acc
 | o::l,acc=>ahY l (acc++[just acc (sE o)])
def kB (ops:Array Oper):List Nat:=ahY ops.toList []
def bef (ms:List Nat) (j i:Nat):Bool:=(ms.getD i 0).testBit j
def ac1 (once:Nat→Bool) (ops:Array Oper) (i:Nat):Bool:=(List.range ops.size).all fun k=>k == i || (match ops[k]? with | some o=>zW (once (o.dst.getD 0)) o.op | none=>true) || bef (kB ops) k i || bef (kB ops) i k
def abq (ops:Array Oper):Op→Bool
 | .load _ (.tmp t)=>ops.all fun o=>o.dst != some t
 | _=>false
def ae5:Op→Bool
 | .load .. => true
 | _=>false
def uD (once:Nat→Bool) (ops:Array Oper) (i:Nat):Bool:=((List.range ops.size).all fun k=>k == i || (match ops[k]? with | some o=>zW (once (o.dst.getD 0)) o.op || (decide (k < i) && abq ops o.op) | none=>true) || bef (kB ops) k i || bef (kB ops) i k) && (List.range i).all fun k=>match ops[k]? with | some o=>zW (once (o.dst.getD 0)) o.op || ae5 o.op | none=>true
def drawn (once:Nat→Bool) (ops:Array Oper) (k:Nat) (m:aH) (out:bS):Prop:=out.wb=none∧(ac1 once ops (ops.size - k)=true∨out.m=m∨(uD once ops (ops.size - k)=true∧∃ x,out.m=m.push x))
def iA (P:Program) (once:Nat→Bool) (d:Bool) (ops:Array Oper) (Q:bI→aH→Prop):List Oper→bI→aH→Prop
 | [],e,m=>Q e m
 | o::rest,e,m =>
  if qC ops e o then cD P d (once (o.dst.getD 0)) e m o.type (fun out=>(d=true→drawn once ops (rest.length+1) m out)∧iA P once d ops Q rest ((sC e out.wb).put o.dst out.v) out.m) o.op
  else iA P once d ops Q rest (e.put o.dst eI) m
def o7 (K:bI→aH→Prop) (Q:Ex→bI→aH→Prop):Ex→bI→aH→Prop
 | .normal,e,m=>K e m
 | x,e,m=>Q x e m
def nZ (id:Nat) (Q:Ex→bI→aH→Prop):Ex→bI→aH→Prop
 | .exit id',e,m=>if id'=id then Q .normal e m else Q (.exit id') e m
 | x,e,m=>Q x e m
def zX (A B:Prop):AV→Prop
 | .val (.bool t)=>(t=true→A)∧(t=false→B)
 | _=>False
def xW (body:(Ex→bI→aH→Prop)→bI→aH→Prop) (Q:Ex→bI→aH→Prop) (e:bI) (m:aH):Prop :=
 ∃ (J:Nat→bI→aH→Prop) (n:Nat),J n e m∧∀ n e m,J n e m→body (o7 (fun e' m'=>∃ n',n' < n∧J n' e' m') Q) e m
def zY (n:Nat) (ops:Array Oper):Bool:=ops.all fun o=>match o.dst with
 | some d=>decide (d < n)
 | none=>true
section
variable {P:Program}
theorem ahZ {w:World} {I:Nat→Prop} {ρ:cC} {ops:Array Oper} {e:bI} {a:Act} (he:ER P w I ρ e a) (o:Oper):Region.wanted o (yielded ops a.tmps)=qC ops e o:=by
 unfold Region.wanted qC
 cases o.guard with
 | none=>rfl
 | some g =>
  obtain ⟨j,want⟩:=g
  simp only [yielded]
  cases (ops[j]?).bind (·.dst) with
  | none=>rfl
  | some d =>
   simp only [Option.bind_some]
   have hd:=he d
   rw [Array.getD_eq_getD_getElem?] at hd
   cases hq:a.tmps[d]? with
   | none =>
    rw [hq] at hd
    simp only [Option.getD_none] at hd
    have hne:∀ b,e d ≠ .val (.bool b):=fun b hb=>by rw [hb] at hd;simp [VR,undef] at hd
    split
    ·rename_i hcontra;cases hcontra
    ·split
     ·rename_i b hb;exact absurd hb (hne b)
     ·rfl
   | some v =>
    rw [hq] at hd
    simp only [Option.getD_some] at hd
    cases v with
    | bool b =>
     have:=anO hd
     rw [this]
     simp
    | _ =>
     simp only
     split
     ·rename_i b hb;rw [hb] at hd;simp [VR] at hd
     ·rfl
def ah0 (P:Program) (w:World) (I:Nat→Prop) (ρ:cC) (m:aH) (a:Act) (o:Oper) (K:bS→Prop) (next:Act→World→Prop):Prop :=
 ∀ out v w' I' ρ',K out→VR P w' I' ρ' out.v v→SR P w' I' ρ' out.m→cM w I ρ m w' I' ρ' out.m→(∀ d y,out.wb=some (d,y)→VR P w' I' ρ' y (a.tmps.getD d undef))→(∀ b,out.m.next≤b→ρ' b=none)→next (a.put o.dst v) w'
theorem ac2 {w w':World} {I I':Nat→Prop} {ρ ρ':cC} {m m':aH} (s:cM w I ρ m w' I' ρ' m') (h:∀ b,m.next≤b→ρ b=none):∀ b,m'.next≤b→ρ' b=none:=by
 intro b hb
 cases hq:ρ' b with
 | none=>rfl
 | some x =>
  have:=s.lo b (h b (Nat.le_trans s.next hb)) (by rw [hq];simp)
  omega
theorem q8 {w : World} {I : Nat → Prop} {ρ : cC} {m : aH} {a : Act} {o : Oper} {out : bS} {K : bS → Prop} {next : Act → World → Prop} {Q : Exit → Act → World → Prop} (h : eV P w I ρ m a ((execOp a.eval o).run P w) out) (hK : K out)
   (hfree : ∀ b, m.next ≤ b → ρ b = none) (hg : ah0 P w I ρ m a o K next) : o.wp P a w next Q := by
 obtain ⟨v, w', I', ρ', h1, h2, h3, h4, h5⟩ := h
 have := hg out v w' I' ρ' hK h2 h3 h4 h5 (ac2 h4 hfree)
 unfold Oper.wp
 rcases h1 with h1 | ⟨h1, h6⟩
 · rw [h1, Oper.upon_value]; exact this
 · rw [h1, Oper.upon_skip, ← h6]; exact this
theorem ao3 {m:aH} {k:Nat} {cs cs':List AV} (h:gI k m cs=some cs'):cs'.length=cs.length:=(zN k cs cs' h).1
theorem ao4 {w : World} {I : Nat → Prop} {ρ : cC} {e : bI} {a : Act} (he : ER P w I ρ e a) (args : Array Operand) {caps : List AV} {vcaps : Array Value} (hc : bH P w I ρ caps (fun j => vcaps[j]?)) (hs : vcaps.size = caps.length) :
   (args.map a.eval ++ vcaps).size = (args.toList.map (opd e) ++ caps).length ∧ bH P w I ρ (args.toList.map (opd e) ++ caps) (fun j => (args.map a.eval ++ vcaps)[j]?) := by
 refine ⟨by simp [hs], j9.2 fun j c hj => ?_⟩
 rcases Nat.lt_or_ge j args.size with h | h
 · rw [List.getElem?_append_left (by simpa using h), List.getElem?_map] at hj
   obtain ⟨x, hx, rfl⟩ := Option.map_eq_some_iff.1 hj
   refine ⟨a.eval x, ?_, dW he x⟩
   rw [Array.getElem?_append_left (by simpa using h)]
   simp at hx
   simp [hx]
 · rw [List.getElem?_append_right (by simpa using h)] at hj
   obtain ⟨v, h1, h2⟩ := gN hc hj
   refine ⟨v, ?_, h2⟩
   rw [Array.getElem?_append_right (by simpa using h)]
   simpa using h1
theorem ae6 {w : World} {a : Act} {dst : Option Tmp} {ty : TypeId} {pos : String} {after : Array Edge} {guard : Option (Nat × Bool)} {f : Operand} {args : Array Operand} {ts : Array TypeId} {g : FuncId} {vcaps : Array Value} {next : Act → World → Prop} {Q : Exit → Act → World → Prop}
   (hf : a.eval f = .func (.func g) #[] vcaps) (hc : rY P g = true) (h : Calls P g (args.map a.eval ++ vcaps) w fun e w' => match e with | .returned v => next (a.put dst v) w' | _ => False) :
   Oper.wp P { dst := dst, op := .call { callee := .value f, args := args, argTypes := ts }, type := ty, pos := pos, after := after, guard := guard } a w next Q := by
 unfold rY at hc
 split at hc
 · rename_i fn hfn
   simp only [Bool.and_eq_true, bne_iff_ne, ne_eq] at hc
   obtain ⟨h1, h2⟩ := hc
   have hb : fn.body.isNone = false := by cases hq : fn.body <;> simp_all
   have hrun : (execOp a.eval { dst := dst, op := .call { callee := .value f, args := args, argTypes := ts }, type := ty, pos := pos, after := after, guard := guard }).run P w = .ok (.enter g (args.map a.eval ++ vcaps)) w := by
     have hb' : ¬ fn.body = none := fun h => by rw [h] at h2; cases h2
     simp [execOp, resolve, hf, Deferred.ofValue, invoke, callFunc, hfn, h1, hb']
   unfold Oper.wp
   rw [hrun, Oper.upon_enter]
   exact h.mono fun e w' hq => by
     cases e with
     | returned v => exact hq
     | panicked c => exact hq.elim
     | outgrown => exact hq.elim
 · cases hc
theorem ao5 {w : World} {I : Nat → Prop} {ρ : cC} {m : aH} (hS : SR P w I ρ m) {e : bI} {a : Act} (he : ER P w I ρ e a) {b : Builtin} {args : Array Operand} {ts : Array TypeId} {ty : TypeId} {out : bS} (h : qV P m ts ty (args.toList.map (opd e)) b = some out)
   (hfree : ∀ b, m.next ≤ b → b < out.m.next → ρ b = none) (consts : Array Bool) : eV P w I ρ m a ((builtin b ts ty consts (args.map a.eval)).run P w) out := by
 obtain ⟨args⟩ := args
 obtain ⟨ts⟩ := ts
 cases b <;> simp only [qV] at h <;> try (cases h; done)
 case append =>
   split at h
   · rename_i t t2 s x h2
     obtain ⟨o1, o2, ho⟩ : ∃ o1 o2, args = [o1, o2] := by
       match args, h2 with
       | [o1, o2], _ => exact ⟨o1, o2, rfl⟩
     subst ho
     simp only [List.map_cons, List.map_nil, List.cons.injEq, and_true] at h2
     obtain ⟨rfl, rfl⟩ := h2
     split at h
     · rename_i hn
       obtain ⟨el, hel, h⟩ := Option.bind_eq_some_iff.1 h
       have hd := aoh (ty := ty) (addr := undef) hS hel hn h hfree (dW he o1) (dW he o2)
       have em : Array.map a.eval ⟨[o1, o2]⟩ = #[a.eval o1, a.eval o2] := by simp
       rw [em]
       refine eV.of_does (s := Builtin.append_ #[t, t2] ty #[a.eval o1, a.eval o2]) hd (fun d y hw => ?_)
       unfold fX at h
       obtain ⟨_, _, h⟩ := Option.bind_eq_some_iff.1 h
       obtain ⟨_, _, h⟩ := Option.bind_eq_some_iff.1 h
       obtain ⟨_, _, h⟩ := Option.bind_eq_some_iff.1 h
       obtain ⟨_, _, h⟩ := Option.bind_eq_some_iff.1 h
       obtain ⟨_, _, h⟩ := Option.bind_eq_some_iff.1 h
       split at h
       · split at h
         · split at h
           · simp only [bK, Option.some.injEq] at h; subst h; cases hw
           · split at h
             · simp only [bK, Option.some.injEq] at h; subst h; cases hw
             · cases h
         · split at h
           · split at h
             · simp only [bK, Option.some.injEq] at h; subst h; cases hw
             · cases h
           · split at h
             · obtain ⟨_, _, h⟩ := Option.bind_eq_some_iff.1 h
               split at h
               · simp only [bK, Option.some.injEq] at h; subst h; cases hw
               · split at h
                 · simp only [bK, Option.some.injEq] at h; subst h; cases hw
                 · cases h
             · cases h
       · cases h
     · obtain ⟨el, hel, h⟩ := Option.bind_eq_some_iff.1 h
       split at h
       · rename_i hi
         obtain ⟨n, hn, h⟩ := Option.bind_eq_some_iff.1 h
         have hx : ∃ k, opd e o2 = .val (.int k n) := by
           unfold jB at hn
           split at hn
           · rename_i k z heq
             split at hn
             · rename_i hz
               simp only [Option.some.injEq] at hn
               exact ⟨k, by rw [heq, ← hn, Int.toNat_of_nonneg hz]⟩
             · cases hn
           · cases hn
         obtain ⟨k, hx⟩ := hx
         have hv2 : a.eval o2 = .int k n := by have := dW he o2; rw [hx] at this; simpa only [VR] using this
         have hd := aok (ty := ty) (addr := undef) (k := k) hS hel hi h hfree (dW he o1)
         have em : Array.map a.eval ⟨[o1, o2]⟩ = #[a.eval o1, .int k n] := by simp [hv2]
         rw [em]
         refine eV.of_does (s := Builtin.append_ #[t, t2] ty #[a.eval o1, .int k n]) hd (fun d y hw => ?_)
         unfold acD at h
         obtain ⟨_, _, h⟩ := Option.bind_eq_some_iff.1 h
         obtain ⟨_, _, h⟩ := Option.bind_eq_some_iff.1 h
         obtain ⟨_, _, h⟩ := Option.bind_eq_some_iff.1 h
         obtain ⟨_, _, h⟩ := Option.bind_eq_some_iff.1 h
         split at h
         · simp only [bK, Option.some.injEq] at h; subst h; cases hw
         · cases h
       · cases h
   · cases h
 case cap =>
   split at h
   · rename_i t x h2
     obtain ⟨o1, ho⟩ : ∃ o1, args = [o1] := by
       match args, h2 with
       | [o1], _ => exact ⟨o1, rfl⟩
     subst ho
     simp only [List.map_cons, List.map_nil, List.cons.injEq, and_true] at h2
     subst h2
     obtain ⟨el, hel, h⟩ := Option.bind_eq_some_iff.1 h
     obtain ⟨av, hav, rfl⟩ := Option.map_eq_some_iff.1 h
     have hd := aol (ty := ty) (addr := undef) hS hel hav (dW he o1)
     have em : Array.map a.eval ⟨[o1]⟩ = #[a.eval o1] := by simp
     rw [em]
     exact eV.of_does (s := Builtin.cap_ #[t] ty #[a.eval o1]) hd (fun d y hw => by cases hw)
   · cases h
 case clear =>
   split at h
   · rename_i t x h2
     obtain ⟨o1, ho⟩ : ∃ o1, args = [o1] := by
       match args, h2 with
       | [o1], _ => exact ⟨o1, rfl⟩
     subst ho
     simp only [List.map_cons, List.map_nil, List.cons.injEq, and_true] at h2
     subst h2
     obtain ⟨el, hel, h⟩ := Option.bind_eq_some_iff.1 h
     have hd := aom (ty := ty) (addr := undef) hS hel h (dW he o1)
     have em : Array.map a.eval ⟨[o1]⟩ = #[a.eval o1] := by simp
     rw [em]
     refine eV.of_does (s := Builtin.clear_ #[t] ty #[a.eval o1]) hd (fun d y hw => ?_)
     unfold acE at h
     split at h
     · simp only [bK, Option.some.injEq] at h; subst h; cases hw
     · simp only [bK, Option.some.injEq] at h; subst h; cases hw
     · split at h
       · simp only [bK, Option.some.injEq] at h; subst h; cases hw
       · obtain ⟨_, _, h⟩ := Option.bind_eq_some_iff.1 h
         obtain ⟨_, _, h⟩ := Option.bind_eq_some_iff.1 h
         obtain ⟨_, _, h⟩ := Option.bind_eq_some_iff.1 h
         split at h
         · simp only [bK, Option.some.injEq] at h; subst h; cases hw
         · cases h
     · cases h
   · cases h
 case copy =>
   split at h
   · rename_i t trest d x h2
     obtain ⟨o1, o2, ho⟩ : ∃ o1 o2, args = [o1, o2] := by
       match args, h2 with
       | [o1, o2], _ => exact ⟨o1, o2, rfl⟩
     subst ho
     simp only [List.map_cons, List.map_nil, List.cons.injEq, and_true] at h2
     obtain ⟨rfl, rfl⟩ := h2
     obtain ⟨el, hel, h⟩ := Option.bind_eq_some_iff.1 h
     have hd := aon (ts := trest) (ty := ty) (addr := undef) hS hel h (dW he o1) (dW he o2)
     have em : Array.map a.eval ⟨[o1, o2]⟩ = #[a.eval o1, a.eval o2] := by simp
     rw [em]
     refine eV.of_does (s := Builtin.copy_ (t :: trest).toArray ty #[a.eval o1, a.eval o2]) hd (fun d y hw => ?_)
     unfold o5 at h
     obtain ⟨_, _, h⟩ := Option.bind_eq_some_iff.1 h
     obtain ⟨_, _, h⟩ := Option.bind_eq_some_iff.1 h
     split at h
     · obtain ⟨_, _, h⟩ := Option.bind_eq_some_iff.1 h
       split at h
       · simp only [bK, Option.some.injEq] at h; subst h; cases hw
       · cases h
     · obtain ⟨_, _, h⟩ := Option.bind_eq_some_iff.1 h
       split at h
       · simp only [bK, Option.some.injEq] at h; subst h; cases hw
       · cases h
   · cases h
 case len =>
   split at h
   · rename_i t x h2
     obtain ⟨o1, ho⟩ : ∃ o1, args = [o1] := by
       match args, h2 with
       | [o1], _ => exact ⟨o1, rfl⟩
     subst ho
     simp only [List.map_cons, List.map_nil, List.cons.injEq, and_true] at h2
     subst h2
     have := eV.of_pur (a := a) (s := Builtin.len_ #[t] ty #[a.eval o1]) hS h fun av hav => aoq hav (dW he o1)
     have em : Array.map a.eval ⟨[o1]⟩ = #[a.eval o1] := by simp
     rw [em]
     exact this
   · cases h
 case max =>
   obtain ⟨vs, hvs, h⟩ := Option.bind_eq_some_iff.1 h
   have hq := acJ (P := P) (w := w) (I := I) (ρ := ρ) _ vs (fun j => (args.map a.eval)[j]?) hvs (j9.2 fun j c hj => by
     rw [List.getElem?_map] at hj
     obtain ⟨x, hx, rfl⟩ := Option.map_eq_some_iff.1 hj
     exact ⟨a.eval x, by simp [hx], dW he x⟩)
   have hvl : vs = args.map a.eval := by
     apply List.ext_getElem?
     intro j
     rcases Nat.lt_or_ge j args.length with hl | hl
     · rw [← hq.2 j (by simpa using hl)]
     · rw [List.getElem?_eq_none (by rw [hq.1]; simpa using hl), List.getElem?_eq_none (by simpa using hl)]
   have := eV.of_pur (a := a) (s := Builtin.max_ ⟨ts⟩ ty vs.toArray) hS h fun av hav => by
     obtain ⟨z, hz, rfl⟩ := Option.map_eq_some_iff.1 hav
     exact ⟨z, qX P _ _ hz w, by simp only [VR]⟩
   rw [hvl] at this
   have e : (List.map a.eval args).toArray = Array.map a.eval ⟨args⟩ := by simp
   rw [e] at this
   exact this
 case min =>
   obtain ⟨vs, hvs, h⟩ := Option.bind_eq_some_iff.1 h
   have hq := acJ (P := P) (w := w) (I := I) (ρ := ρ) _ vs (fun j => (args.map a.eval)[j]?) hvs (j9.2 fun j c hj => by
     rw [List.getElem?_map] at hj
     obtain ⟨x, hx, rfl⟩ := Option.map_eq_some_iff.1 hj
     exact ⟨a.eval x, by simp [hx], dW he x⟩)
   have hvl : vs = args.map a.eval := by
     apply List.ext_getElem?
     intro j
     rcases Nat.lt_or_ge j args.length with hl | hl
     · rw [← hq.2 j (by simpa using hl)]
     · rw [List.getElem?_eq_none (by rw [hq.1]; simpa using hl), List.getElem?_eq_none (by simpa using hl)]
   have := eV.of_pur (a := a) (s := Builtin.min_ ⟨ts⟩ ty vs.toArray) hS h fun av hav => by
     obtain ⟨z, hz, rfl⟩ := Option.map_eq_some_iff.1 hav
     exact ⟨z, qX P _ _ hz w, by simp only [VR]⟩
   rw [hvl] at this
   have e : (List.map a.eval args).toArray = Array.map a.eval ⟨args⟩ := by simp
   rw [e] at this
   exact this
theorem abr {w : World} {I : Nat → Prop} {ρ : cC} {m : aH} (hS : SR P w I ρ m) {d once : Bool} {e : bI} {a : Act} (he : ER P w I ρ e a) {o : Oper} {K : bS → Prop} (h : cD P d once e m o.type K o.op) (hfree : ∀ b, m.next ≤ b → ρ b = none)
   {next : Act → World → Prop} {Q : Exit → Act → World → Prop} (hg : ah0 P w I ρ m a o K next) : o.wp P a w next Q := by
 have plain : eL (cW P once e m o.op) K → o.wp P a w next Q := by
   intro h
   unfold eL at h
   split at h
   · rename_i out ho
     exact q8 (aot hS he ho (fun b h1 _ => hfree b h1)) h hfree hg
   · exact h.elim
 obtain ⟨dst, op, type, pos, after, guard⟩ := o
 cases op <;> try (exact plain h)
 case lookup t x k ok =>
   cases ok with
   | true => exact plain h
   | false =>
     simp only [cD] at h
     unfold eL at h
     split at h
     · rename_i out ho
       refine q8 ?_ h hfree hg
       exact eV.of_pur hS ho fun av hav => aoR hS hav (dW he x) (dW he k)
     · exact h.elim
 case entry x =>
   simp only [cD] at h
   unfold eL at h
   split at h
   · rename_i out ho
     refine q8 ?_ h hfree hg
     exact eV.of_pur hS ho fun av hav => aoG hS hav (dW he x)
   · exact h.elim
 case mapUpdate t x k v =>
   simp only [cD] at h
   unfold eL at h
   split at h
   · rename_i out ho
     refine q8 ?_ h hfree hg
     obtain ⟨y, w', I', ρ', h1, h2, h3, h4, h5⟩ := aoS hS ho (dW he x) (dW he k) (dW he v) undef
     refine ⟨undef, w', I', ρ', .inr ⟨by simp [execOp, h1], rfl⟩, h2, h3, h4, fun d y hw => ?_⟩
     have : out.wb = none := by
       exact aoT ho
     rw [this] at hw; cases hw
   · exact h.elim
 case makeMap t r =>
   cases r with
   | some r => exact plain h
   | none =>
     simp only [cD] at h
     obtain ⟨out, hK, hwb, hd⟩ := aoH (t := t) hS h.2 undef
     exact q8 (eV.of_does hd (fun d y hw => by rw [hwb] at hw; cases hw)) hK hfree hg
 case range t x =>
   simp only [cD] at h
   obtain ⟨out, hK, hwb, hd⟩ := aoI hS h.2 (dW he x) undef
   exact q8 (eV.of_does hd (fun d y hw => by rw [hwb] at hw; cases hw)) hK hfree hg
 case next x ok =>
   cases ok with
   | true => exact plain h
   | false =>
     simp only [cD] at h
     obtain ⟨out, hK, hwb, hd⟩ := aoJ (ty := type) hS h.2 (dW he x) undef
     exact q8 (eV.of_does hd (fun d y hw => by rw [hwb] at hw; cases hw)) hK hfree hg
 case buildSlice t len parts =>
   simp only [cD] at h
   have bT : ∀ out, fV P m t len (parts.toList.map fun p => (p.1, opd e p.2)) = some out → (∀ b, m.next ≤ b → ρ b = none) → eV P w I ρ m a ((execOp a.eval ⟨dst, .buildSlice t len parts, type, pos, after, guard⟩).run P w) out := by
     intro out ho hfree
     have := aoU hS ho (fun b h1 _ => hfree b h1) (acP (e := e) (a := a) parts) (acQ he parts) undef
     rw [← acR] at this
     refine eV.of_does this (fun d y hw => ?_)
     unfold fV at ho
     obtain ⟨_, _, ho⟩ := Option.bind_eq_some_iff.1 ho
     obtain ⟨_, _, ho⟩ := Option.bind_eq_some_iff.1 ho
     obtain ⟨_, _, ho⟩ := Option.bind_eq_some_iff.1 ho
     split at ho
     · obtain ⟨_, _, ho⟩ := Option.bind_eq_some_iff.1 ho
       split at ho
       · cases ho
       simp only [bK, Option.some.injEq] at ho; subst ho; cases hw
     · cases ho
   have bF : ∀ out, vR P m t len (parts.toList.map fun p => (p.1, opd e p.2)) = some out → (∀ b, m.next ≤ b → ρ b = none) → eV P w I ρ m a ((execOp a.eval ⟨dst, .buildSlice t len parts, type, pos, after, guard⟩).run P w) out := by
     intro out ho hfree
     have := aoV hS ho (fun b h1 _ => hfree b h1) (acP (e := e) (a := a) parts) (acQ he parts) undef
     rw [← acR] at this
     refine eV.of_does this (fun d y hw => ?_)
     unfold vR at ho
     obtain ⟨_, _, ho⟩ := Option.bind_eq_some_iff.1 ho
     obtain ⟨_, _, ho⟩ := Option.bind_eq_some_iff.1 ho
     obtain ⟨_, _, ho⟩ := Option.bind_eq_some_iff.1 ho
     split at ho
     · obtain ⟨_, _, ho⟩ := Option.bind_eq_some_iff.1 ho
       obtain ⟨_, _, ho⟩ := Option.bind_eq_some_iff.1 ho
       simp only [bK, Option.some.injEq] at ho; subst ho; cases hw
     · cases ho
   unfold sB at h
   split at h
   · unfold eL at h
     split at h
     · rename_i out ho
       exact q8 (bT out ho hfree) h hfree hg
     · exact h.elim
   · unfold eL ac0 at h
     split at h
     · rename_i out ho
       split at ho
       · rename_i o hq
         cases ho
         exact q8 (bT _ hq hfree) h hfree hg
       · exact q8 (bF out ho hfree) h hfree hg
     · exact h.elim
   · exact plain h
 case convert src dst x =>
   simp only [cD] at h
   unfold eL at h
   split at h
   · rename_i out ho
     refine q8 ?_ h hfree hg
     have := aoW (addr := undef) hS (ahT ho) (fun b h1 _ => hfree b h1) (dW he x)
     exact eV.of_does this (fun d y hw => by rw [aoX (ahT ho)] at hw; cases hw)
   · exact h.elim
 case slice t x lo hi mx =>
   simp only [cD] at h
   refine plain ?_
   unfold eL at h
   split at h
   · rename_i out ho
     have hq := aoZ ho
     unfold abp at hq
     simp only [cW, hq]
     exact h
   · exact h.elim
 case load t x =>
   simp only [cD] at h
   refine plain ?_
   unfold eL at h
   split at h
   · rename_i out ho
     obtain ⟨av, hav, rfl⟩ := Option.map_eq_some_iff.1 ho
     simp only [cW, aoY hav]
     exact h
   · exact h.elim
 case call c =>
   obtain ⟨callee, args, ts⟩ := c
   cases callee with
   | invoke r n => exact h.elim
   | builtin b =>
     simp only [cD] at h
     unfold eL at h
     split at h
     · rename_i out ho
       refine q8 ?_ h hfree hg
       simp only [execOp, resolve, pure_bind, invoke]
       exact ao5 hS he ho (fun b h1 _ => hfree b h1) _
     · exact h.elim
   | value f =>
     simp only [cD] at h
     have hfv := dW he f
     unfold mV at h
     split at h
     · rename_i g caps hcl
       have h := ao2 h
       rw [hcl] at hfv
       simp only [VR] at hfv
       obtain ⟨vcaps, hf, hcs, hcv⟩ := hfv
       obtain ⟨hsz, hargs⟩ := ao4 he args hcv hcs
       have closed : ∀ (I1 : Nat → Prop) (m1 : aH) (args' : List AV) (r : iO), SR P w I1 ρ m1 → cM w I ρ m w I1 ρ m1 → (args.map a.eval ++ vcaps).size = args'.length → bH P w I1 dG args' (fun j => (args.map a.eval ++ vcaps)[j]?) → aY P g args' r → K ⟨shift m1.next r.v, eB P m1 r.rows, none⟩ →
           Oper.wp P { dst := dst, op := .call { callee := .value f, args := args, argTypes := ts }, type := type, pos := pos, after := after, guard := guard } a w next Q := by
         intro I1 m1 args' r hS1 hst1 hsz1 hargs1 h2 h4
         have hfree1 := ac2 hst1 hfree
         refine ae6 hf h2.1 ?_
         refine (h2.2 w I1 _ hS1.lt hsz1 hargs1).mono ?_
         rintro en w' ⟨v, I', ρ', rfl, q1, q2, q3⟩
         have hnoWr : ∀ g, ¬ Wr dG aH.empty g := by
           rintro g (⟨b, k, o, h1, _⟩ | h1)
           · simp [aH.empty] at h1
           · exact vI h1
         have hback : ∀ g, I' g → I1 g ∨ w.heap.size ≤ g := fun g hg => by
           rcases q3.back g hg with h | h | h
           · exact .inl h
           · exact absurd h (hnoWr g)
           · exact .inr h
         obtain ⟨I'', i1, i2, i3⟩ := ahB hS1 (fun _ h => h) (fun b hb _ => hfree1 b hb) q2 q3 (.inl hback)
         refine hg _ v w' I'' _ h4 ?_ i2 (hst1.trans i3) (fun d y h => by cases h) (ac2 i3 hfree1)
         have hk : ∀ b x, ρ' b = some x → b < r.rows.length := fun b x h => by
           have := q3.lo b rfl (by rw [h]; simp)
           rw [xU] at this
           simp [aH.empty] at this
           exact this
         refine o6 (⟨fun g hg => (i1 g).2 ((hback g hg).imp id fun h => ⟨hg, h⟩), fun _ _ => rfl, fun _ _ h => h⟩ : g9 w' w' I' I'') (fun _ _ h => h) _ _ (aeW hk r.v v q1)
       have h : ahX P g (args.toList.map (opd e) ++ caps) m K ∨ ahW P g (args.toList.map (opd e) ++ caps) m K ∨ ahU P g (args.toList.map (opd e) ++ caps) m K ∨ ahV P g (args.toList.map (opd e) ++ caps) m K := by
         rcases h with h | ⟨_, h⟩ | ⟨r, m', h1, h2⟩ | h | h
         rotate_left 3
         · exact .inl h
         · exact .inr (.inl h)
         all_goals refine .inr (.inr ?_)
         · exact .inl h
         · exact .inr h
         · refine .inr ⟨h1.1, fun w I ρ vs a1 a2 a3 a4 => (h1.2 w I ρ vs a1 a2 a3 a4).mono ?_⟩
           rintro en w' ⟨v, r', m1, I', ρ', q0, ⟨q1, q2⟩, q3⟩
           subst q1
           subst q2
           exact ⟨v, _, _, I', ρ', q0, h2, q3⟩
       rcases h with ⟨r, h1, h2⟩ | ⟨args', m1, r, h1, h2, h3⟩ | ⟨args', r, h1, h2, h3, h4⟩ | h
       · -- at once
         obtain ⟨v, hrun, hv⟩ := h1 w I ρ _ hS hsz hargs
         unfold Oper.wp
         have : (execOp a.eval { dst := dst, op := .call { callee := .value f, args := args, argTypes := ts }, type := type, pos := pos, after := after, guard := guard }).run P w = .ok (.value v) w := by
           simp [execOp, resolve, hf, Deferred.ofValue, invoke, hrun]
         rw [this, Oper.upon_value]
         exact hg _ v w I ρ h2 hv hS (cM.refl _ _ _ _) (fun d y h => by cases h) hfree
       · -- frozen
         obtain ⟨I1, a1, b1, c1, d1, d2, d3⟩ := vL _ m m1 I args' _ h1 hS hargs
         exact closed I1 m1 args' r a1 b1 (by rw [hsz, d2]) d1 h2 h3
       · -- closed
         rcases h3 with h3 | h3
         · have hargs' := xS _ _ h3 hargs
           have e1 := acT 3 _ _ h3 h1
           subst e1
           exact closed I m _ r hS (cM.refl _ _ _ _) hsz hargs' h2 h4
         · have hargs' := zO hS 3 _ _ _ h1 hargs
           simp only [iO.apart, Bool.and_eq_true, List.all_eq_true] at h3
           obtain ⟨h3, h5⟩ := h3
           refine ae6 hf h2.1 ?_
           refine (h2.2 w (qZ w) _ (fun _ h => h) (by rw [hsz, ao3 h1]) hargs').mono ?_
           rintro en w' ⟨v, I', ρ', rfl, q1, q2, q3⟩
           obtain ⟨I'', i1, i2, i3⟩ := ahB hS (fun g hg => hS.lt g hg) (fun b hb _ => hfree b hb) q2 q3 (.inr h5)
           refine hg _ v w' I'' _ h4 ?_ i2 i3 (fun d y h => by cases h) (ac2 i3 hfree)
           have hk : ∀ b x, ρ' b = some x → b < r.rows.length := fun b x h => by
             have := q3.lo b rfl (by rw [h]; simp)
             rw [xU] at this
             simp [aH.empty] at this
             exact this
           exact aeW hk r.v v (ahA r.v v h3 q1)
       · -- open
         refine ae6 hf h.1 ?_
         refine (h.2 w I ρ _ hS hsz hargs hfree).mono ?_
         rintro en w' ⟨v, r, m', I', ρ', rfl, q0, q1, q2, q3, q4⟩
         exact hg _ v w' I' ρ' q0 q1 q2 q3 (fun d y h => by cases h) q4
     · exact h.elim
end
structure kQ (P:Program) (w0:World) (I0:Nat→Prop) (ρ0:cC) (m0:aH) (n:Nat) (D:List Deferred) (e:bI) (m:aH) (a:Act) (w:World) (I:Nat→Prop) (ρ:cC):Prop where
 er:ER P w I ρ e a
 sr:SR P w I ρ m
 free:∀ b,m.next≤b→ρ b=none
 step:cM w0 I0 ρ0 m0 w I ρ m
 size:a.tmps.size=n
 defers:a.defers=D
section
variable {P:Program} {w0:World} {I0:Nat→Prop} {ρ0:cC} {m0:aH} {n:Nat} {D:List Deferred}
theorem ae7 (a:Act) (d:Option Tmp) (v:Value):(a.put d v).tmps.size=a.tmps.size:=by cases d <;> simp [Act.put]
theorem ae8 (a:Act) (d:Option Tmp) (v:Value):(a.put d v).defers=a.defers:=by cases d <;> rfl
theorem kQ.next {e : bI} {m : aH} {a : Act} {w : World} {I : Nat → Prop} {ρ : cC} (h : kQ P w0 I0 ρ0 m0 n D e m a w I ρ) {o : Oper} (hd : ∀ d, o.dst = some d → d < n) {out : bS} {v : Value} {w' : World} {I' : Nat → Prop} {ρ' : cC}
   (h2 : VR P w' I' ρ' out.v v) (h3 : SR P w' I' ρ' out.m) (h4 : cM w I ρ m w' I' ρ' out.m) (h5 : ∀ d y, out.wb = some (d, y) → VR P w' I' ρ' y (a.tmps.getD d undef)) (h6 : ∀ b, out.m.next ≤ b → ρ' b = none) :
   kQ P w0 I0 ρ0 m0 n D ((sC e out.wb).put o.dst out.v) out.m (a.put o.dst v) w' I' ρ' where
 er := by
   have h7 : ER P w' I' ρ' (sC e out.wb) a := by
     have h8 := aez h4 h.sr h.er
     cases hw : out.wb with
     | none => exact h8
     | some x =>
       obtain ⟨d, y⟩ := x
       intro t
       simp only [sC, bI.set]
       split
       · rename_i ht; subst ht; exact h5 _ y hw
       · exact h8 t
   exact aeA h7 (fun t ht => by rw [h.size]; exact hd t ht) h2
 sr := h3
 free := h6
 step := h.step.trans h4
 size := by rw [ae7]; exact h.size
 defers := by rw [ae8]; exact h.defers
theorem ac3 {ops:Array Oper} (h:zY n ops=true) {i:Nat} {o:Oper} (ho:ops[i]? = some o):∀ d,o.dst=some d→d < n:=by
 intro d hd
 unfold zY at h
 obtain ⟨hi,rfl⟩:=Array.getElem?_eq_some_iff.1 ho
 have:=Array.all_eq_true.1 h i hi
 rw [hd] at this
 simpa using this
theorem ae9 {once : Nat → Bool} {ops : Array Oper} (hr : zY n ops = true) {Q : bI → aH → Prop} {Q' : Exit → Act → World → Prop} (hQ : ∀ e m a w I ρ, Q e m → kQ P w0 I0 ρ0 m0 n D e m a w I ρ → Q' .normal a w) :
   ∀ (l : List Oper) (i : Nat) (e : bI) (m : aH) (a : Act) (w : World) (I : Nat → Prop) (ρ : cC), ops.toList.drop i = l → iA P once false ops Q l e m → kQ P w0 I0 ρ0 m0 n D e m a w I ρ → wpOps P ops Q' (List.range' i l.length) a w
 | [], i, e, m, a, w, I, ρ, hl, h, hR => by
   simp only [iA] at h
   simp only [List.length_nil, List.range'_zero, wpOps]
   exact hQ e m a w I ρ h hR
 | o :: rest, i, e, m, a, w, I, ρ, hl, h, hR => by
   have ho : ops[i]? = some o := by
     have : (ops.toList.drop i)[0]? = some o := by rw [hl]; rfl
     rw [List.getElem?_drop] at this
     simpa using this
   have hl' : ops.toList.drop (i + 1) = rest := by
     rw [← List.drop_drop, hl]; rfl
   simp only [iA] at h
   rw [List.length_cons, List.range'_succ]
   simp only [wpOps, ho]
   rw [ahZ hR.er o]
   split at h
   · rename_i hw
     rw [if_pos hw]
     refine .inl (abr hR.sr hR.er h hR.free ?_)
     intro out v w' I' ρ' hK h2 h3 h4 h5 h6
     exact ae9 hr hQ rest (i + 1) _ _ _ _ _ _ hl' hK.2 (hR.next (ac3 hr ho) h2 h3 h4 h5 h6)
   · rename_i hw
     rw [if_neg hw]
     refine ae9 hr hQ rest (i + 1) _ _ _ _ I ρ hl' h ⟨aeA hR.er (fun t ht => by rw [hR.size]; exact ac3 hr ho t ht) (by simp only [eI, undef, VR]), hR.sr, hR.free, hR.step, by rw [ae7]; exact hR.size, by rw [ae8]; exact hR.defers⟩
def kS (ops:Array Oper) (i:Nat):Option Nat:=(ops[i]?).bind (·.dst)
def afa (ops:Array Oper):Bool :=
 (List.range ops.size).all fun i=>match ops[i]? with
  | none=>true
  | some o=>(sE o).all (fun b=>decide (b < i)) && (kB ops).getD i 0 == just (kB ops) (sE o) &&
   (List.range ops.size).all fun j=>match kS ops j with
    | none=>true
    | some t=>(j == i || o.dst != some t) && (!(o.looksAt ops).contains t || j == i || (match decide (j < i) with | true=>bef (kB ops) j i | false=>bef (kB ops) i j))
end
section
variable {P:Program}
theorem uE {r:Option bS} {K:bS→Prop} (h:eL r K):∃ out,r=some out∧K out:=by
 unfold eL at h
 split at h
 ·rename_i o;exact ⟨o,rfl,h⟩
 ·exact h.elim
theorem ao6 {c:Bool} {e:bI} {m:aH} {ty:TypeId} {K:bS→Prop} {op:Op} (h:cD P true c e m ty K op):∃ out,K out∧cD P true c e m ty (fun x=>x=out) op:=by
 have pl:eL (cW P c e m op) K→∃ out,K out∧eL (cW P c e m op) (fun x=>x=out):=by
  intro h
  obtain ⟨out,h1,h2⟩:=uE h
  exact ⟨out,h2,by rw [h1];rfl⟩
 cases op <;> try (exact pl h)
 case lookup t x k ok =>
  cases ok with
  | true=>exact pl h
  | false =>
   simp only [cD] at h ⊢
   obtain ⟨out,h1,h2⟩:=uE h
   exact ⟨out,h2,by rw [h1];rfl⟩
 case entry x =>
  simp only [cD] at h ⊢
  obtain ⟨out,h1,h2⟩:=uE h
  exact ⟨out,h2,by rw [h1];rfl⟩
 case mapUpdate t x k v =>
  simp only [cD] at h ⊢
  obtain ⟨out,h1,h2⟩:=uE h
  exact ⟨out,h2,by rw [h1];rfl⟩
 case makeMap t r =>
  cases r with
  | some r=>exact pl h
  | none=>cases h.1
 case range t x=>cases h.1
 case next x ok =>
  cases ok with
  | true=>exact pl h
  | false=>cases h.1
 case buildSlice t len parts =>
  simp only [cD] at h ⊢
  obtain ⟨out,h1,h2⟩:=uE h
  exact ⟨out,h2,by rw [h1];rfl⟩
 case slice t x lo hi mx =>
  simp only [cD] at h ⊢
  obtain ⟨out,h1,h2⟩:=uE h
  exact ⟨out,h2,by rw [h1];rfl⟩
 case load t x =>
  simp only [cD] at h ⊢
  obtain ⟨out,h1,h2⟩:=uE h
  exact ⟨out,h2,by rw [h1];rfl⟩
 case convert src dst x =>
  simp only [cD] at h ⊢
  obtain ⟨out,h1,h2⟩:=uE h
  exact ⟨out,h2,by rw [h1];rfl⟩
 case call c =>
  obtain ⟨callee,args,ts⟩:=c
  cases callee with
  | invoke r n=>exact h.elim
  | builtin b =>
   simp only [cD] at h ⊢
   obtain ⟨out,h1,h2⟩:=uE h
   exact ⟨out,h2,by rw [h1];rfl⟩
  | value f =>
   simp only [cD] at h ⊢
   unfold mV at h
   split at h
   ·rename_i g caps hcl
    cases c with
    | true =>
     obtain ⟨r,h1,h2,h3,h4,h5,h6⟩:=h
     refine ⟨_,h6, ?_⟩
     simp only [hcl,mV]
     exact ⟨r,h1,h2,h3,h4,h5,rfl⟩
    | false =>
    simp only [Bool.false_and] at h
    rcases h with ⟨args',r,h1,h2,h3,h4⟩ | ⟨h,_⟩ | ⟨r,m',h1,h2⟩ | ⟨r,h1,h2⟩ | ⟨args',m1,r,h1,h2,h3⟩
    ·refine ⟨_,h4, ?_⟩
     simp only [hcl,mV]
     exact .inl ⟨args',r,h1,h2,h3,rfl⟩
    ·cases h
    ·refine ⟨_,h2, ?_⟩
     simp only [hcl,mV]
     exact .inr (.inr (.inl ⟨r,m',h1,rfl⟩))
    ·refine ⟨_,h2, ?_⟩
     simp only [hcl,mV]
     exact .inr (.inr (.inr (.inl ⟨r,h1,rfl⟩)))
    ·refine ⟨_,h3, ?_⟩
     simp only [hcl,mV]
     exact .inr (.inr (.inr (.inr ⟨args',m1,r,h1,h2,rfl⟩)))
   ·exact h.elim
theorem ao7 {e e':bI} {x:Operand} (h:∀ t,x = .tmp t→e' t=e t):opd e' x=opd e x:=by
 cases x with
 | tmp t=>exact h t rfl
 | const v=>rfl
 | global g=>rfl
 | func f=>rfl
theorem afb {e e':bI} {l:List Operand} (h:∀ x∈l,opd e' x=opd e x):l.map (opd e')=l.map (opd e):=List.map_congr_left h
theorem ah1 {e e':bI} {l:List (Nat×Operand)} (h:∀ x∈l.map (·.2),opd e' x=opd e x):l.map (fun p=>(p.1,opd e' p.2))=l.map (fun p=>(p.1,opd e p.2)) :=
 List.map_congr_left fun p hp=>by rw [h p.2 (List.mem_map_of_mem hp)]
theorem afc {e e':bI} {o:Option Operand} (h:∀ x,o=some x→opd e' x=opd e x):o.map (opd e')=o.map (opd e):=by
 cases o with
 | none=>rfl
 | some x=>simp [h x rfl]
theorem afd {d c:Bool} {e e':bI} {m:aH} {ty:TypeId} {K:bS→Prop} {op:Op} (h:∀ x∈op.operands.toList,opd e' x=opd e x) (hs:cD P d c e m ty K op):cD P d c e' m ty K op:=by
 cases op <;> simp only [Op.operands,Call.operands] at h <;> simp only [cD,cW] at hs ⊢
 case lookup t x k ok =>
  cases ok <;> simp only [cD,cW] at hs ⊢
  ·rw [h x (by simp),h k (by simp)];exact hs
  ·exact hs
 case makeMap t r =>
  cases r <;> simp only [cD,cW] at hs ⊢ <;> exact hs
 case next x ok =>
  cases ok <;> simp only [cD,cW] at hs ⊢
  ·rw [h x (by simp)];exact hs
  ·exact hs
 case call cl =>
  obtain ⟨callee,args,ts⟩:=cl
  cases callee with
  | invoke r n=>exact hs.elim
  | builtin b =>
   simp only [cD] at hs ⊢
   rw [afb (fun x hx=>h x (by simpa using hx))]
   exact hs
  | value f =>
   simp only [cD] at hs ⊢
   rw [afb (fun x hx=>h x (by simp at hx ⊢;exact .inr hx)),h f (by simp)]
   exact hs
 case build t parts=>rw [ah1 (fun x hx=>h x (by simpa using hx))];exact hs
 case buildSlice t n parts=>rw [ah1 (fun x hx=>h x (by simpa using hx))];exact hs
 case slice t x l hi mx =>
  rw [h x (by simp),afc (fun y hy=>h y (by subst hy;simp)),afc (o:=hi) (fun y hy=>h y (by subst hy;simp)),afc (o:=mx) (fun y hy=>h y (by subst hy;simp))]
  exact hs
 case makeFunc fn first caps =>
  cases fn <;> simp only [cW] at hs ⊢
  case func f =>
   rw [afb (fun x hx=>h x (by simp at hx ⊢;exact .inr hx))]
   exact hs
  all_goals exact hs
 all_goals first
  | exact hs
  | (simp at h;simp only [h];exact hs)
theorem ah2 {c:Bool} {e:bI} {m m':aH} {ty:TypeId} {op:Op} {out:bS} (hp:zW c op=true) (h:cD P true c e m ty (fun x=>x=out) op):out.m=m∧cD P true c e m' ty (fun x=>x=⟨out.v,m',none⟩) op:=by
 have po:∀ x:Option AV,eL (eR x m) (fun x=>x=out)→out.m=m∧eL (eR x m') (fun y=>y=⟨out.v,m',none⟩):=by
  intro x h
  cases x with
  | none=>exact h.elim
  | some v=>have h:(⟨v,m,none⟩:bS)=out:=h;subst h;exact ⟨rfl,rfl⟩
 have pi:∀ (i:Option Nat) (f:Nat→Option AV),eL (i.bind fun k=>eR (f k) m) (fun x=>x=out)→out.m=m∧eL (i.bind fun k=>eR (f k) m') (fun y=>y=⟨out.v,m',none⟩):=by
  intro i f h
  cases i with
  | none=>exact h.elim
  | some k=>exact po _ h
 cases op <;> simp only [zW,Bool.false_eq_true] at hp <;> simp only [cD,cW] at h ⊢
 case call cl =>
  obtain ⟨callee,args,ts⟩:=cl
  cases callee with
  | invoke r n=>cases hp
  | value f =>
   subst hp
   simp only [cD] at h ⊢
   unfold mV at h ⊢
   split at h
   ·obtain ⟨r,h1,h2,h3,h4,h5,h6⟩:=h
    subst h6
    exact ⟨rfl,r,h1,h2,h3,h4,h5,rfl⟩
   ·exact h.elim
  | builtin b =>
   simp only [cD] at h ⊢
   cases b <;> simp only [Bool.false_eq_true] at hp <;> simp only [qV] at h ⊢
   case len =>
    split at h
    ·exact po _ h
    ·exact h.elim
   case max =>
    cases hv:p9 (args.toList.map (opd e)) with
    | none=>rw [hv] at h;exact h.elim
    | some vs=>rw [hv] at h ;exact po _ h
   case min =>
    cases hv:p9 (args.toList.map (opd e)) with
    | none=>rw [hv] at h;exact h.elim
    | some vs=>rw [hv] at h ;exact po _ h
 case slice t x lo hi mx =>
  subst hp
  unfold sliceX at h ⊢
  simp only [Bool.and_self] at h ⊢
  split at h
  ·exact h.elim
  ·rename_i hx
   have hok:∀ m,slOk P m t (opd e x)=true:=fun m=>by
    generalize opd e x=y at hx
    cases y with
    | sl _ _ _ _ _=>exact absurd rfl (hx _ _ _ _ _)
    | _=>rfl
   unfold abp at h ⊢
   rw [hok m,if_pos rfl] at h
   rw [hok m',if_pos rfl]
   have h:=h
   have pn:∀ (i j l:Option Nat) (f:Nat→Nat→Nat→Option AV),True:=fun _ _ _ _=>trivial
   generalize a8 (lo.map (opd e))=a at *
   generalize a8 (hi.map (opd e))=b at *
   generalize a8 (mx.map (opd e))=c at *
   cases a with
   | none=>exact h.elim
   | some a =>
    cases b with
    | none=>exact h.elim
    | some b =>
     cases c with
     | none=>exact h.elim
     | some c=>exact po _ h
 case load t x =>
  subst hp
  unfold sA at h ⊢
  simp only [Bool.and_self] at h ⊢
  split at h
  ·exact po _ h
  ·exact h.elim
 case convert src dst x =>
  subst hp
  unfold mU at h ⊢
  simp only [Bool.and_self] at h ⊢
  split at h
  ·exact h.elim
  ·rename_i hx
   unfold mF lG at h ⊢
   cases hel:bZ P dst with
   | some el =>
    simp only [hel] at h ⊢
    split at h
    ·rename_i el' s h1 h2
     cases h1
     split at h
     ·rename_i hc
      rw [if_pos hc]
      exact po (some _) h
     ·exact h.elim
    ·rename_i h3
     split at h
     ·rename_i s h4;exact absurd h4 (h3 _ _ rfl rfl)
     ·exact h.elim
   | none =>
    simp only [hel] at h ⊢
    split at h
    ·rename_i el h1 h2
     split at h
     ·rename_i hu
      have hsv:d6 .flat m' (opd e x)=d6 .flat m (opd e x):=by
       generalize opd e x=y at hx
       cases y with
       | sl _ _ _ _ _=>exact absurd rfl (hx _ _ _ _ _)
       | val v=>cases v with
        | slice a l c=>cases a <;> cases l <;> cases c <;> rfl
        | _=>rfl
       | _=>rfl
      rw [if_pos hu,hsv]
      cases hs:d6 .flat m (opd e x) with
      | none=>rw [hs] at h;exact h.elim
      | some r =>
       rw [hs] at h
       simp only [Option.bind_some] at h ⊢
       split at h
       ·rename_i hl
        rw [if_pos hl]
        cases hb:bytesOf (r.1.take r.2.1) with
        | none=>rw [hb] at h;exact h.elim
        | some bs =>
         rw [hb] at h
         exact po (some _) h
       ·exact h.elim
     ·exact h.elim
    ·rename_i h1
     split at h
     ·exact po _ h
     ·exact h.elim
 case buildSlice t len parts =>
  subst hp
  unfold sB fV at h ⊢
  simp only at h ⊢
  cases h1:bZ P t with
  | none=>rw [h1] at h;exact h.elim
  | some el =>
   rw [h1] at h
   simp only [Option.bind_some] at h ⊢
   cases h2:cG P el with
   | none=>rw [h2] at h;exact h.elim
   | some n =>
    rw [h2] at h
    simp only [Option.bind_some] at h ⊢
    cases h3:iW P el len with
    | none=>rw [h3] at h;exact h.elim
    | some z =>
     rw [h3] at h
     simp only [Option.bind_some] at h ⊢
     split at h
     ·rename_i h5
      rw [if_pos h5]
      cases h4:fU (fun i=>some (i*n,n)) z (parts.toList.map fun p=>(p.1,opd e p.2)) with
      | none=>rw [h4] at h;exact h.elim
      | some cs =>
       rw [h4] at h
       simp only [Option.bind_some] at h ⊢
       split at h
       ·exact h.elim
       ·rename_i h6
        rw [if_neg h6]
        exact po (some _) h
     ·exact h.elim
 all_goals first
  | exact po (some _) h
  | exact po _ h
  | exact pi _ _ h
theorem ao8 {ms bs:List Nat} {j:Nat} (h:(just ms bs).testBit j=true):∃ b∈bs,b=j∨(ms.getD b 0).testBit j=true:=by
 have go:∀ (bs:List Nat) (x:Nat),(bs.foldl (fun x b=>x ||| (2 ^ b ||| ms.getD b 0)) x).testBit j=true→x.testBit j=true∨∃ b∈bs,b=j∨(ms.getD b 0).testBit j=true:=by
  intro bs
  induction bs with
  | nil=>intro x h;exact .inl h
  | cons b bs ih =>
   intro x h
   rcases ih _ h with h | ⟨b',h1,h2⟩
   ·rw [Nat.testBit_or,Nat.testBit_or,Nat.testBit_two_pow,Bool.or_eq_true,Bool.or_eq_true,decide_eq_true_eq] at h
    rcases h with h | h
    ·exact .inl h
    ·exact .inr ⟨b,by simp,h⟩
   ·exact .inr ⟨b',by simp [h1],h2⟩
 rcases go bs 0 h with h | h
 ·simp at h
 ·exact h
structure abs (ops:Array Oper):Prop where
 lt:∀ i o,ops[i]? = some o→∀ b∈sE o,b < i
 bit:∀ i o,ops[i]? = some o→∀ j,bef (kB ops) j i=true→∃ b∈sE o,b=j∨bef (kB ops) j b=true
 dst:∀ i j t,kS ops i=some t→kS ops j=some t→i=j
 look:∀ i j o t,ops[i]? = some o→t∈o.looksAt ops→kS ops j=some t→j≠i→(j < i→bef (kB ops) j i=true)∧(i < j→bef (kB ops) i j=true)
theorem ac4 {ops:Array Oper} {j t:Nat} (h:kS ops j=some t):j < ops.size:=by
 unfold kS at h
 cases ho:ops[j]? with
 | none=>rw [ho] at h;cases h
 | some o=>exact (Array.getElem?_eq_some_iff.1 ho).1
theorem ao9 {ops : Array Oper} (h : afa ops = true) : abs ops := by
 have main : ∀ i o, ops[i]? = some o → ((sE o).all (fun b => decide (b < i)) = true ∧ (kB ops).getD i 0 = just (kB ops) (sE o)) ∧
     ∀ j t, kS ops j = some t → (j = i ∨ o.dst ≠ some t) ∧ (t ∉ o.looksAt ops ∨ j = i ∨ (match decide (j < i) with | true => bef (kB ops) j i | false => bef (kB ops) i j) = true) := by
   intro i o ho
   have hi := (Array.getElem?_eq_some_iff.1 ho).1
   have := List.all_eq_true.1 h i (List.mem_range.2 hi)
   rw [ho] at this
   simp only [Bool.and_eq_true, beq_iff_eq] at this
   refine ⟨this.1, fun j t ht => ?_⟩
   have h2 := List.all_eq_true.1 this.2 j (List.mem_range.2 (ac4 ht))
   rw [ht] at h2
   simp only [Bool.and_eq_true, Bool.or_eq_true, beq_iff_eq, bne_iff_ne, Bool.not_eq_true', or_assoc] at h2
   refine ⟨h2.1, ?_⟩
   rcases h2.2 with h3 | h3 | h3
   · exact .inl (by intro hc; rw [List.contains_iff_mem.2 hc] at h3; cases h3)
   · exact .inr (.inl h3)
   · exact .inr (.inr h3)
 refine ⟨fun i o ho b hb => ?_, fun i o ho j hj => ?_, fun i j t hi hj => ?_, fun i j o t ho ht hj hne => ?_⟩
 · have := List.all_eq_true.1 (main i o ho).1.1 b hb
   simpa using this
 · unfold bef at hj
   rw [(main i o ho).1.2] at hj
   exact ao8 hj
 · have hlt := ac4 hi
   unfold kS at hi
   cases ho : ops[i]? with
   | none => rw [ho] at hi; cases hi
   | some o =>
     rw [ho] at hi
     rcases ((main i o ho).2 j t hj).1 with h1 | h1
     · exact h1.symm
     · exact absurd hi h1
 · rcases ((main i o ho).2 j t hj).2 with h1 | h1 | h1
   · exact absurd ht h1
   · exact absurd h1 hne
   · constructor
     · intro hlt; simpa [hlt] using h1
     · intro hlt; simpa [show ¬ j < i by omega] using h1
theorem ah3 {ops:Array Oper} (H:abs ops):∀ (i:Nat),i < ops.size→∀ j,bef (kB ops) j i=true→j < i:=by
 intro i
 induction i using Nat.strongRecOn with
 | _ i ih =>
  intro hi j hj
  obtain ⟨b,hb,h⟩:=H.bit i ops[i] (by simp [hi]) j hj
  have hlt:=H.lt i ops[i] (by simp [hi]) b hb
  rcases h with rfl | h
  ·exact hlt
  ·have:=ih b hlt (by omega) j h;omega
structure abt (P:Program) (once:Nat→Bool) (ops:Array Oper) (es:Nat→bI) (ms:Nat→aH) (vs:Nat→AV) (k:Nat) (o:Oper):Prop where
 env:es (k+1)=(es k).put o.dst (vs k)
 fixed:ac1 once ops k=true∨ms (k+1)=ms k∨(uD once ops k=true∧∃ x,ms (k+1)=(ms k).push x)
 step:(qC ops (es k) o=true∧cD P true (once (o.dst.getD 0)) (es k) (ms k) o.type (fun x=>x=⟨vs k,ms (k+1),none⟩) o.op)∨(qC ops (es k) o=false∧vs k=eI∧ms (k+1)=ms k)
theorem ah4 {once : Nat → Bool} {ops : Array Oper} {Q : bI → aH → Prop} : ∀ (l : List Oper) (i : Nat) (e : bI) (m : aH), ops.toList.drop i = l → i + l.length = ops.size → iA P once true ops Q l e m →
   ∃ (es : Nat → bI) (ms : Nat → aH) (vs : Nat → AV), es i = e ∧ ms i = m ∧ Q (es ops.size) (ms ops.size) ∧ ∀ k o, i ≤ k → ops[k]? = some o → abt P once ops es ms vs k o
 | [], i, e, m, hl, hi, h => by
   refine ⟨fun _ => e, fun _ => m, fun _ => eI, rfl, rfl, h, fun k o hk ho => ?_⟩
   have := (Array.getElem?_eq_some_iff.1 ho).1
   simp at hi
   omega
 | o :: rest, i, e, m, hl, hi, h => by
   have ho : ops[i]? = some o := by
     have : (ops.toList.drop i)[0]? = some o := by rw [hl]; rfl
     rw [List.getElem?_drop] at this
     simpa using this
   have hl' : ops.toList.drop (i + 1) = rest := by
     rw [← List.drop_drop, hl]; rfl
   have hi' : i + 1 + rest.length = ops.size := by simp only [List.length_cons] at hi; omega
   have fin : ∀ (v : AV) (m' : aH), iA P once true ops Q rest (e.put o.dst v) m' → (ac1 once ops i = true ∨ m' = m ∨ (uD once ops i = true ∧ ∃ x, m' = m.push x)) →
       ((qC ops e o = true ∧ cD P true (once (o.dst.getD 0)) e m o.type (fun x => x = ⟨v, m', none⟩) o.op) ∨ (qC ops e o = false ∧ v = eI ∧ m' = m)) →
       ∃ (es : Nat → bI) (ms : Nat → aH) (vs : Nat → AV), es i = e ∧ ms i = m ∧ Q (es ops.size) (ms ops.size) ∧ ∀ k o, i ≤ k → ops[k]? = some o → abt P once ops es ms vs k o := by
     intro v m' h1 h2 h3
     obtain ⟨es, ms, vs, e1, e2, e3, e4⟩ := ah4 rest (i + 1) _ _ hl' hi' h1
     refine ⟨fun k => if k = i then e else es k, fun k => if k = i then m else ms k, fun k => if k = i then v else vs k, by simp, by simp, ?_, fun k o' hk ho' => ?_⟩
     · simp only [if_neg (show ¬ ops.size = i by omega)]; exact e3
     · by_cases hki : k = i
       · subst hki
         have heq : o' = o := by rw [ho] at ho'; exact (Option.some.inj ho').symm
         subst heq
         refine ⟨?_, ?_, ?_⟩
         · simp only [if_neg (show ¬ k + 1 = k by omega), if_true]; exact e1
         · simp only [if_neg (show ¬ k + 1 = k by omega), if_true, e2]; exact h2
         · simp only [if_neg (show ¬ k + 1 = k by omega), if_true, e2]; exact h3
       · obtain ⟨t1, t2, t3⟩ := e4 k o' (by omega) ho'
         refine ⟨?_, ?_, ?_⟩
         · simp only [if_neg (show ¬ k + 1 = i by omega), if_neg hki]; exact t1
         · simp only [if_neg (show ¬ k + 1 = i by omega), if_neg hki]; exact t2
         · simp only [if_neg (show ¬ k + 1 = i by omega), if_neg hki]; exact t3
   simp only [iA] at h
   split at h
   · rename_i hw
     obtain ⟨out, ⟨h1, h2⟩, h3⟩ := ao6 h
     obtain ⟨hwb, hfx⟩ := h1 trivial
     obtain ⟨v, m', wb⟩ := out
     simp only at hwb hfx
     subst hwb
     have hsz : ops.size - (rest.length + 1) = i := by omega
     rw [hsz] at hfx
     exact fin v m' h2 hfx (.inl ⟨hw, h3⟩)
   · rename_i hw
     exact fin eI m h (.inr (.inl rfl)) (.inr ⟨by simpa using hw, rfl, rfl⟩)
section
variable {once:Nat→Bool} {ops:Array Oper} {es:Nat→bI} {ms:Nat→aH} {vs:Nat→AV}
theorem ac5 {k:Nat} {o:Oper} (ho:ops[k]? = some o):kS ops k=o.dst:=by unfold kS;rw [ho];rfl
theorem afe (H : abs ops) (T : ∀ k o, ops[k]? = some o → abt P once ops es ms vs k o) : ∀ (k : Nat), k ≤ ops.size →
   (∀ j t, j < k → kS ops j = some t → es k t = vs j) ∧ (∀ t, (∀ j, j < k → kS ops j ≠ some t) → es k t = es 0 t)
 | 0, _ => ⟨fun j t h => by omega, fun _ _ => rfl⟩
 | k + 1, hk => by
   obtain ⟨h1, h2⟩ := afe H T k (by omega)
   have ho : ops[k]? = some ops[k] := by simp
   have he := (T k _ ho).env
   have hd := ac5 ho
   have val : ∀ t, es (k + 1) t = if kS ops k = some t then vs k else es k t := by
     intro t
     rw [he, hd]
     cases ops[k].dst with
     | none => simp [bI.put]
     | some d =>
       simp only [bI.put, bI.set, Option.some.injEq]
       by_cases h : t = d
       · subst h; simp
       · rw [if_neg h, if_neg (fun e => h e.symm)]
   refine ⟨fun j t hj ht => ?_, fun t ht => ?_⟩
   · rw [val]
     by_cases hjk : j = k
     · subst hjk; rw [if_pos ht]
     · rw [if_neg (fun h => hjk (H.dst j k t ht h))]
       exact h1 j t (by omega) ht
   · rw [val, if_neg (ht k (by omega))]
     exact h2 t (fun j hj => ht j (by omega))
theorem uF {i:Nat}:∀ (j:Nat),i≤j→(∀ c,i≤c→c < j→ms (c+1)=ms c)→ms j=ms i
 | 0,h,_=>by rw [show i=0 by omega]
 | j+1,h,hc=>by
  by_cases hij:i=j+1
  ·rw [hij]
  ·rw [hc j (by omega) (by omega)]
   exact uF j (by omega) (fun c h1 h2=>hc c h1 (by omega))
structure nK (P:Program) (w0:World) (I0:Nat→Prop) (ρ0:cC) (m0:aH) (n:Nat) (D:List Deferred) (ops:Array Oper) (es:Nat→bI) (ms:Nat→aH) (vs:Nat→AV) (listed:Array Bool) (a:Act) (w:World) (e:bI) (j:Nat) (I:Nat→Prop) (ρ:cC):Prop where
 size:listed.size=ops.size
 rel:kQ P w0 I0 ρ0 m0 n D e (ms j) a w I ρ
 le:j≤ops.size
 mem:∀ c,c < ops.size→ms (c+1)≠ms c→(listed.getD c false=true↔c < j)
 new:∀ k t,listed.getD k false=true→kS ops k=some t→e t=vs k
 old:∀ t,(∀ k,listed.getD k false=true→kS ops k≠some t)→e t=es 0 t
 closed:∀ i k,listed.getD i false=true→bef (kB ops) k i=true→listed.getD k false=true
def sF (listed:Array Bool):Nat→Nat
 | 0=>0
 | n+1=>sF listed n+if listed.getD n false=true then 0 else 1
theorem ah5 {listed:Array Bool} {i:Nat} (hi:i < listed.size) (hu:listed.getD i false=false):∀ n,sF (listed.setIfInBounds i true) n+(if i < n then 1 else 0)=sF listed n
 | 0=>by simp [sF]
 | n+1=>by
  have ih:=ah5 hi hu n
  simp only [sF]
  by_cases h:n=i
  ·subst h
   have h1:(listed.setIfInBounds n true).getD n false=true:=by simp [hi]
   rw [h1,hu]
   simp at ih ⊢
   omega
  ·rw [getD_set_ne false (fun e=>h e.symm)]
   by_cases h2:i < n
   ·have q1:(if i < n then 1 else 0)=1:=if_pos h2
    have q2:(if i < n+1 then 1 else 0)=1:=if_pos (by omega)
    rw [q1] at ih
    rw [q2]
    omega
   ·have q1:(if i < n then 1 else 0)=0:=if_neg h2
    have q2:(if i < n+1 then 1 else 0)=0:=if_neg (by omega)
    rw [q1] at ih
    rw [q2]
    omega
theorem ah6 {listed:Array Bool}:∀ n,sF listed n=0→∀ k,k < n→listed.getD k false=true
 | 0,_,k,hk=>by omega
 | n+1,h,k,hk=>by
  simp only [sF] at h
  by_cases hl:listed.getD n false=true
  ·by_cases hkn:k=n
   ·subst hkn;exact hl
   ·exact ah6 n (by omega) k (by omega)
  ·rw [if_neg hl] at h;omega
theorem ah7:∀ n s,sF (Array.replicate s false) n=n
 | 0,s=>rfl
 | n+1,s=>by
  simp only [sF,ah7 n s]
  have:¬ (Array.replicate s false).getD n false=true:=by
   rw [Array.getD_eq_getD_getElem?,Array.getElem?_replicate]
   split <;> simp
  rw [if_neg this]
theorem aff {listed:Array Bool} {i:Nat} (hi:i < listed.size):listed.getD i true=listed.getD i false:=by
 simp [hi]
theorem apa (H:abs ops) {listed:Array Bool} (hs:listed.size=ops.size) (hr:Region.ready .any ops listed=[]):∀ (k:Nat),k < ops.size→listed.getD k false=true:=by
 intro k
 induction k using Nat.strongRecOn with
 | _ k ih =>
  intro hk
  cases hl:listed.getD k false with
  | true=>rfl
  | false =>
   have:k∈Region.ready .any ops listed:=by
    rw [mem_ready]
    refine ⟨by rw [aff (by omega)];exact hl,ops[k],by simp [hk],fun ed hed hb => ?_⟩
    have hbd:ed.on∈sE ops[k]:=by
     unfold sE
     exact List.mem_map_of_mem (List.mem_filter.2 ⟨by simpa using hed,hb⟩)
    have hlt:=H.lt k ops[k] (by simp [hk]) ed.on hbd
    exact ih ed.on hlt (by omega)
   rw [hr] at this
   cases this
variable {w0:World} {I0:Nat→Prop} {ρ0:cC} {m0:aH} {n:Nat} {D:List Deferred}
theorem apb {ops:Array Oper} {op:Op} (h:abq ops op=true):∃ t y,op = .load t (.tmp y)∧(ops.all fun o=>o.dst != some y)=true:=by
 unfold abq at h
 split at h
 ·exact ⟨_,_,rfl,h⟩
 ·cases h
theorem ah8 {P:Program} {c:Bool} {e:bI} {m:aH} {ty:TypeId} {t:TypeId} {a:Operand} {out:bS} (h:cD P true c e m ty (fun x=>x=out) (.load t a)):out.m=m∧sA P true c m t (opd e a)=some out.v∧out.wb=none:=by
 simp only [cD] at h
 cases hl:sA P true c m t (opd e a) with
 | none=>rw [hl] at h;exact h.elim
 | some v =>
  rw [hl] at h
  have h:(⟨v,m,none⟩:bS)=out:=h
  subst h
  exact ⟨rfl,rfl,rfl⟩
theorem apc {P:Program} {c:Bool} {e:bI} {m m':aH} {v:AV} {ty:TypeId} {op:Op} (hl:ae5 op=true) (h:cD P true c e m ty (fun x=>x=⟨v,m',none⟩) op):m'=m:=by
 unfold ae5 at hl
 split at hl
 ·exact (ah8 h).1
 ·cases hl
theorem apd {P:Program} {c:Bool} {e:bI} {m m' m1:aH} {v:AV} {ty:TypeId} {t:TypeId} {y:Nat} (h:cD P true c e m ty (fun x=>x=⟨v,m1,none⟩) (.load t (.tmp y))) (hb:∀ b off,e y = .ptr b off→m'.at_ b=m.at_ b):cD P true c e m' ty (fun x=>x=⟨v,m',none⟩) (.load t (.tmp y)):=by
 have h1:=(ah8 h).2.1
 simp only at h1
 have h2:sA P true c m' t (opd e (.tmp y))=some v:=by
  rw [←h1]
  simp only [opd]
  unfold sA
  split
  ·rfl
  ·unfold iX
   split
   ·rename_i b off he
    rw [hb b off he]
   ·rfl
   ·rfl
 simp only [cD,h2]
 rfl
theorem ape (H : abs ops) (hreg : zY n ops = true) (T : ∀ k o, ops[k]? = some o → abt P once ops es ms vs k o) (hout : ∀ t b off, es 0 t = .ptr b off → b < (ms 0).next) {Q' : Exit → Act → World → Prop}
   (hQ : ∀ a w I ρ, kQ P w0 I0 ρ0 m0 n D (es ops.size) (ms ops.size) a w I ρ → Q' .normal a w) :
   ∀ (fuel : Nat) (listed : Array Bool) (a : Act) (w : World) (e : bI) (j : Nat) (I : Nat → Prop) (ρ : cC), sF listed ops.size ≤ fuel → nK P w0 I0 ρ0 m0 n D ops es ms vs listed a w e j I ρ → wpAny P .any ops Q' fuel listed a w := by
 have done : ∀ (listed : Array Bool) (a : Act) (w : World) (e : bI) (j : Nat) (I : Nat → Prop) (ρ : cC), (∀ k, k < ops.size → listed.getD k false = true) → nK P w0 I0 ρ0 m0 n D ops es ms vs listed a w e j I ρ → Q' .normal a w := by
   intro listed a w e j I ρ hall V
   have he : e = es ops.size := by
     funext t
     obtain ⟨h1, h2⟩ := afe H T ops.size (Nat.le_refl _)
     by_cases hex : ∃ k, kS ops k = some t
     · obtain ⟨k, hk⟩ := hex
       have hlt := ac4 hk
       rw [V.new k t (hall k hlt) hk, h1 k t hlt hk]
     · have hex : ∀ k, kS ops k ≠ some t := fun k hk => hex ⟨k, hk⟩
       rw [V.old t (fun k _ => hex k), h2 t (fun k _ => hex k)]
   have hm : ms ops.size = ms j := uF ops.size V.le (fun c h1 h2 => Classical.byContradiction fun hne => by
     have := (V.mem c h2 hne).1 (hall c h2)
     omega)
   have := V.rel
   rw [he, ← hm] at this
   exact hQ a w I ρ this
 intro fuel
 induction fuel with
 | zero =>
   intro listed a w e j I ρ hc V
   have hall := ah6 ops.size (by omega : sF listed ops.size = 0)
   refine ⟨?_, done listed a w e j I ρ hall V⟩
   cases hr : Region.ready .any ops listed with
   | nil => rfl
   | cons i l =>
     have hi : i ∈ Region.ready .any ops listed := by rw [hr]; simp
     obtain ⟨h0, o, ho, _⟩ := mem_ready.1 hi
     have hlt := (Array.getElem?_eq_some_iff.1 ho).1
     have h1 := hall i hlt
     rw [aff (by rw [V.size]; exact hlt)] at h0
     rw [h0] at h1
     cases h1
 | succ fuel ih =>
   intro listed a w e j I ρ hc V
   refine ⟨fun hr => done listed a w e j I ρ (apa H V.size hr) V, fun i hi => ?_⟩
   obtain ⟨h0, o, ho, hall⟩ := mem_ready.1 hi
   have hlt := (Array.getElem?_eq_some_iff.1 ho).1
   have hls : i < listed.size := by rw [V.size]; exact hlt
   rw [aff hls] at h0
   have hbd : ∀ b ∈ sE o, listed.getD b false = true := by
     intro b hb
     unfold sE at hb
     obtain ⟨ed, hed, rfl⟩ := List.mem_map.1 hb
     obtain ⟨h1, h2⟩ := List.mem_filter.1 hed
     exact hall ed (by simpa using h1) h2
   have hbef : ∀ k, bef (kB ops) k i = true → listed.getD k false = true := by
     intro k hk
     obtain ⟨b, hb, h⟩ := H.bit i o ho k hk
     rcases h with rfl | h
     · exact hbd b hb
     · exact V.closed b k (hbd b hb) h
   have hnot : ∀ k, bef (kB ops) i k = true → listed.getD k false = false := by
     intro k hk
     cases hl : listed.getD k false with
     | false => rfl
     | true =>
       have := V.closed k i hl hk
       rw [h0] at this
       cases this
   obtain ⟨hes1, hes2⟩ := afe H T i (by omega)
   have hagree : ∀ t ∈ o.looksAt ops, e t = es i t := by
     intro t ht
     by_cases hex : ∃ k, kS ops k = some t
     · obtain ⟨k, hk⟩ := hex
       have huniq : ∀ k', kS ops k' = some t → k' = k := fun k' h' => H.dst k' k t h' hk
       rcases Nat.lt_trichotomy k i with h | h | h
       · have hb := (H.look i k o t ho ht hk (by omega)).1 h
         rw [V.new k t (hbef k hb) hk, hes1 k t h hk]
       · rw [V.old t (fun k' hl hk' => by rw [huniq k' hk', h, h0] at hl; cases hl), hes2 t (fun k' hlt' hk' => by have := huniq k' hk'; omega)]
       · have hb := (H.look i k o t ho ht hk (by omega)).2 h
         have hnl := hnot k hb
         rw [V.old t (fun k' hl hk' => by rw [huniq k' hk', hnl] at hl; cases hl), hes2 t (fun k' hlt' hk' => by have := huniq k' hk'; omega)]
     · have hex : ∀ k, kS ops k ≠ some t := fun k hk => hex ⟨k, hk⟩
       rw [V.old t (fun k _ => hex k), hes2 t (fun k _ => hex k)]
   have hopd : ∀ x ∈ o.op.operands.toList, opd e x = opd (es i) x := by
     intro x hx
     refine ao7 fun t ht => hagree t ?_
     unfold Oper.looksAt
     refine List.mem_append.2 (.inl (List.mem_filterMap.2 ⟨x, hx, by rw [ht]⟩))
   have hwant : qC ops e o = qC ops (es i) o := by
     unfold qC
     cases hg : o.guard with
     | none => rfl
     | some g =>
       obtain ⟨gi, want⟩ := g
       simp only
       cases hd : (ops[gi]?).bind (·.dst) with
       | none => rfl
       | some d =>
         have : e d = es i d := hagree d (by
           unfold Oper.looksAt
           rw [hg]
           simp [hd])
         simp only [this]
   obtain ⟨tenv, tfix, tstep⟩ := T i o ho
   -- the new state
   have next : ∀ (v : Value) (w' : World) (I' : Nat → Prop) (ρ' : cC) (j' : Nat) (a' : Act), j' ≤ ops.size →
       (∀ c, c < ops.size → ms (c + 1) ≠ ms c → ((listed.setIfInBounds i true).getD c false = true ↔ c < j')) →
       kQ P w0 I0 ρ0 m0 n D (e.put o.dst (vs i)) (ms j') a' w' I' ρ' → wpAny P .any ops Q' fuel (listed.setIfInBounds i true) a' w' := by
     intro v w' I' ρ' j' a' hj' hmem hR
     refine ih (listed.setIfInBounds i true) a' w' (e.put o.dst (vs i)) j' I' ρ' ?_ ⟨by simp [V.size], hR, hj', hmem, fun k t hl hk => ?_, fun t ht => ?_, fun i2 k hl hb => ?_⟩
     · have := ah5 hls h0 ops.size
       rw [if_pos hlt] at this
       omega
     · by_cases hki : k = i
       · subst hki
         rw [ac5 ho] at hk
         rw [hk]
         simp [bI.put, bI.set]
       · rw [getD_set_ne false (fun e => hki e.symm)] at hl
         have hne : o.dst ≠ some t := fun h => hki (H.dst k i t hk (by rw [ac5 ho]; exact h))
         have : (e.put o.dst (vs i)) t = e t := by
           cases hd : o.dst with
           | none => rfl
           | some d => simp only [bI.put, bI.set]; rw [if_neg (fun h => hne (by rw [hd, h]))]
         rw [this]
         exact V.new k t hl hk
     · have hne : o.dst ≠ some t := by
         have := ht i (by simp [hls])
         rwa [ac5 ho] at this
       have : (e.put o.dst (vs i)) t = e t := by
         cases hd : o.dst with
         | none => rfl
         | some d => simp only [bI.put, bI.set]; rw [if_neg (fun h => hne (by rw [hd, h]))]
       rw [this]
       exact V.old t (fun k hl => ht k (getD_set_true hl))
     · by_cases hii : i2 = i
       · subst hii; exact getD_set_true (hbef k hb)
       · rw [getD_set_ne false (fun e => hii e.symm)] at hl
         exact getD_set_true (V.closed i2 k hl hb)
   have keepmem : ms (i + 1) = ms i → ∀ c, c < ops.size → ms (c + 1) ≠ ms c → ((listed.setIfInBounds i true).getD c false = true ↔ c < j) := by
     intro hsame c hc hne
     have hci : i ≠ c := fun h => hne (by rw [← h]; exact hsame)
     rw [getD_set_ne false hci]
     exact V.mem c hc hne
   unfold wpOp
   rw [ho]
   simp only
   rw [ahZ V.rel.er o, hwant]
   rcases tstep with ⟨hw, hst⟩ | ⟨hw, hv, hsame⟩
   · rw [hw]
     simp only [if_true]
     refine .inl ?_
     have hdlt := ac3 (n := n) hreg ho
     cases hp : zW (once (o.dst.getD 0)) o.op with
     | true =>
       obtain ⟨hsame, hst2⟩ := ah2 (m' := ms j) hp hst
       simp only at hsame
       have hst3 := afd (e' := e) hopd hst2
       refine abr V.rel.sr V.rel.er hst3 V.rel.free ?_
       intro out v w' I' ρ' hK g2 g3 g4 g5 g6
       subst hK
       have hR := V.rel.next hdlt g2 g3 g4 (fun d y hwb => by cases hwb) g6
       exact next v w' I' ρ' j _ V.le (keepmem hsame) hR
     | false =>
       have hcmp3 : ∀ c, c < ops.size → ms (c + 1) ≠ ms c → c ≠ i → (listed.getD c false = true ↔ c < i) ∨ (i < c ∧ abq ops o.op = true ∧ uD once ops c = true ∧ ∃ x, ms (c + 1) = (ms c).push x) := by
         intro c hc hne hci
         have bf : bef (kB ops) i c = true ∨ bef (kB ops) c i = true → (listed.getD c false = true ↔ c < i) := by
           rintro (h | h)
           · constructor
             · intro hl; rw [hnot c h] at hl; cases hl
             · intro hlt2; have := ah3 H c hc i h; omega
           · exact ⟨fun _ => ah3 H i hlt c h, fun _ => hbef c h⟩
         rcases (T c ops[c] (by simp [hc])).fixed with hf | hf | ⟨hf, hx⟩
         · have := List.all_eq_true.1 hf i (List.mem_range.2 hlt)
           rw [ho] at this
           simp only [hp, Bool.or_eq_true, beq_iff_eq, Bool.false_eq_true, or_false] at this
           rcases this with (h | h) | h
           · exact absurd h.symm hci
           · exact .inl (bf (.inl h))
           · exact .inl (bf (.inr h))
         · exact absurd hf hne
         · have hf' := hf
           unfold uD at hf'
           have := List.all_eq_true.1 (Bool.and_eq_true_iff.1 hf').1 i (List.mem_range.2 hlt)
           rw [ho] at this
           simp only [hp, Bool.or_eq_true, beq_iff_eq, Bool.false_eq_true, false_or, Bool.and_eq_true, decide_eq_true_eq] at this
           rcases this with ((h | h) | h) | h
           · exact absurd h.symm hci
           · exact .inr ⟨h.1, h.2, hf, hx⟩
           · exact .inl (bf (.inl h))
           · exact .inl (bf (.inr h))
       by_cases hpush : ∃ c, c < ops.size ∧ i < c ∧ abq ops o.op = true ∧ uD once ops c = true ∧ ∃ x, ms (c + 1) = (ms c).push x
       · obtain ⟨c, hc, hic, hol, hpc, x, hx⟩ := hpush
         have hquiet : ∀ c', uD once ops c' = true → ∀ k, k < c' → k < ops.size → ms (k + 1) = ms k := by
           intro c' hp' k hk hks
           unfold uD at hp'
           have := List.all_eq_true.1 (Bool.and_eq_true_iff.1 hp').2 k (List.mem_range.2 hk)
           have hok : ops[k]? = some ops[k] := by simp [hks]
           rw [hok] at this
           simp only [Bool.or_eq_true] at this
           rcases (T k ops[k] hok).step with ⟨_, hst'⟩ | ⟨_, _, h⟩
           · rcases this with h | h
             · exact (ah2 (m' := ms k) h hst').1
             · exact apc h hst'
           · exact h
         have h0c : ms c = ms 0 := uF c (Nat.zero_le _) (fun k _ hk => hquiet c hpc k hk (by omega))
         have h0i : ms i = ms 0 := uF i (Nat.zero_le _) (fun k _ hk => hquiet c hpc k (by omega) (by omega))
         have hsame : ms (i + 1) = ms i := hquiet c hpc i hic hlt
         have hxne : ms (c + 1) ≠ ms c := by
           rw [hx]
           intro h
           have := congrArg aH.next h
           simp only [aH.push] at this
           omega
         have hjm : ms j = ms 0 ∨ ms j = (ms 0).push x := by
           by_cases hjc : j ≤ c
           · exact .inl (uF j (Nat.zero_le _) (fun k _ hk => hquiet c hpc k (by omega) (by have := V.le; omega)))
           · refine .inr ?_
             rw [← h0c, ← hx]
             have hle := V.le
             refine uF j (by omega) fun c' h1 h2 => Classical.byContradiction fun hne => ?_
             have q1 := (V.mem c' (by omega) hne).2 h2
             rcases hcmp3 c' (by omega) hne (by omega) with h | ⟨_, _, h, _⟩
             · have := h.1 q1; omega
             · exact hxne (hquiet c' h c (by omega) hc)
         obtain ⟨t, y, hop, hty⟩ := apb hol
         have hol' := hty
         rw [hop] at hst
         have hst2 : cD P true (once (o.dst.getD 0)) (es i) (ms j) o.type (fun x => x = ⟨vs i, ms j, none⟩) (.load t (.tmp y)) := by
           refine apd hst (fun b off he => ?_)
           have hy := hes2 y (fun k hk hd => by
             have hlt2 := ac4 hd
             have := Array.all_eq_true.1 hty k hlt2
             unfold kS at hd
             rw [show ops[k]? = some ops[k] by simp [hlt2]] at hd
             simp only [Option.bind_some] at hd
             rw [hd] at this
             simp at this)
           rw [hy] at he
           have hb := hout y b off he
           rw [h0i]
           rcases hjm with h | h
           · rw [h]
           · rw [h]
             simp only [aH.push]
             rw [if_neg (by omega)]
         rw [← hop] at hst2
         have hst3 := afd (e' := e) hopd hst2
         refine abr V.rel.sr V.rel.er hst3 V.rel.free ?_
         intro out v w' I' ρ' hK g2 g3 g4 g5 g6
         subst hK
         have hR := V.rel.next hdlt g2 g3 g4 (fun d y hwb => by cases hwb) g6
         exact next v w' I' ρ' j _ V.le (keepmem hsame) hR
       have hcmp : ∀ c, c < ops.size → ms (c + 1) ≠ ms c → c ≠ i → (listed.getD c false = true ↔ c < i) := fun c hc hne hci => (hcmp3 c hc hne hci).resolve_right fun ⟨a1, a2, a3, a4⟩ => hpush ⟨c, hc, a1, a2, a3, a4⟩
       have hji : ms j = ms i := by
         by_cases hch : ms (i + 1) = ms i
         · rcases Nat.le_total j i with h | h
           · refine (uF i h fun c h1 h2 => Classical.byContradiction fun hne => ?_).symm
             have q1 := (hcmp c (by omega) hne (by omega)).2 h2
             have q2 := (V.mem c (by omega) hne).1 q1
             omega
           · refine uF j h fun c h1 h2 => Classical.byContradiction fun hne => ?_
             have hle := V.le
             have hci : c ≠ i := fun h => hne (by rw [h]; exact hch)
             have q1 := (V.mem c (by omega) hne).2 h2
             have q2 := (hcmp c (by omega) hne hci).1 q1
             omega
         · have hij : j ≤ i := by
             have q := V.mem i hlt hch
             rw [h0] at q
             simp at q
             exact q
           refine (uF i hij fun c h1 h2 => Classical.byContradiction fun hne => ?_).symm
           have q1 := (hcmp c (by omega) hne (by omega)).2 h2
           have q2 := (V.mem c (by omega) hne).1 q1
           omega
       have hst3 := afd (e' := e) hopd hst
       rw [← hji] at hst3
       refine abr V.rel.sr V.rel.er hst3 V.rel.free ?_
       intro out v w' I' ρ' hK g2 g3 g4 g5 g6
       subst hK
       have hR := V.rel.next hdlt g2 g3 g4 (fun d y hwb => by cases hwb) g6
       by_cases hch : ms (i + 1) = ms i
       · refine next v w' I' ρ' j _ V.le (keepmem hch) ?_
         rw [hji, ← hch]
         exact hR
       · refine next v w' I' ρ' (i + 1) _ (by omega) (fun c hc hne => ?_) hR
         by_cases hci : c = i
         · subst hci; simp [hls]
         · rw [getD_set_ne false (fun h => hci h.symm), hcmp c hc hne hci]
           omega
   · rw [hw]
     simp only [Bool.false_eq_true, if_false]
     have hdlt := ac3 (n := n) hreg ho
     refine next undef w I ρ j _ V.le (keepmem hsame) ?_
     rw [hv]
     exact ⟨aeA V.rel.er (fun t ht => by rw [V.rel.size]; exact hdlt t ht) (by simp only [eI, undef, VR]), V.rel.sr, V.rel.free, V.rel.step, by rw [ae7]; exact V.rel.size, by rw [ae8]; exact V.rel.defers⟩
theorem apf {e:bI} {m:aH} {a:Act} {w:World} {I:Nat→Prop} {ρ:cC} (hR:kQ P w0 I0 ρ0 m0 n D e m a w I ρ) (k:Nat):kQ P w0 I0 ρ0 m0 n D e m a { w with drawn:=k } I ρ:=by
 have st:cM w I ρ m { w with drawn:=k } I ρ m:=⟨rfl,rfl,rfl,Nat.le_refl _,fun _ _ _=>rfl,fun _ _ h=>h,fun _ h=>h,fun _ h => .inl h,fun _ _ h=>h,fun b h1 h2=>absurd h1 h2,fun _ h => .inl h,Nat.le_refl _⟩
 refine ⟨aez st hR.sr hR.er,⟨fun b k g o h1 h2 => ?_,hR.sr.inj,hR.sr.lt,hR.sr.mms.keep (st.keeps hR.sr) (fun _ _ h=>h) (fun _ _=>⟨rfl,fun h=>h⟩)⟩,hR.free,hR.step.trans st,hR.size,hR.defers⟩
 have x:=hR.sr.blk b k g o h1 h2
 obtain ⟨arr,fr,h3,h4⟩:=x.cells
 exact ⟨x.one,⟨arr,fr,h3,eF (st.keeps hR.sr) (fun _ _ h=>h) _ _ h4⟩,x.wr,x.im,x.all1,x.nostr⟩
theorem apg (hm : P.follows .mixedOrders = true) (hr : zY n ops = true) (hd : afa ops = true) {Q : bI → aH → Prop} {Q' : Exit → Act → World → Prop} (hQ : ∀ e m a w I ρ, Q e m → kQ P w0 I0 ρ0 m0 n D e m a w I ρ → Q' .normal a w)
   {id : Nat} {e : bI} {m : aH} {a : Act} {w : World} {I : Nat → Prop} {ρ : cC} (h : iA P once true ops Q ops.toList e m) (hR : kQ P w0 I0 ρ0 m0 n D e m a w I ρ) : (Code.region id ops true).wp P Q' a w := by
 have H := ao9 hd
 obtain ⟨es, ms, vs, e1, e2, e3, e4⟩ := ah4 ops.toList 0 e m rfl (by simp) h
 have T : ∀ k o, ops[k]? = some o → abt P once ops es ms vs k o := fun k o ho => e4 k o (by omega) ho
 refine wp_region_any hm ?_
 have none_listed : ∀ k, (Array.replicate ops.size false).getD k false = false := by
   intro k
   rw [Array.getD_eq_getD_getElem?, Array.getElem?_replicate]
   split <;> simp
 have V : nK P w0 I0 ρ0 m0 n D ops es ms vs (Array.replicate ops.size false) a { w with drawn := w.drawn + 1 } e 0 I ρ := by
   refine ⟨by simp, ?_, by omega, ?_, ?_, ?_, ?_⟩
   · rw [e2]; exact apf hR _
   · intro c hc hne; rw [none_listed]; simp
   · intro k t hl; rw [none_listed] at hl; cases hl
   · intro t _; rw [e1]
   · intro i k hl; rw [none_listed] at hl; cases hl
 exact ape H hr T (fun t b off he => Classical.byContradiction fun hlt => by
   have h := hR.er t
   rw [← e1, he] at h
   simp only [VR] at h
   obtain ⟨g, o, hb, _⟩ := h
   rw [e2] at hlt
   rw [hR.free b (by omega)] at hb
   cases hb) (fun a w I ρ hR => hQ _ _ a w I ρ e3 hR) ops.size _ a _ e 0 I ρ (by rw [ah7]; exact Nat.le_refl _) V
end
end
end Go.Tw