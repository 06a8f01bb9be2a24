import Derived.Test.YtaekhhlgnbhnpaaGreatOzcG05
import Derived.Test.YtaekhhlgnbhnpaaGreatOzcG06
import Derived.Deep.LoopGhost
set_option linter.unusedVariables false
set_option linter.unusedSimpArgs false
namespace Go.Tw
open Go
def xA (P:Program) (m:aF) (t:TypeId) (len:Nat) (parts:List (Nat×AV)):Option bY :=
 (cD P t).bind fun el=>(cH P el).bind fun n=>(i4 P el len).bind fun z=>if len*n≤16777216 then
  (fX (fun i=>some (i*n,n)) z parts).bind fun cs=>(fzs m cs).bind fun r=>bO (.tree len len r.1 true) r.2
 else none
section
variable {P:Program} {w:World} {I:Nat→Prop} {ρ:cK} {m:aF}
theorem ap3 (hS : SR P w I ρ m) {t : TypeId} {len : Nat} {parts : List (Nat × AV)} {out : bY} (h : eY P m t len parts = some out) (hfree : ∀ b, m.next ≤ b → b < out.m.next → ρ b = none)
   {vparts : List (Nat × Value)} (hl : vparts.length = parts.length) (hv : ∀ (j i : Nat) (av : AV) (i' : Nat) (v : Value), parts[j]? = some (i, av) → vparts[j]? = some (i', v) → i = i' ∧ VR P w I ρ av v) (addr : Value) :
   iD P w I ρ m ((Instr.buildSlice t len vparts.toArray).run P w) id out addr := by
 unfold eY at h
 obtain ⟨el, hel, h⟩ := awC h
 obtain ⟨n, hn, h⟩ := awC h
 obtain ⟨z, hz, h⟩ := awC h
 split at h
 · rename_i hle
   obtain ⟨cs, hcs, h⟩ := awC h
   split at h
   · cases h
   rename_i hnr
   simp only [bO, Option.some.injEq] at h
   subst h
   obtain ⟨sz, hsz, arr, q1, q2, q3, q4, q5⟩ := adk hz
   rw [hn, Option.some.injEq] at hsz
   subst hsz
   obtain ⟨arr', f1, f2, f3, f4, f5⟩ := aap (P := P) (w := w) (I := I) (ρ := ρ) (place := fun i => some (i * n, n)) (placeE := fun i => some (i * n, n)) (fun _ _ h => h) parts vparts z cs arr hcs hl hv (by rw [q2, q3]) q4 (q5 w I ρ)
   have hA := oQ.alloc w arr' el
   obtain ⟨a, b⟩ := adi hA hS
   refine ⟨.slice (some ⟨w.heap.size, 0, none⟩) len len, _, _, _, ?_, ?_, a, b, fun d y h => by cases h⟩
   · have q1' := q1 w
     simp only [Sem.run_bind, Sem.run_ite, Sem.run_pure] at q1'
     by_cases h0 : len * n = 0
     · simp [h0] at q1'
       simp [Instr.buildSlice, cX (iC hel), gX hn, h0, f1, q1', newRow]
     · simp only [h0, if_false] at q1'
       have hnot : ¬ (16777216 < len * n) := by omega
       cases hzv : (zeroValue el).run P w with
       | halt x y => rw [hzv] at q1'; simp at q1'
       | ok x y =>
         rw [hzv] at q1'
         simp at q1'
         obtain ⟨q6, q7⟩ := q1'
         subst q7
         simp [Instr.buildSlice, cX (iC hel), gX hn, h0, hnot, hzv, q6, f1, newRow]
   · simp only [id, VR]
     obtain ⟨fr, hfr⟩ := hA.blk
     refine ⟨_, 0, len, rfl, .inr rfl, ⟨Nat.le_refl _, Nat.le_refl _⟩, fun _ => rfl, f4, ?_⟩
     exact iB (eL (b.keeps hS) (fun _ _ h => h) _ _ (yS cs _ (by simpa using hnr) f5)) fun j _ => by rw [cell_of_row _ _ _ _ _ _ hfr, Nat.zero_add]
 · cases h
theorem ap4 (hS : SR P w I ρ m) {t : TypeId} {len : Nat} {parts : List (Nat × AV)} {out : bY} (h : xA P m t len parts = some out) (hfree : ∀ b, m.next ≤ b → b < out.m.next → ρ b = none)
   {vparts : List (Nat × Value)} (hl : vparts.length = parts.length) (hv : ∀ (j i : Nat) (av : AV) (i' : Nat) (v : Value), parts[j]? = some (i, av) → vparts[j]? = some (i', v) → i = i' ∧ VR P w I ρ av v) (addr : Value) :
   iD P w I ρ m ((Instr.buildSlice t len vparts.toArray).run P w) id out addr := by
 unfold xA at h
 obtain ⟨el, hel, h⟩ := awC h
 obtain ⟨n, hn, h⟩ := awC h
 obtain ⟨z, hz, h⟩ := awC h
 split at h
 · rename_i hle
   obtain ⟨cs, hcs, h⟩ := awC h
   obtain ⟨rf, hrf, h⟩ := awC h
   obtain ⟨cs', m'⟩ := rf
   simp only [bO, Option.some.injEq] at h
   subst h
   obtain ⟨sz, hsz, arr, q1, q2, q3, q4, q5⟩ := adk hz
   rw [hn, Option.some.injEq] at hsz
   subst hsz
   obtain ⟨arr', f1, f2, f3, f4, f5⟩ := aap (P := P) (w := w) (I := I) (ρ := ρ) (place := fun i => some (i * n, n)) (placeE := fun i => some (i * n, n)) (fun _ _ h => h) parts vparts z cs arr hcs hl hv (by rw [q2, q3]) q4 (q5 w I ρ)
   have hA := oQ.alloc w arr' el
   obtain ⟨I1, g1, g2, g3, g4, g5, g6⟩ := wU cs m m' I cs' _ hrf hS f5
   obtain ⟨a, b⟩ := adi hA g1
   refine ⟨.slice (some ⟨w.heap.size, 0, none⟩) len len, _, _, _, ?_, ?_, a, g2.trans b, fun d y h => by cases h⟩
   · have q1' := q1 w
     simp only [Sem.run_bind, Sem.run_ite, Sem.run_pure] at q1'
     by_cases h0 : len * n = 0
     · simp [h0] at q1'
       simp [Instr.buildSlice, cX (iC hel), gX hn, h0, f1, q1', newRow]
     · simp only [h0, if_false] at q1'
       have hnot : ¬ (16777216 < len * n) := by omega
       cases hzv : (zeroValue el).run P w with
       | halt x y => rw [hzv] at q1'; simp at q1'
       | ok x y =>
         rw [hzv] at q1'
         simp at q1'
         obtain ⟨q6, q7⟩ := q1'
         subst q7
         simp [Instr.buildSlice, cX (iC hel), gX hn, h0, hnot, hzv, q6, f1, newRow]
   · simp only [id, VR]
     obtain ⟨fr, hfr⟩ := hA.blk
     refine ⟨_, 0, len, rfl, .inr rfl, ⟨Nat.le_refl _, Nat.le_refl _⟩, fun _ => rfl, g6 f4, ?_⟩
     exact iB (eL (b.keeps g1) (fun _ _ h => h) _ _ g4) fun j _ => by rw [cell_of_row _ _ _ _ _ _ hfr, Nat.zero_add]
 · cases h
end
def tD (P:Program) (d once:Bool) (m:aF) (t:TypeId) (x:AV):Option AV:=match d && once with
 | true=>(match x with | .tptr off cells=>kV P t cells off | _=>none)
 | false=>i5 P m t x
def ady (a b:Option bY):Option bY:=match a with
 | some o=>some o
 | none=>b
def tE (P:Program) (d once:Bool) (m:aF) (t:TypeId) (len:Nat) (parts:List (Nat×AV)):Option bY:=match once,d with
 | true,true=>eY P m t len parts
 | true,false=>ady (eY P m t len parts) (xA P m t len parts)
 | false,_=>pH P m t len parts
def mM (P:Program) (once:Bool) (m:aF) (src dst:TypeId) (x:AV):Option bY:=match once,cD P dst,x with
 | true,some el,.val (.string s)=>if rG P el∧nO P src∧cH P el=some 1 then bO (.tree s.size s.size (fQ s) false) m else none
 | _,_,_=>mK P m src dst x
theorem ap5 {P : Program} {w : World} {I : Nat → Prop} {ρ : cK} {m : aF} (hS : SR P w I ρ m) {once : Bool} {src dst : TypeId} {x : AV} {out : bY} (h : mM P once m src dst x = some out) (hfree : ∀ b, m.next ≤ b → b < out.m.next → ρ b = none) {v : Value} (hv : VR P w I ρ x v) (addr : Value) :
   iD P w I ρ m ((Go.convert src dst v).run P w) id out addr := by
 unfold mM at h
 split at h
 · rename_i el s hel
   split at h
   · rename_i hc
     obtain ⟨hu, hss, hsz1⟩ := hc
     have hds := aal hss
     simp only [bO, Option.some.injEq] at h
     subst h
     simp only [VR] at hv
     subst hv
     obtain ⟨cap, arr, w', h1, h2, h3, h4, h5, h6⟩ := ah8 (P := P) (w := w) el s
     obtain ⟨a, b⟩ := adi h3 hS
     refine ⟨.slice (some ⟨w.heap.size, 0, none⟩) s.size cap, w', _, _, ?_, ?_, a, b, fun d y h => by cases h⟩
     · simp [Go.convert, cX hds, cX (iC hel), cX (afc hu), h1]
     · simp only [id, VR]
       obtain ⟨fr, hfr⟩ := h3.blk
       refine ⟨_, 0, cap, rfl, .inr rfl, ⟨Nat.le_refl _, h2⟩, (fun h => by cases h), afn s, ?_⟩
       exact iB (afm s) fun j hj => by rw [cell_of_row _ _ _ _ _ _ hfr, Nat.zero_add]; exact h5 j (by rw [afo] at hj; exact hj)
   · cases h
 · exact aia hS h hfree hv addr
theorem ap6 {P:Program} {m:aF} {once:Bool} {src dst:TypeId} {x:AV} {out:bY} (h:mM P once m src dst x=some out):out.wb=none:=by
 unfold mM at h
 split at h
 ·split at h
  ·simp only [bO,Option.some.injEq] at h;subst h;rfl
  ·cases h
 ·unfold mK at h
  split at h
  ·split at h
   ·split at h
    ·simp only [bO,Option.some.injEq] at h;subst h;rfl
    ·cases h
   ·cases h
  ·split at h
   ·split at h
    ·obtain ⟨_,_,h⟩:=awC h
     split at h
     ·obtain ⟨_,_,h⟩:=awC h
      simp only [bO,Option.some.injEq] at h;subst h;rfl
     ·cases h
    ·cases h
   ·split at h
    ·obtain ⟨_,_,rfl⟩:=awD h;rfl
    ·cases h
def nR (P:Program) (d once:Bool) (m:aF) (src dst:TypeId) (x:AV):Option bY:=match once && d with
 | true=>(match x with
  | .sl .. => none
  | _=>mM P once m src dst x)
 | false=>mM P once m src dst x
theorem aiF {P:Program} {d once:Bool} {m:aF} {src dst:TypeId} {x:AV} {out:bY} (h:nR P d once m src dst x=some out):mM P once m src dst x=some out:=by
 unfold nR at h
 split at h
 ·split at h
  ·cases h
  ·exact h
 ·exact h
theorem ap7 {P:Program} {d once:Bool} {m:aF} {t:TypeId} {x av:AV} (h:tD P d once m t x=some av):i5 P m t x=some av:=by
 unfold tD at h
 split at h
 ·split at h
  ·exact h
  ·cases h
 ·exact h
def ab6 (P:Program) (m:aF) (t:TypeId) (x:AV) (lo hi mx:Option AV):Option bY:=if slOk P m t x then (bH lo).bind fun lo=>(bH hi).bind fun hi=>(bH mx).bind fun mx=>eQ (kI P t lo hi mx x) m else none
def sliceX (P:Program) (d once:Bool) (m:aF) (t:TypeId) (x:AV) (lo hi mx:Option AV):Option bY:=match d && once with
 | true=>(match x with
  | .sl .. => none
  | _=>ab6 P m t x lo hi mx)
 | false=>ab6 P m t x lo hi mx
theorem ap8 {P:Program} {d once:Bool} {m:aF} {t:TypeId} {x:AV} {lo hi mx:Option AV} {out:bY} (h:sliceX P d once m t x lo hi mx=some out):ab6 P m t x lo hi mx=some out:=by
 unfold sliceX at h
 split at h
 ·split at h
  ·cases h
  ·exact h
 ·exact h
def eG (r:Option bY) (K:bY→Prop):Prop:=match r with
 | some o=>K o
 | none=>False
def aiG (P:Program) (f:FuncId) (args:List AV) (m:aF) (K:bY→Prop):Prop :=
 ∃ args' r,eM 3 m args=some args'∧aX P f args' r∧(jG args=false∨r.apart=true)∧K ⟨shift m.next r.v,d8 P m r.rows,none⟩
def aiH (P:Program) (f:FuncId) (args:List AV) (m:aF) (K:bY→Prop):Prop:=fA P f args m fun v m'=>K ⟨v,m',none⟩
def ap9 (P:Program) (f:FuncId) (args:List AV) (m:aF) (K:bY→Prop):Prop:=∃ r m',fA P f args m (fun v m1=>v=r∧m1=m')∧K ⟨r,m',none⟩
def aiI (P:Program) (f:FuncId) (args:List AV) (m:aF) (K:bY→Prop):Prop :=
 ∃ args' m1 r,fzs m args=some (args',m1)∧aX P f args' r∧K ⟨shift m1.next r.v,d8 P m1 r.rows,none⟩
def aiJ (P:Program) (f:FuncId) (args:List AV) (m:aF) (K:bY→Prop):Prop:=∃ r,apB P f args m r∧K ⟨r,m,none⟩
def m6 (P:Program) (d:Bool) (f:FuncId) (args:List AV) (m:aF) (K:bY→Prop):Prop:=aiG P f args m K∨(d=false∧aiH P f args m K)∨ap9 P f args m K∨aiJ P f args m K∨aiI P f args m K
def yU (P:Program) (f:FuncId) (args:List AV) (m:aF) (K:bY→Prop):Prop :=
 ∃ r,aX P f args r∧r.rows=[]∧(∀ k m,eM k m args=some args)∧jG args=false∧(∀ k,shift k r.v=r.v)∧K ⟨r.v,m,none⟩
def m7 (P:Program) (d once:Bool) (m:aF) (args:List AV) (K:bY→Prop):AV→Prop
 | .clo g caps=>match once && d with
  | true=>yU P g (args++caps) m K
  | false=>m6 P d g (args++caps) m K
 | _=>False
theorem aqa {P:Program} {d:Bool} {f:FuncId} {args:List AV} {m:aF} {K:bY→Prop} (h:yU P f args m K):m6 P d f args m K:=by
 obtain ⟨r,h1,h2,h3,h4,h5,h6⟩:=h
 exact .inl ⟨args,r,h3 3 m,h1,.inl h4,by rw [h5,h2];exact h6⟩
theorem aqb {P:Program} {d c:Bool} {f:FuncId} {args:List AV} {m:aF} {K:bY→Prop} (h:match c && d with | true=>yU P f args m K | false=>m6 P d f args m K):m6 P d f args m K:=by
 split at h
 ·exact aqa h
 ·exact h
def cL (P:Program) (d once:Bool) (e:bN) (m:aF) (ty:TypeId) (K:bY→Prop):Op→Prop
 | .call ⟨.builtin b,args,ts⟩=>eG (oO P m ts ty (args.toList.map (opd e)) b) K
 | .call ⟨.value f,args,_⟩=>m7 P d once m (args.toList.map (opd e)) K (opd e f)
 | .call _=>False
 | .buildSlice t len parts=>eG (tE P d once m t len (parts.toList.map fun p=>(p.1,opd e p.2))) K
 | .load t a=>eG (eQ (tD P d once m t (opd e a)) m) K
 | .slice t x lo hi mx=>eG (sliceX P d once m t (opd e x) (lo.map (opd e)) (hi.map (opd e)) (mx.map (opd e))) K
 | .convert src dst x=>eG (nR P d once m src dst (opd e x)) K
 | .lookup t x k false=>eG (eQ (vE P m t (opd e x) (opd e k)) m) K
 | .mapUpdate t x k v=>eG (tC P m t (opd e x) (opd e k) (opd e v)) K
 | .entry x=>eG (eQ (ab2 m (opd e x)) m) K
 | .makeMap _ none=>d=false∧aaz m K
 | .range t x=>d=false∧aaA P m t (opd e x) K
 | .next x false=>d=false∧aaB m (opd e x) K
 | op=>eG (c9 P once e m op) K
def tF (e:bN):Option (Nat×AV)→bN
 | some (d,y)=>e.set d y
 | none=>e
def aaD (c:Bool):Op→Bool
 | .load .. | .slice .. | .buildSlice .. | .convert .. | .call ⟨.value _,_,_⟩=>c
 | .move _ | .assign _ | .build .. | .pick .. | .binOp .. | .unOp .. | .nilCheck _ | .extract .. | .field .. | .fieldAddr .. | .indexAddr .. | .index .. => true
 | .call ⟨.builtin .len,_,_⟩ | .call ⟨.builtin .min,_,_⟩ | .call ⟨.builtin .max,_,_⟩=>true
 | _=>false
def tG (o:Oper):List Nat:=(o.after.toList.filter fun e=>Region.binds .any e).map (·.on)
def just (ms:List Nat) (bs:List Nat):Nat:=bs.foldl (fun x b=>x ||| (2 ^ b ||| ms.getD b 0)) 0
def aiK:List Oper→List Nat→List Nat
 | [],acc=>acc
 | o::l,acc=>aiK l (acc++[just acc (tG o)])
def kK (ops:Array Oper):List Nat:=aiK ops.toList []
def bef (ms:List Nat) (j i:Nat):Bool:=(ms.getD i 0).testBit j
def adz (once:Nat→Bool) (ops:Array Oper) (i:Nat):Bool:=(List.range ops.size).all fun k=>k == i || (match ops[k]? with | some o=>aaD (once (o.dst.getD 0)) o.op | none=>true) || bef (kK ops) k i || bef (kK ops) i k
def ab7 (ops:Array Oper):Op→Bool
 | .load _ (.tmp t)=>ops.all fun o=>o.dst != some t
 | _=>false
def afD:Op→Bool
 | .load .. => true
 | _=>false
def vF (once:Nat→Bool) (ops:Array Oper) (i:Nat):Bool:=((List.range ops.size).all fun k=>k == i || (match ops[k]? with | some o=>aaD (once (o.dst.getD 0)) o.op || (decide (k < i) && ab7 ops o.op) | none=>true) || bef (kK ops) k i || bef (kK ops) i k) && (List.range i).all fun k=>match ops[k]? with | some o=>aaD (once (o.dst.getD 0)) o.op || afD o.op | none=>true
def drawn (once:Nat→Bool) (ops:Array Oper) (k:Nat) (m:aF) (out:bY):Prop:=out.wb=none∧(adz once ops (ops.size - k)=true∨out.m=m∨(vF once ops (ops.size - k)=true∧∃ x,out.m=m.push x))
def iE (P:Program) (once:Nat→Bool) (d:Bool) (ops:Array Oper) (Q:bN→aF→Prop):List Oper→bN→aF→Prop
 | [],e,m=>Q e m
 | o::rest,e,m =>
  if qP ops e o then cL P d (once (o.dst.getD 0)) e m o.type (fun out=>(d=true→drawn once ops (rest.length+1) m out)∧iE P once d ops Q rest ((tF e out.wb).put o.dst out.v) out.m) o.op
  else iE P once d ops Q rest (e.put o.dst eE) m
def pR (K:bN→aF→Prop) (Q:Ex→bN→aF→Prop):Ex→bN→aF→Prop
 | .normal,e,m=>K e m
 | x,e,m=>Q x e m
def oR (id:Nat) (Q:Ex→bN→aF→Prop):Ex→bN→aF→Prop
 | .exit id',e,m=>if id'=id then Q .normal e m else Q (.exit id') e m
 | x,e,m=>Q x e m
def aaE (A B:Prop):AV→Prop
 | .val (.bool t)=>(t=true→A)∧(t=false→B)
 | _=>False
def yV (body:(Ex→bN→aF→Prop)→bN→aF→Prop) (Q:Ex→bN→aF→Prop) (e:bN) (m:aF):Prop :=
 ∃ (J:Nat→bN→aF→Prop) (n:Nat),J n e m∧∀ n e m,J n e m→body (pR (fun e' m'=>∃ n',n' < n∧J n' e' m') Q) e m
def aaF (n:Nat) (ops:Array Oper):Bool:=ops.all fun o=>match o.dst with
 | some d=>decide (d < n)
 | none=>true
section
variable {P:Program}
theorem aiL {w:World} {I:Nat→Prop} {ρ:cK} {ops:Array Oper} {e:bN} {a:Act} (he:ER P w I ρ e a) (o:Oper):Region.wanted o (yielded ops a.tmps)=qP ops e o:=by
 unfold Region.wanted qP
 cases o.guard with
 | none=>rfl
 | some g =>
  obtain ⟨j,want⟩:=g
  simp only [yielded]
  cases (ops[j]?).bind (·.dst) with
  | none=>rfl
  | some d =>
   simp only [Option.bind_some]
   have hd:=he d
   rw [Array.getD_eq_getD_getElem?] at hd
   cases hq:a.tmps[d]? with
   | none =>
    rw [hq] at hd
    simp only [Option.getD_none] at hd
    have hne:∀ b,e d ≠ .val (.bool b):=fun b hb=>by rw [hb] at hd;simp [VR,undef] at hd
    split
    ·rename_i hcontra;cases hcontra
    ·split
     ·rename_i b hb;exact absurd hb (hne b)
     ·rfl
   | some v =>
    rw [hq] at hd
    simp only [Option.getD_some] at hd
    cases v with
    | bool b =>
     have:=aoV hd
     rw [this]
     simp
    | _ =>
     simp only
     split
     ·rename_i b hb;rw [hb] at hd;simp [VR] at hd
     ·rfl
def aiM (P:Program) (w:World) (I:Nat→Prop) (ρ:cK) (m:aF) (a:Act) (o:Oper) (K:bY→Prop) (next:Act→World→Prop):Prop :=
 ∀ out v w' I' ρ',K out→VR P w' I' ρ' out.v v→SR P w' I' ρ' out.m→cP w I ρ m w' I' ρ' out.m→(∀ d y,out.wb=some (d,y)→VR P w' I' ρ' y (a.tmps.getD d undef))→(∀ b,out.m.next≤b→ρ' b=none)→next (a.put o.dst v) w'
theorem adA {w w':World} {I I':Nat→Prop} {ρ ρ':cK} {m m':aF} (s:cP w I ρ m w' I' ρ' m') (h:∀ b,m.next≤b→ρ b=none):∀ b,m'.next≤b→ρ' b=none:=by
 intro b hb
 cases hq:ρ' b with
 | none=>rfl
 | some x =>
  have:=s.lo b (h b (Nat.le_trans s.next hb)) (by rw [hq];simp)
  omega
theorem rQ {w : World} {I : Nat → Prop} {ρ : cK} {m : aF} {a : Act} {o : Oper} {out : bY} {K : bY → Prop} {next : Act → World → Prop} {Q : Exit → Act → World → Prop} (h : fF P w I ρ m a ((execOp a.eval o).run P w) out) (hK : K out)
   (hfree : ∀ b, m.next ≤ b → ρ b = none) (hg : aiM P w I ρ m a o K next) : o.wp P a w next Q := by
 obtain ⟨v, w', I', ρ', h1, h2, h3, h4, h5⟩ := h
 have := hg out v w' I' ρ' hK h2 h3 h4 h5 (adA h4 hfree)
 unfold Oper.wp
 rcases h1 with h1 | ⟨h1, h6⟩
 · rw [h1, Oper.upon_value]; exact this
 · rw [h1, Oper.upon_skip, ← h6]; exact this
theorem aqc {m:aF} {k:Nat} {cs cs':List AV} (h:eM k m cs=some cs'):cs'.length=cs.length:=(aau k cs cs' h).1
theorem aqd {w : World} {I : Nat → Prop} {ρ : cK} {e : bN} {a : Act} (he : ER P w I ρ e a) (args : Array Operand) {caps : List AV} {vcaps : Array Value} (hc : bK P w I ρ caps (fun j => vcaps[j]?)) (hs : vcaps.size = caps.length) :
   (args.map a.eval ++ vcaps).size = (args.toList.map (opd e) ++ caps).length ∧ bK P w I ρ (args.toList.map (opd e) ++ caps) (fun j => (args.map a.eval ++ vcaps)[j]?) := by
 refine ⟨by simp [hs], j2.2 fun j c hj => ?_⟩
 rcases Nat.lt_or_ge j args.size with h | h
 · rw [List.getElem?_append_left (by simpa using h), List.getElem?_map] at hj
   obtain ⟨x, hx, rfl⟩ := awD hj
   refine ⟨a.eval x, ?_, d9 he x⟩
   rw [Array.getElem?_append_left (by simpa using h)]
   simp at hx
   simp [hx]
 · rw [List.getElem?_append_right (by simpa using h)] at hj
   obtain ⟨v, h1, h2⟩ := fY hc hj
   refine ⟨v, ?_, h2⟩
   rw [Array.getElem?_append_right (by simpa using h)]
   simpa using h1
theorem afE {w : World} {a : Act} {dst : Option Tmp} {ty : TypeId} {pos : String} {after : Array Edge} {guard : Option (Nat × Bool)} {f : Operand} {args : Array Operand} {ts : Array TypeId} {g : FuncId} {vcaps : Array Value} {next : Act → World → Prop} {Q : Exit → Act → World → Prop}
   (hf : a.eval f = .func (.func g) #[] vcaps) (hc : s8 P g = true) (h : Calls P g (args.map a.eval ++ vcaps) w fun e w' => match e with | .returned v => next (a.put dst v) w' | _ => False) :
   Oper.wp P { dst := dst, op := .call { callee := .value f, args := args, argTypes := ts }, type := ty, pos := pos, after := after, guard := guard } a w next Q := by
 unfold s8 at hc
 split at hc
 · rename_i fn hfn
   simp only [Bool.and_eq_true, bne_iff_ne, ne_eq] at hc
   obtain ⟨h1, h2⟩ := hc
   have hb : fn.body.isNone = false := by cases hq : fn.body <;> simp_all
   have hrun : (execOp a.eval { dst := dst, op := .call { callee := .value f, args := args, argTypes := ts }, type := ty, pos := pos, after := after, guard := guard }).run P w = .ok (.enter g (args.map a.eval ++ vcaps)) w := by
     have hb' : ¬ fn.body = none := fun h => by rw [h] at h2; cases h2
     simp [execOp, resolve, hf, Deferred.ofValue, invoke, callFunc, hfn, h1, hb']
   unfold Oper.wp
   rw [hrun, Oper.upon_enter]
   exact h.mono fun e w' hq => by
     cases e with
     | returned v => exact hq
     | panicked c => exact hq.elim
     | outgrown => exact hq.elim
 · cases hc
theorem aqe {w : World} {I : Nat → Prop} {ρ : cK} {m : aF} (hS : SR P w I ρ m) {e : bN} {a : Act} (he : ER P w I ρ e a) {b : Builtin} {args : Array Operand} {ts : Array TypeId} {ty : TypeId} {out : bY} (h : oO P m ts ty (args.toList.map (opd e)) b = some out)
   (hfree : ∀ b, m.next ≤ b → b < out.m.next → ρ b = none) (consts : Array Bool) : fF P w I ρ m a ((builtin b ts ty consts (args.map a.eval)).run P w) out := by
 obtain ⟨args⟩ := args
 obtain ⟨ts⟩ := ts
 cases b <;> simp only [oO] at h <;> try (cases h; done)
 case append =>
   split at h
   · rename_i t t2 s x h2
     obtain ⟨o1, o2, ho⟩ : ∃ o1 o2, args = [o1, o2] := by
       match args, h2 with
       | [o1, o2], _ => exact ⟨o1, o2, rfl⟩
     subst ho
     simp only [List.map_cons, List.map_nil, List.cons.injEq, and_true] at h2
     obtain ⟨rfl, rfl⟩ := h2
     split at h
     · rename_i hn
       obtain ⟨el, hel, h⟩ := awC h
       have hd := apn (ty := ty) (addr := undef) hS hel hn h hfree (d9 he o1) (d9 he o2)
       have em : Array.map a.eval ⟨[o1, o2]⟩ = #[a.eval o1, a.eval o2] := by simp
       rw [em]
       refine fF.of_does (s := Builtin.append_ #[t, t2] ty #[a.eval o1, a.eval o2]) hd (fun d y hw => ?_)
       unfold dW at h
       obtain ⟨_, _, h⟩ := awC h
       obtain ⟨_, _, h⟩ := awC h
       obtain ⟨_, _, h⟩ := awC h
       obtain ⟨_, _, h⟩ := awC h
       obtain ⟨_, _, h⟩ := awC h
       split at h
       · split at h
         · split at h
           · simp only [bO, Option.some.injEq] at h; subst h; cases hw
           · split at h
             · simp only [bO, Option.some.injEq] at h; subst h; cases hw
             · cases h
         · split at h
           · split at h
             · simp only [bO, Option.some.injEq] at h; subst h; cases hw
             · cases h
           · split at h
             · obtain ⟨_, _, h⟩ := awC h
               split at h
               · simp only [bO, Option.some.injEq] at h; subst h; cases hw
               · split at h
                 · simp only [bO, Option.some.injEq] at h; subst h; cases hw
                 · cases h
             · cases h
       · cases h
     · obtain ⟨el, hel, h⟩ := awC h
       split at h
       · rename_i hi
         obtain ⟨n, hn, h⟩ := awC h
         have hx : ∃ k, opd e o2 = .val (.int k n) := by
           unfold iA at hn
           split at hn
           · rename_i k z heq
             split at hn
             · rename_i hz
               simp only [Option.some.injEq] at hn
               exact ⟨k, by rw [heq, ← hn, Int.toNat_of_nonneg hz]⟩
             · cases hn
           · cases hn
         obtain ⟨k, hx⟩ := hx
         have hv2 : a.eval o2 = .int k n := by have := d9 he o2; rw [hx] at this; simpa only [VR] using this
         have hd := apr (ty := ty) (addr := undef) (k := k) hS hel hi h hfree (d9 he o1)
         have em : Array.map a.eval ⟨[o1, o2]⟩ = #[a.eval o1, .int k n] := by simp [hv2]
         rw [em]
         refine fF.of_does (s := Builtin.append_ #[t, t2] ty #[a.eval o1, .int k n]) hd (fun d y hw => ?_)
         unfold yN at h
         obtain ⟨_, _, h⟩ := awC h
         obtain ⟨_, _, h⟩ := awC h
         obtain ⟨_, _, h⟩ := awC h
         obtain ⟨_, _, h⟩ := awC h
         split at h
         · simp only [bO, Option.some.injEq] at h; subst h; cases hw
         · cases h
       · cases h
   · cases h
 case cap =>
   split at h
   · rename_i t x h2
     obtain ⟨o1, ho⟩ : ∃ o1, args = [o1] := by
       match args, h2 with
       | [o1], _ => exact ⟨o1, rfl⟩
     subst ho
     simp only [List.map_cons, List.map_nil, List.cons.injEq, and_true] at h2
     subst h2
     obtain ⟨el, hel, h⟩ := awC h
     obtain ⟨av, hav, rfl⟩ := awD h
     have hd := aps (ty := ty) (addr := undef) hS hel hav (d9 he o1)
     have em : Array.map a.eval ⟨[o1]⟩ = #[a.eval o1] := by simp
     rw [em]
     exact fF.of_does (s := Builtin.cap_ #[t] ty #[a.eval o1]) hd (fun d y hw => by cases hw)
   · cases h
 case clear =>
   split at h
   · rename_i t x h2
     obtain ⟨o1, ho⟩ : ∃ o1, args = [o1] := by
       match args, h2 with
       | [o1], _ => exact ⟨o1, rfl⟩
     subst ho
     simp only [List.map_cons, List.map_nil, List.cons.injEq, and_true] at h2
     subst h2
     obtain ⟨el, hel, h⟩ := awC h
     have hd := apt (ty := ty) (addr := undef) hS hel h (d9 he o1)
     have em : Array.map a.eval ⟨[o1]⟩ = #[a.eval o1] := by simp
     rw [em]
     refine fF.of_does (s := Builtin.clear_ #[t] ty #[a.eval o1]) hd (fun d y hw => ?_)
     unfold adb at h
     split at h
     · simp only [bO, Option.some.injEq] at h; subst h; cases hw
     · simp only [bO, Option.some.injEq] at h; subst h; cases hw
     · split at h
       · simp only [bO, Option.some.injEq] at h; subst h; cases hw
       · obtain ⟨_, _, h⟩ := awC h
         obtain ⟨_, _, h⟩ := awC h
         obtain ⟨_, _, h⟩ := awC h
         split at h
         · simp only [bO, Option.some.injEq] at h; subst h; cases hw
         · cases h
     · cases h
   · cases h
 case copy =>
   split at h
   · rename_i t trest d x h2
     obtain ⟨o1, o2, ho⟩ : ∃ o1 o2, args = [o1, o2] := by
       match args, h2 with
       | [o1, o2], _ => exact ⟨o1, o2, rfl⟩
     subst ho
     simp only [List.map_cons, List.map_nil, List.cons.injEq, and_true] at h2
     obtain ⟨rfl, rfl⟩ := h2
     obtain ⟨el, hel, h⟩ := awC h
     have hd := apu (ts := trest) (ty := ty) (addr := undef) hS hel h (d9 he o1) (d9 he o2)
     have em : Array.map a.eval ⟨[o1, o2]⟩ = #[a.eval o1, a.eval o2] := by simp
     rw [em]
     refine fF.of_does (s := Builtin.copy_ (t :: trest).toArray ty #[a.eval o1, a.eval o2]) hd (fun d y hw => ?_)
     unfold sZ at h
     obtain ⟨_, _, h⟩ := awC h
     obtain ⟨_, _, h⟩ := awC h
     split at h
     · obtain ⟨_, _, h⟩ := awC h
       split at h
       · simp only [bO, Option.some.injEq] at h; subst h; cases hw
       · cases h
     · obtain ⟨_, _, h⟩ := awC h
       split at h
       · simp only [bO, Option.some.injEq] at h; subst h; cases hw
       · cases h
   · cases h
 case len =>
   split at h
   · rename_i t x h2
     obtain ⟨o1, ho⟩ : ∃ o1, args = [o1] := by
       match args, h2 with
       | [o1], _ => exact ⟨o1, rfl⟩
     subst ho
     simp only [List.map_cons, List.map_nil, List.cons.injEq, and_true] at h2
     subst h2
     have := fF.of_pur (a := a) (s := Builtin.len_ #[t] ty #[a.eval o1]) hS h fun av hav => apx hav (d9 he o1)
     have em : Array.map a.eval ⟨[o1]⟩ = #[a.eval o1] := by simp
     rw [em]
     exact this
   · cases h
 case max =>
   obtain ⟨vs, hvs, h⟩ := awC h
   have hq := adh (P := P) (w := w) (I := I) (ρ := ρ) _ vs (fun j => (args.map a.eval)[j]?) hvs (j2.2 fun j c hj => by
     rw [List.getElem?_map] at hj
     obtain ⟨x, hx, rfl⟩ := awD hj
     exact ⟨a.eval x, by simp [hx], d9 he x⟩)
   have hvl : vs = args.map a.eval := by
     apply List.ext_getElem?
     intro j
     rcases Nat.lt_or_ge j args.length with hl | hl
     · rw [← hq.2 j (by simpa using hl)]
     · rw [List.getElem?_eq_none (by rw [hq.1]; simpa using hl), List.getElem?_eq_none (by simpa using hl)]
   have := fF.of_pur (a := a) (s := Builtin.max_ ⟨ts⟩ ty vs.toArray) hS h fun av hav => by
     obtain ⟨z, hz, rfl⟩ := awD hav
     exact ⟨z, rO P _ _ hz w, by simp only [VR]⟩
   rw [hvl] at this
   have e : (List.map a.eval args).toArray = Array.map a.eval ⟨args⟩ := by simp
   rw [e] at this
   exact this
 case min =>
   obtain ⟨vs, hvs, h⟩ := awC h
   have hq := adh (P := P) (w := w) (I := I) (ρ := ρ) _ vs (fun j => (args.map a.eval)[j]?) hvs (j2.2 fun j c hj => by
     rw [List.getElem?_map] at hj
     obtain ⟨x, hx, rfl⟩ := awD hj
     exact ⟨a.eval x, by simp [hx], d9 he x⟩)
   have hvl : vs = args.map a.eval := by
     apply List.ext_getElem?
     intro j
     rcases Nat.lt_or_ge j args.length with hl | hl
     · rw [← hq.2 j (by simpa using hl)]
     · rw [List.getElem?_eq_none (by rw [hq.1]; simpa using hl), List.getElem?_eq_none (by simpa using hl)]
   have := fF.of_pur (a := a) (s := Builtin.min_ ⟨ts⟩ ty vs.toArray) hS h fun av hav => by
     obtain ⟨z, hz, rfl⟩ := awD hav
     exact ⟨z, rO P _ _ hz w, by simp only [VR]⟩
   rw [hvl] at this
   have e : (List.map a.eval args).toArray = Array.map a.eval ⟨args⟩ := by simp
   rw [e] at this
   exact this
theorem ab8 {w : World} {I : Nat → Prop} {ρ : cK} {m : aF} (hS : SR P w I ρ m) {d once : Bool} {e : bN} {a : Act} (he : ER P w I ρ e a) {o : Oper} {K : bY → Prop} (h : cL P d once e m o.type K o.op) (hfree : ∀ b, m.next ≤ b → ρ b = none)
   {next : Act → World → Prop} {Q : Exit → Act → World → Prop} (hg : aiM P w I ρ m a o K next) : o.wp P a w next Q := by
 have plain : eG (c9 P once e m o.op) K → o.wp P a w next Q := by
   intro h
   unfold eG at h
   split at h
   · rename_i out ho
     exact rQ (apA hS he ho (fun b h1 _ => hfree b h1)) h hfree hg
   · exact h.elim
 obtain ⟨dst, op, type, pos, after, guard⟩ := o
 cases op <;> try (exact plain h)
 case lookup t x k ok =>
   cases ok with
   | true => exact plain h
   | false =>
     simp only [cL] at h
     unfold eG at h
     split at h
     · rename_i out ho
       refine rQ ?_ h hfree hg
       exact fF.of_pur hS ho fun av hav => apY hS hav (d9 he x) (d9 he k)
     · exact h.elim
 case entry x =>
   simp only [cL] at h
   unfold eG at h
   split at h
   · rename_i out ho
     refine rQ ?_ h hfree hg
     exact fF.of_pur hS ho fun av hav => apN hS hav (d9 he x)
   · exact h.elim
 case mapUpdate t x k v =>
   simp only [cL] at h
   unfold eG at h
   split at h
   · rename_i out ho
     refine rQ ?_ h hfree hg
     obtain ⟨y, w', I', ρ', h1, h2, h3, h4, h5⟩ := apZ hS ho (d9 he x) (d9 he k) (d9 he v) undef
     refine ⟨undef, w', I', ρ', .inr ⟨by simp [execOp, h1], rfl⟩, h2, h3, h4, fun d y hw => ?_⟩
     have : out.wb = none := by
       exact ap2 ho
     rw [this] at hw; cases hw
   · exact h.elim
 case makeMap t r =>
   cases r with
   | some r => exact plain h
   | none =>
     simp only [cL] at h
     obtain ⟨out, hK, hwb, hd⟩ := apO (t := t) hS h.2 undef
     exact rQ (fF.of_does hd (fun d y hw => by rw [hwb] at hw; cases hw)) hK hfree hg
 case range t x =>
   simp only [cL] at h
   obtain ⟨out, hK, hwb, hd⟩ := apP hS h.2 (d9 he x) undef
   exact rQ (fF.of_does hd (fun d y hw => by rw [hwb] at hw; cases hw)) hK hfree hg
 case next x ok =>
   cases ok with
   | true => exact plain h
   | false =>
     simp only [cL] at h
     obtain ⟨out, hK, hwb, hd⟩ := apQ (ty := type) hS h.2 (d9 he x) undef
     exact rQ (fF.of_does hd (fun d y hw => by rw [hwb] at hw; cases hw)) hK hfree hg
 case buildSlice t len parts =>
   simp only [cL] at h
   have bT : ∀ out, eY P m t len (parts.toList.map fun p => (p.1, opd e p.2)) = some out → (∀ b, m.next ≤ b → ρ b = none) → fF P w I ρ m a ((execOp a.eval ⟨dst, .buildSlice t len parts, type, pos, after, guard⟩).run P w) out := by
     intro out ho hfree
     have := ap3 hS ho (fun b h1 _ => hfree b h1) (adn (e := e) (a := a) parts) (ado he parts) undef
     rw [← adp] at this
     refine fF.of_does this (fun d y hw => ?_)
     unfold eY at ho
     obtain ⟨_, _, ho⟩ := awC ho
     obtain ⟨_, _, ho⟩ := awC ho
     obtain ⟨_, _, ho⟩ := awC ho
     split at ho
     · obtain ⟨_, _, ho⟩ := awC ho
       split at ho
       · cases ho
       simp only [bO, Option.some.injEq] at ho; subst ho; cases hw
     · cases ho
   have bF : ∀ out, xA P m t len (parts.toList.map fun p => (p.1, opd e p.2)) = some out → (∀ b, m.next ≤ b → ρ b = none) → fF P w I ρ m a ((execOp a.eval ⟨dst, .buildSlice t len parts, type, pos, after, guard⟩).run P w) out := by
     intro out ho hfree
     have := ap4 hS ho (fun b h1 _ => hfree b h1) (adn (e := e) (a := a) parts) (ado he parts) undef
     rw [← adp] at this
     refine fF.of_does this (fun d y hw => ?_)
     unfold xA at ho
     obtain ⟨_, _, ho⟩ := awC ho
     obtain ⟨_, _, ho⟩ := awC ho
     obtain ⟨_, _, ho⟩ := awC ho
     split at ho
     · obtain ⟨_, _, ho⟩ := awC ho
       obtain ⟨_, _, ho⟩ := awC ho
       simp only [bO, Option.some.injEq] at ho; subst ho; cases hw
     · cases ho
   unfold tE at h
   split at h
   · unfold eG at h
     split at h
     · rename_i out ho
       exact rQ (bT out ho hfree) h hfree hg
     · exact h.elim
   · unfold eG ady at h
     split at h
     · rename_i out ho
       split at ho
       · rename_i o hq
         cases ho
         exact rQ (bT _ hq hfree) h hfree hg
       · exact rQ (bF out ho hfree) h hfree hg
     · exact h.elim
   · exact plain h
 case convert src dst x =>
   simp only [cL] at h
   unfold eG at h
   split at h
   · rename_i out ho
     refine rQ ?_ h hfree hg
     have := ap5 (addr := undef) hS (aiF ho) (fun b h1 _ => hfree b h1) (d9 he x)
     exact fF.of_does this (fun d y hw => by rw [ap6 (aiF ho)] at hw; cases hw)
   · exact h.elim
 case slice t x lo hi mx =>
   simp only [cL] at h
   refine plain ?_
   unfold eG at h
   split at h
   · rename_i out ho
     have hq := ap8 ho
     unfold ab6 at hq
     simp only [c9, hq]
     exact h
   · exact h.elim
 case load t x =>
   simp only [cL] at h
   refine plain ?_
   unfold eG at h
   split at h
   · rename_i out ho
     obtain ⟨av, hav, rfl⟩ := awD ho
     simp only [c9, ap7 hav]
     exact h
   · exact h.elim
 case call c =>
   obtain ⟨callee, args, ts⟩ := c
   cases callee with
   | invoke r n => exact h.elim
   | builtin b =>
     simp only [cL] at h
     unfold eG at h
     split at h
     · rename_i out ho
       refine rQ ?_ h hfree hg
       simp only [execOp, resolve, pure_bind, invoke]
       exact aqe hS he ho (fun b h1 _ => hfree b h1) _
     · exact h.elim
   | value f =>
     simp only [cL] at h
     have hfv := d9 he f
     unfold m7 at h
     split at h
     · rename_i g caps hcl
       have h := aqb h
       rw [hcl] at hfv
       simp only [VR] at hfv
       obtain ⟨vcaps, hf, hcs, hcv⟩ := hfv
       obtain ⟨hsz, hargs⟩ := aqd he args hcv hcs
       have closed : ∀ (I1 : Nat → Prop) (m1 : aF) (args' : List AV) (r : gJ), SR P w I1 ρ m1 → cP w I ρ m w I1 ρ m1 → (args.map a.eval ++ vcaps).size = args'.length → bK P w I1 dL args' (fun j => (args.map a.eval ++ vcaps)[j]?) → aX P g args' r → K ⟨shift m1.next r.v, d8 P m1 r.rows, none⟩ →
           Oper.wp P { dst := dst, op := .call { callee := .value f, args := args, argTypes := ts }, type := type, pos := pos, after := after, guard := guard } a w next Q := by
         intro I1 m1 args' r hS1 hst1 hsz1 hargs1 h2 h4
         have hfree1 := adA hst1 hfree
         refine afE hf h2.1 ?_
         refine (h2.2 w I1 _ hS1.lt hsz1 hargs1).mono ?_
         rintro en w' ⟨v, I', ρ', rfl, q1, q2, q3⟩
         have hnoWr : ∀ g, ¬ Wr dL aF.empty g := by
           rintro g (⟨b, k, o, h1, _⟩ | h1)
           · simp [aF.empty] at h1
           · exact wS h1
         have hback : ∀ g, I' g → I1 g ∨ w.heap.size ≤ g := fun g hg => by
           rcases q3.back g hg with h | h | h
           · exact .inl h
           · exact absurd h (hnoWr g)
           · exact .inr h
         obtain ⟨I'', i1, i2, i3⟩ := ain hS1 (fun _ h => h) (fun b hb _ => hfree1 b hb) q2 q3 (.inl hback)
         refine hg _ v w' I'' _ h4 ?_ i2 (hst1.trans i3) (fun d y h => by cases h) (adA i3 hfree1)
         have hk : ∀ b x, ρ' b = some x → b < r.rows.length := fun b x h => by
           have := q3.lo b rfl (by rw [h]; simp)
           rw [yT] at this
           simp [aF.empty] at this
           exact this
         refine pP (⟨fun g hg => (i1 g).2 ((hback g hg).imp id fun h => ⟨hg, h⟩), fun _ _ => rfl, fun _ _ h => h⟩ : gT w' w' I' I'') (fun _ _ h => h) _ _ (afu hk r.v v q1)
       have h : aiJ P g (args.toList.map (opd e) ++ caps) m K ∨ aiI P g (args.toList.map (opd e) ++ caps) m K ∨ aiG P g (args.toList.map (opd e) ++ caps) m K ∨ aiH P g (args.toList.map (opd e) ++ caps) m K := by
         rcases h with h | ⟨_, h⟩ | ⟨r, m', h1, h2⟩ | h | h
         rotate_left 3
         · exact .inl h
         · exact .inr (.inl h)
         all_goals refine .inr (.inr ?_)
         · exact .inl h
         · exact .inr h
         · refine .inr ⟨h1.1, fun w I ρ vs a1 a2 a3 a4 => (h1.2 w I ρ vs a1 a2 a3 a4).mono ?_⟩
           rintro en w' ⟨v, r', m1, I', ρ', q0, ⟨q1, q2⟩, q3⟩
           subst q1
           subst q2
           exact ⟨v, _, _, I', ρ', q0, h2, q3⟩
       rcases h with ⟨r, h1, h2⟩ | ⟨args', m1, r, h1, h2, h3⟩ | ⟨args', r, h1, h2, h3, h4⟩ | h
       · -- at once
         obtain ⟨v, hrun, hv⟩ := h1 w I ρ _ hS hsz hargs
         unfold Oper.wp
         have : (execOp a.eval { dst := dst, op := .call { callee := .value f, args := args, argTypes := ts }, type := type, pos := pos, after := after, guard := guard }).run P w = .ok (.value v) w := by
           simp [execOp, resolve, hf, Deferred.ofValue, invoke, hrun]
         rw [this, Oper.upon_value]
         exact hg _ v w I ρ h2 hv hS (cP.refl _ _ _ _) (fun d y h => by cases h) hfree
       · -- frozen
         obtain ⟨I1, a1, b1, c1, d1, d2, d3⟩ := wU _ m m1 I args' _ h1 hS hargs
         exact closed I1 m1 args' r a1 b1 (by rw [hsz, d2]) d1 h2 h3
       · -- closed
         rcases h3 with h3 | h3
         · have hargs' := yS _ _ h3 hargs
           have e1 := adr 3 _ _ h3 h1
           subst e1
           exact closed I m _ r hS (cP.refl _ _ _ _) hsz hargs' h2 h4
         · have hargs' := aav hS 3 _ _ _ h1 hargs
           simp only [gJ.apart, Bool.and_eq_true, List.all_eq_true] at h3
           obtain ⟨h3, h5⟩ := h3
           refine afE hf h2.1 ?_
           refine (h2.2 w (rP w) _ (fun _ h => h) (by rw [hsz, aqc h1]) hargs').mono ?_
           rintro en w' ⟨v, I', ρ', rfl, q1, q2, q3⟩
           obtain ⟨I'', i1, i2, i3⟩ := ain hS (fun g hg => hS.lt g hg) (fun b hb _ => hfree b hb) q2 q3 (.inr h5)
           refine hg _ v w' I'' _ h4 ?_ i2 i3 (fun d y h => by cases h) (adA i3 hfree)
           have hk : ∀ b x, ρ' b = some x → b < r.rows.length := fun b x h => by
             have := q3.lo b rfl (by rw [h]; simp)
             rw [yT] at this
             simp [aF.empty] at this
             exact this
           exact afu hk r.v v (aim r.v v h3 q1)
       · -- open
         refine afE hf h.1 ?_
         refine (h.2 w I ρ _ hS hsz hargs hfree).mono ?_
         rintro en w' ⟨v, r, m', I', ρ', rfl, q0, q1, q2, q3, q4⟩
         exact hg _ v w' I' ρ' q0 q1 q2 q3 (fun d y h => by cases h) q4
     · exact h.elim
end
structure kY (P:Program) (w0:World) (I0:Nat→Prop) (ρ0:cK) (m0:aF) (n:Nat) (D:List Deferred) (e:bN) (m:aF) (a:Act) (w:World) (I:Nat→Prop) (ρ:cK):Prop where
 er:ER P w I ρ e a
 sr:SR P w I ρ m
 free:∀ b,m.next≤b→ρ b=none
 step:cP w0 I0 ρ0 m0 w I ρ m
 size:a.tmps.size=n
 defers:a.defers=D
section
variable {P:Program} {w0:World} {I0:Nat→Prop} {ρ0:cK} {m0:aF} {n:Nat} {D:List Deferred}
theorem afF (a:Act) (d:Option Tmp) (v:Value):(a.put d v).tmps.size=a.tmps.size:=by cases d <;> simp [Act.put]
theorem afG (a:Act) (d:Option Tmp) (v:Value):(a.put d v).defers=a.defers:=by cases d <;> rfl
theorem kY.next {e : bN} {m : aF} {a : Act} {w : World} {I : Nat → Prop} {ρ : cK} (h : kY P w0 I0 ρ0 m0 n D e m a w I ρ) {o : Oper} (hd : ∀ d, o.dst = some d → d < n) {out : bY} {v : Value} {w' : World} {I' : Nat → Prop} {ρ' : cK}
   (h2 : VR P w' I' ρ' out.v v) (h3 : SR P w' I' ρ' out.m) (h4 : cP w I ρ m w' I' ρ' out.m) (h5 : ∀ d y, out.wb = some (d, y) → VR P w' I' ρ' y (a.tmps.getD d undef)) (h6 : ∀ b, out.m.next ≤ b → ρ' b = none) :
   kY P w0 I0 ρ0 m0 n D ((tF e out.wb).put o.dst out.v) out.m (a.put o.dst v) w' I' ρ' where
 er := by
   have h7 : ER P w' I' ρ' (tF e out.wb) a := by
     have h8 := ae8 h4 h.sr h.er
     cases hw : out.wb with
     | none => exact h8
     | some x =>
       obtain ⟨d, y⟩ := x
       intro t
       simp only [tF, bN.set]
       split
       · rename_i ht; subst ht; exact h5 _ y hw
       · exact h8 t
   exact ae9 h7 (fun t ht => by rw [h.size]; exact hd t ht) h2
 sr := h3
 free := h6
 step := h.step.trans h4
 size := by rw [afF]; exact h.size
 defers := by rw [afG]; exact h.defers
theorem adB {ops:Array Oper} (h:aaF n ops=true) {i:Nat} {o:Oper} (ho:ops[i]? = some o):∀ d,o.dst=some d→d < n:=by
 intro d hd
 unfold aaF at h
 obtain ⟨hi,rfl⟩:=Array.getElem?_eq_some_iff.1 ho
 have:=Array.all_eq_true.1 h i hi
 rw [hd] at this
 simpa using this
theorem afH {once : Nat → Bool} {ops : Array Oper} (hr : aaF n ops = true) {Q : bN → aF → Prop} {Q' : Exit → Act → World → Prop} (hQ : ∀ e m a w I ρ, Q e m → kY P w0 I0 ρ0 m0 n D e m a w I ρ → Q' .normal a w) :
   ∀ (l : List Oper) (i : Nat) (e : bN) (m : aF) (a : Act) (w : World) (I : Nat → Prop) (ρ : cK), ops.toList.drop i = l → iE P once false ops Q l e m → kY P w0 I0 ρ0 m0 n D e m a w I ρ → wpOps P ops Q' (List.range' i l.length) a w
 | [], i, e, m, a, w, I, ρ, hl, h, hR => by
   simp only [iE] at h
   simp only [List.length_nil, List.range'_zero, wpOps]
   exact hQ e m a w I ρ h hR
 | o :: rest, i, e, m, a, w, I, ρ, hl, h, hR => by
   have ho : ops[i]? = some o := by
     have : (ops.toList.drop i)[0]? = some o := by rw [hl]; rfl
     rw [List.getElem?_drop] at this
     simpa using this
   have hl' : ops.toList.drop (i + 1) = rest := by
     rw [← List.drop_drop, hl]; rfl
   simp only [iE] at h
   rw [List.length_cons, List.range'_succ]
   simp only [wpOps, ho]
   rw [aiL hR.er o]
   split at h
   · rename_i hw
     rw [if_pos hw]
     refine .inl (ab8 hR.sr hR.er h hR.free ?_)
     intro out v w' I' ρ' hK h2 h3 h4 h5 h6
     exact afH hr hQ rest (i + 1) _ _ _ _ _ _ hl' hK.2 (hR.next (adB hr ho) h2 h3 h4 h5 h6)
   · rename_i hw
     rw [if_neg hw]
     refine afH hr hQ rest (i + 1) _ _ _ _ I ρ hl' h ⟨ae9 hR.er (fun t ht => by rw [hR.size]; exact adB hr ho t ht) (by simp only [eE, undef, VR]), hR.sr, hR.free, hR.step, by rw [afF]; exact hR.size, by rw [afG]; exact hR.defers⟩
def kZ (ops:Array Oper) (i:Nat):Option Nat:=(ops[i]?).bind (·.dst)
def afI (ops:Array Oper):Bool :=
 (List.range ops.size).all fun i=>match ops[i]? with
  | none=>true
  | some o=>(tG o).all (fun b=>decide (b < i)) && (kK ops).getD i 0 == just (kK ops) (tG o) &&
   (List.range ops.size).all fun j=>match kZ ops j with
    | none=>true
    | some t=>(j == i || o.dst != some t) && (!(o.looksAt ops).contains t || j == i || (match decide (j < i) with | true=>bef (kK ops) j i | false=>bef (kK ops) i j))
end
section
variable {P:Program}
theorem vG {r:Option bY} {K:bY→Prop} (h:eG r K):∃ out,r=some out∧K out:=by
 unfold eG at h
 split at h
 ·rename_i o;exact ⟨o,rfl,h⟩
 ·exact h.elim
theorem aqf {c:Bool} {e:bN} {m:aF} {ty:TypeId} {K:bY→Prop} {op:Op} (h:cL P true c e m ty K op):∃ out,K out∧cL P true c e m ty (fun x=>x=out) op:=by
 have pl:eG (c9 P c e m op) K→∃ out,K out∧eG (c9 P c e m op) (fun x=>x=out):=by
  intro h
  obtain ⟨out,h1,h2⟩:=vG h
  exact ⟨out,h2,by rw [h1];rfl⟩
 cases op <;> try (exact pl h)
 case lookup t x k ok =>
  cases ok with
  | true=>exact pl h
  | false =>
   simp only [cL] at h ⊢
   obtain ⟨out,h1,h2⟩:=vG h
   exact ⟨out,h2,by rw [h1];rfl⟩
 case entry x =>
  simp only [cL] at h ⊢
  obtain ⟨out,h1,h2⟩:=vG h
  exact ⟨out,h2,by rw [h1];rfl⟩
 case mapUpdate t x k v =>
  simp only [cL] at h ⊢
  obtain ⟨out,h1,h2⟩:=vG h
  exact ⟨out,h2,by rw [h1];rfl⟩
 case makeMap t r =>
  cases r with
  | some r=>exact pl h
  | none=>cases h.1
 case range t x=>cases h.1
 case next x ok =>
  cases ok with
  | true=>exact pl h
  | false=>cases h.1
 case buildSlice t len parts =>
  simp only [cL] at h ⊢
  obtain ⟨out,h1,h2⟩:=vG h
  exact ⟨out,h2,by rw [h1];rfl⟩
 case slice t x lo hi mx =>
  simp only [cL] at h ⊢
  obtain ⟨out,h1,h2⟩:=vG h
  exact ⟨out,h2,by rw [h1];rfl⟩
 case load t x =>
  simp only [cL] at h ⊢
  obtain ⟨out,h1,h2⟩:=vG h
  exact ⟨out,h2,by rw [h1];rfl⟩
 case convert src dst x =>
  simp only [cL] at h ⊢
  obtain ⟨out,h1,h2⟩:=vG h
  exact ⟨out,h2,by rw [h1];rfl⟩
 case call c =>
  obtain ⟨callee,args,ts⟩:=c
  cases callee with
  | invoke r n=>exact h.elim
  | builtin b =>
   simp only [cL] at h ⊢
   obtain ⟨out,h1,h2⟩:=vG h
   exact ⟨out,h2,by rw [h1];rfl⟩
  | value f =>
   simp only [cL] at h ⊢
   unfold m7 at h
   split at h
   ·rename_i g caps hcl
    cases c with
    | true =>
     obtain ⟨r,h1,h2,h3,h4,h5,h6⟩:=h
     refine ⟨_,h6, ?_⟩
     simp only [hcl,m7]
     exact ⟨r,h1,h2,h3,h4,h5,rfl⟩
    | false =>
    simp only [Bool.false_and] at h
    rcases h with ⟨args',r,h1,h2,h3,h4⟩ | ⟨h,_⟩ | ⟨r,m',h1,h2⟩ | ⟨r,h1,h2⟩ | ⟨args',m1,r,h1,h2,h3⟩
    ·refine ⟨_,h4, ?_⟩
     simp only [hcl,m7]
     exact .inl ⟨args',r,h1,h2,h3,rfl⟩
    ·cases h
    ·refine ⟨_,h2, ?_⟩
     simp only [hcl,m7]
     exact .inr (.inr (.inl ⟨r,m',h1,rfl⟩))
    ·refine ⟨_,h2, ?_⟩
     simp only [hcl,m7]
     exact .inr (.inr (.inr (.inl ⟨r,h1,rfl⟩)))
    ·refine ⟨_,h3, ?_⟩
     simp only [hcl,m7]
     exact .inr (.inr (.inr (.inr ⟨args',m1,r,h1,h2,rfl⟩)))
   ·exact h.elim
theorem aqg {e e':bN} {x:Operand} (h:∀ t,x = .tmp t→e' t=e t):opd e' x=opd e x:=by
 cases x with
 | tmp t=>exact h t rfl
 | const v=>rfl
 | global g=>rfl
 | func f=>rfl
theorem afJ {e e':bN} {l:List Operand} (h:∀ x∈l,opd e' x=opd e x):l.map (opd e')=l.map (opd e):=List.map_congr_left h
theorem aiN {e e':bN} {l:List (Nat×Operand)} (h:∀ x∈l.map (·.2),opd e' x=opd e x):l.map (fun p=>(p.1,opd e' p.2))=l.map (fun p=>(p.1,opd e p.2)) :=
 List.map_congr_left fun p hp=>by rw [h p.2 (List.mem_map_of_mem hp)]
theorem afK {e e':bN} {o:Option Operand} (h:∀ x,o=some x→opd e' x=opd e x):o.map (opd e')=o.map (opd e):=by
 cases o with
 | none=>rfl
 | some x=>simp [h x rfl]
theorem afL {d c:Bool} {e e':bN} {m:aF} {ty:TypeId} {K:bY→Prop} {op:Op} (h:∀ x∈op.operands.toList,opd e' x=opd e x) (hs:cL P d c e m ty K op):cL P d c e' m ty K op:=by
 cases op <;> simp only [Op.operands,Call.operands] at h <;> simp only [cL,c9] at hs ⊢
 case lookup t x k ok =>
  cases ok <;> simp only [cL,c9] at hs ⊢
  ·rw [h x (by simp),h k (by simp)];exact hs
  ·exact hs
 case makeMap t r =>
  cases r <;> simp only [cL,c9] at hs ⊢ <;> exact hs
 case next x ok =>
  cases ok <;> simp only [cL,c9] at hs ⊢
  ·rw [h x (by simp)];exact hs
  ·exact hs
 case call cl =>
  obtain ⟨callee,args,ts⟩:=cl
  cases callee with
  | invoke r n=>exact hs.elim
  | builtin b =>
   simp only [cL] at hs ⊢
   rw [afJ (fun x hx=>h x (by simpa using hx))]
   exact hs
  | value f =>
   simp only [cL] at hs ⊢
   rw [afJ (fun x hx=>h x (by simp at hx ⊢;exact .inr hx)),h f (by simp)]
   exact hs
 case build t parts=>rw [aiN (fun x hx=>h x (by simpa using hx))];exact hs
 case buildSlice t n parts=>rw [aiN (fun x hx=>h x (by simpa using hx))];exact hs
 case slice t x l hi mx =>
  rw [h x (by simp),afK (fun y hy=>h y (by subst hy;simp)),afK (o:=hi) (fun y hy=>h y (by subst hy;simp)),afK (o:=mx) (fun y hy=>h y (by subst hy;simp))]
  exact hs
 case makeFunc fn first caps =>
  cases fn <;> simp only [c9] at hs ⊢
  case func f =>
   rw [afJ (fun x hx=>h x (by simp at hx ⊢;exact .inr hx))]
   exact hs
  all_goals exact hs
 all_goals first
  | exact hs
  | (simp at h;simp only [h];exact hs)
theorem aiO {c:Bool} {e:bN} {m m':aF} {ty:TypeId} {op:Op} {out:bY} (hp:aaD c op=true) (h:cL P true c e m ty (fun x=>x=out) op):out.m=m∧cL P true c e m' ty (fun x=>x=⟨out.v,m',none⟩) op:=by
 have po:∀ x:Option AV,eG (eQ x m) (fun x=>x=out)→out.m=m∧eG (eQ x m') (fun y=>y=⟨out.v,m',none⟩):=by
  intro x h
  cases x with
  | none=>exact h.elim
  | some v=>have h:(⟨v,m,none⟩:bY)=out:=h;subst h;exact ⟨rfl,rfl⟩
 have pi:∀ (i:Option Nat) (f:Nat→Option AV),eG (i.bind fun k=>eQ (f k) m) (fun x=>x=out)→out.m=m∧eG (i.bind fun k=>eQ (f k) m') (fun y=>y=⟨out.v,m',none⟩):=by
  intro i f h
  cases i with
  | none=>exact h.elim
  | some k=>exact po _ h
 cases op <;> simp only [aaD,Bool.false_eq_true] at hp <;> simp only [cL,c9] at h ⊢
 case call cl =>
  obtain ⟨callee,args,ts⟩:=cl
  cases callee with
  | invoke r n=>cases hp
  | value f =>
   subst hp
   simp only [cL] at h ⊢
   unfold m7 at h ⊢
   split at h
   ·obtain ⟨r,h1,h2,h3,h4,h5,h6⟩:=h
    subst h6
    exact ⟨rfl,r,h1,h2,h3,h4,h5,rfl⟩
   ·exact h.elim
  | builtin b =>
   simp only [cL] at h ⊢
   cases b <;> simp only [Bool.false_eq_true] at hp <;> simp only [oO] at h ⊢
   case len =>
    split at h
    ·exact po _ h
    ·exact h.elim
   case max =>
    cases hv:qM (args.toList.map (opd e)) with
    | none=>rw [hv] at h;exact h.elim
    | some vs=>rw [hv] at h ;exact po _ h
   case min =>
    cases hv:qM (args.toList.map (opd e)) with
    | none=>rw [hv] at h;exact h.elim
    | some vs=>rw [hv] at h ;exact po _ h
 case slice t x lo hi mx =>
  subst hp
  unfold sliceX at h ⊢
  simp only [Bool.and_self] at h ⊢
  split at h
  ·exact h.elim
  ·rename_i hx
   have hok:∀ m,slOk P m t (opd e x)=true:=fun m=>by
    generalize opd e x=y at hx
    cases y with
    | sl _ _ _ _ _=>exact absurd rfl (hx _ _ _ _ _)
    | _=>rfl
   unfold ab6 at h ⊢
   rw [hok m,if_pos rfl] at h
   rw [hok m',if_pos rfl]
   have h:=h
   have pn:∀ (i j l:Option Nat) (f:Nat→Nat→Nat→Option AV),True:=fun _ _ _ _=>trivial
   generalize bH (lo.map (opd e))=a at *
   generalize bH (hi.map (opd e))=b at *
   generalize bH (mx.map (opd e))=c at *
   cases a with
   | none=>exact h.elim
   | some a =>
    cases b with
    | none=>exact h.elim
    | some b =>
     cases c with
     | none=>exact h.elim
     | some c=>exact po _ h
 case load t x =>
  subst hp
  unfold tD at h ⊢
  simp only [Bool.and_self] at h ⊢
  split at h
  ·exact po _ h
  ·exact h.elim
 case convert src dst x =>
  subst hp
  unfold nR at h ⊢
  simp only [Bool.and_self] at h ⊢
  split at h
  ·exact h.elim
  ·rename_i hx
   unfold mM mK at h ⊢
   cases hel:cD P dst with
   | some el =>
    simp only [hel] at h ⊢
    split at h
    ·rename_i el' s h1 h2
     cases h1
     split at h
     ·rename_i hc
      rw [if_pos hc]
      exact po (some _) h
     ·exact h.elim
    ·rename_i h3
     split at h
     ·rename_i s h4;exact absurd h4 (h3 _ _ rfl rfl)
     ·exact h.elim
   | none =>
    simp only [hel] at h ⊢
    split at h
    ·rename_i el h1 h2
     split at h
     ·rename_i hu
      have hsv:dR .flat m' (opd e x)=dR .flat m (opd e x):=by
       generalize opd e x=y at hx
       cases y with
       | sl _ _ _ _ _=>exact absurd rfl (hx _ _ _ _ _)
       | val v=>cases v with
        | slice a l c=>cases a <;> cases l <;> cases c <;> rfl
        | _=>rfl
       | _=>rfl
      rw [if_pos hu,hsv]
      cases hs:dR .flat m (opd e x) with
      | none=>rw [hs] at h;exact h.elim
      | some r =>
       rw [hs] at h
       simp only [Option.bind_some] at h ⊢
       split at h
       ·rename_i hl
        rw [if_pos hl]
        cases hb:bytesOf (r.1.take r.2.1) with
        | none=>rw [hb] at h;exact h.elim
        | some bs =>
         rw [hb] at h
         exact po (some _) h
       ·exact h.elim
     ·exact h.elim
    ·rename_i h1
     split at h
     ·exact po _ h
     ·exact h.elim
 case buildSlice t len parts =>
  subst hp
  unfold tE eY at h ⊢
  simp only at h ⊢
  cases h1:cD P t with
  | none=>rw [h1] at h;exact h.elim
  | some el =>
   rw [h1] at h
   simp only [Option.bind_some] at h ⊢
   cases h2:cH P el with
   | none=>rw [h2] at h;exact h.elim
   | some n =>
    rw [h2] at h
    simp only [Option.bind_some] at h ⊢
    cases h3:i4 P el len with
    | none=>rw [h3] at h;exact h.elim
    | some z =>
     rw [h3] at h
     simp only [Option.bind_some] at h ⊢
     split at h
     ·rename_i h5
      rw [if_pos h5]
      cases h4:fX (fun i=>some (i*n,n)) z (parts.toList.map fun p=>(p.1,opd e p.2)) with
      | none=>rw [h4] at h;exact h.elim
      | some cs =>
       rw [h4] at h
       simp only [Option.bind_some] at h ⊢
       split at h
       ·exact h.elim
       ·rename_i h6
        rw [if_neg h6]
        exact po (some _) h
     ·exact h.elim
 all_goals first
  | exact po (some _) h
  | exact po _ h
  | exact pi _ _ h
theorem aqh {ms bs:List Nat} {j:Nat} (h:(just ms bs).testBit j=true):∃ b∈bs,b=j∨(ms.getD b 0).testBit j=true:=by
 have go:∀ (bs:List Nat) (x:Nat),(bs.foldl (fun x b=>x ||| (2 ^ b ||| ms.getD b 0)) x).testBit j=true→x.testBit j=true∨∃ b∈bs,b=j∨(ms.getD b 0).testBit j=true:=by
  intro bs
  induction bs with
  | nil=>intro x h;exact .inl h
  | cons b bs ih =>
   intro x h
   rcases ih _ h with h | ⟨b',h1,h2⟩
   ·rw [Nat.testBit_or,Nat.testBit_or,Nat.testBit_two_pow,Bool.or_eq_true,Bool.or_eq_true,decide_eq_true_eq] at h
    rcases h with h | h
    ·exact .inl h
    ·exact .inr ⟨b,by simp,h⟩
   ·exact .inr ⟨b',by simp [h1],h2⟩
 rcases go bs 0 h with h | h
 ·simp at h
 ·exact h
structure ab9 (ops:Array Oper):Prop where
 lt:∀ i o,ops[i]? = some o→∀ b∈tG o,b < i
 bit:∀ i o,ops[i]? = some o→∀ j,bef (kK ops) j i=true→∃ b∈tG o,b=j∨bef (kK ops) j b=true
 dst:∀ i j t,kZ ops i=some t→kZ ops j=some t→i=j
 look:∀ i j o t,ops[i]? = some o→t∈o.looksAt ops→kZ ops j=some t→j≠i→(j < i→bef (kK ops) j i=true)∧(i < j→bef (kK ops) i j=true)
theorem adC {ops:Array Oper} {j t:Nat} (h:kZ ops j=some t):j < ops.size:=by
 unfold kZ at h
 cases ho:ops[j]? with
 | none=>rw [ho] at h;cases h
 | some o=>exact (Array.getElem?_eq_some_iff.1 ho).1
theorem aqi {ops : Array Oper} (h : afI ops = true) : ab9 ops := by
 have main : ∀ i o, ops[i]? = some o → ((tG o).all (fun b => decide (b < i)) = true ∧ (kK ops).getD i 0 = just (kK ops) (tG o)) ∧
     ∀ j t, kZ ops j = some t → (j = i ∨ o.dst ≠ some t) ∧ (t ∉ o.looksAt ops ∨ j = i ∨ (match decide (j < i) with | true => bef (kK ops) j i | false => bef (kK ops) i j) = true) := by
   intro i o ho
   have hi := (Array.getElem?_eq_some_iff.1 ho).1
   have := List.all_eq_true.1 h i (List.mem_range.2 hi)
   rw [ho] at this
   simp only [Bool.and_eq_true, beq_iff_eq] at this
   refine ⟨this.1, fun j t ht => ?_⟩
   have h2 := List.all_eq_true.1 this.2 j (List.mem_range.2 (adC ht))
   rw [ht] at h2
   simp only [Bool.and_eq_true, Bool.or_eq_true, beq_iff_eq, bne_iff_ne, Bool.not_eq_true', or_assoc] at h2
   refine ⟨h2.1, ?_⟩
   rcases h2.2 with h3 | h3 | h3
   · exact .inl (by intro hc; rw [List.contains_iff_mem.2 hc] at h3; cases h3)
   · exact .inr (.inl h3)
   · exact .inr (.inr h3)
 refine ⟨fun i o ho b hb => ?_, fun i o ho j hj => ?_, fun i j t hi hj => ?_, fun i j o t ho ht hj hne => ?_⟩
 · have := List.all_eq_true.1 (main i o ho).1.1 b hb
   simpa using this
 · unfold bef at hj
   rw [(main i o ho).1.2] at hj
   exact aqh hj
 · have hlt := adC hi
   unfold kZ at hi
   cases ho : ops[i]? with
   | none => rw [ho] at hi; cases hi
   | some o =>
     rw [ho] at hi
     rcases ((main i o ho).2 j t hj).1 with h1 | h1
     · exact h1.symm
     · exact absurd hi h1
 · rcases ((main i o ho).2 j t hj).2 with h1 | h1 | h1
   · exact absurd ht h1
   · exact absurd h1 hne
   · constructor
     · intro hlt; simpa [hlt] using h1
     · intro hlt; simpa [show ¬ j < i by omega] using h1
theorem aiP {ops:Array Oper} (H:ab9 ops):∀ (i:Nat),i < ops.size→∀ j,bef (kK ops) j i=true→j < i:=by
 intro i
 induction i using Nat.strongRecOn with
 | _ i ih =>
  intro hi j hj
  obtain ⟨b,hb,h⟩:=H.bit i ops[i] (by simp [hi]) j hj
  have hlt:=H.lt i ops[i] (by simp [hi]) b hb
  rcases h with rfl | h
  ·exact hlt
  ·have:=ih b hlt (by omega) j h;omega
structure aca (P:Program) (once:Nat→Bool) (ops:Array Oper) (es:Nat→bN) (ms:Nat→aF) (vs:Nat→AV) (k:Nat) (o:Oper):Prop where
 env:es (k+1)=(es k).put o.dst (vs k)
 fixed:adz once ops k=true∨ms (k+1)=ms k∨(vF once ops k=true∧∃ x,ms (k+1)=(ms k).push x)
 step:(qP ops (es k) o=true∧cL P true (once (o.dst.getD 0)) (es k) (ms k) o.type (fun x=>x=⟨vs k,ms (k+1),none⟩) o.op)∨(qP ops (es k) o=false∧vs k=eE∧ms (k+1)=ms k)
theorem aiQ {once : Nat → Bool} {ops : Array Oper} {Q : bN → aF → Prop} : ∀ (l : List Oper) (i : Nat) (e : bN) (m : aF), ops.toList.drop i = l → i + l.length = ops.size → iE P once true ops Q l e m →
   ∃ (es : Nat → bN) (ms : Nat → aF) (vs : Nat → AV), es i = e ∧ ms i = m ∧ Q (es ops.size) (ms ops.size) ∧ ∀ k o, i ≤ k → ops[k]? = some o → aca P once ops es ms vs k o
 | [], i, e, m, hl, hi, h => by
   refine ⟨fun _ => e, fun _ => m, fun _ => eE, rfl, rfl, h, fun k o hk ho => ?_⟩
   have := (Array.getElem?_eq_some_iff.1 ho).1
   simp at hi
   omega
 | o :: rest, i, e, m, hl, hi, h => by
   have ho : ops[i]? = some o := by
     have : (ops.toList.drop i)[0]? = some o := by rw [hl]; rfl
     rw [List.getElem?_drop] at this
     simpa using this
   have hl' : ops.toList.drop (i + 1) = rest := by
     rw [← List.drop_drop, hl]; rfl
   have hi' : i + 1 + rest.length = ops.size := by simp only [List.length_cons] at hi; omega
   have fin : ∀ (v : AV) (m' : aF), iE P once true ops Q rest (e.put o.dst v) m' → (adz once ops i = true ∨ m' = m ∨ (vF once ops i = true ∧ ∃ x, m' = m.push x)) →
       ((qP ops e o = true ∧ cL P true (once (o.dst.getD 0)) e m o.type (fun x => x = ⟨v, m', none⟩) o.op) ∨ (qP ops e o = false ∧ v = eE ∧ m' = m)) →
       ∃ (es : Nat → bN) (ms : Nat → aF) (vs : Nat → AV), es i = e ∧ ms i = m ∧ Q (es ops.size) (ms ops.size) ∧ ∀ k o, i ≤ k → ops[k]? = some o → aca P once ops es ms vs k o := by
     intro v m' h1 h2 h3
     obtain ⟨es, ms, vs, e1, e2, e3, e4⟩ := aiQ rest (i + 1) _ _ hl' hi' h1
     refine ⟨fun k => if k = i then e else es k, fun k => if k = i then m else ms k, fun k => if k = i then v else vs k, by simp, by simp, ?_, fun k o' hk ho' => ?_⟩
     · simp only [if_neg (show ¬ ops.size = i by omega)]; exact e3
     · by_cases hki : k = i
       · subst hki
         have heq : o' = o := by rw [ho] at ho'; exact (Option.some.inj ho').symm
         subst heq
         refine ⟨?_, ?_, ?_⟩
         · simp only [if_neg (show ¬ k + 1 = k by omega), if_true]; exact e1
         · simp only [if_neg (show ¬ k + 1 = k by omega), if_true, e2]; exact h2
         · simp only [if_neg (show ¬ k + 1 = k by omega), if_true, e2]; exact h3
       · obtain ⟨t1, t2, t3⟩ := e4 k o' (by omega) ho'
         refine ⟨?_, ?_, ?_⟩
         · simp only [if_neg (show ¬ k + 1 = i by omega), if_neg hki]; exact t1
         · simp only [if_neg (show ¬ k + 1 = i by omega), if_neg hki]; exact t2
         · simp only [if_neg (show ¬ k + 1 = i by omega), if_neg hki]; exact t3
   simp only [iE] at h
   split at h
   · rename_i hw
     obtain ⟨out, ⟨h1, h2⟩, h3⟩ := aqf h
     obtain ⟨hwb, hfx⟩ := h1 trivial
     obtain ⟨v, m', wb⟩ := out
     simp only at hwb hfx
     subst hwb
     have hsz : ops.size - (rest.length + 1) = i := by omega
     rw [hsz] at hfx
     exact fin v m' h2 hfx (.inl ⟨hw, h3⟩)
   · rename_i hw
     exact fin eE m h (.inr (.inl rfl)) (.inr ⟨by simpa using hw, rfl, rfl⟩)
section
variable {once:Nat→Bool} {ops:Array Oper} {es:Nat→bN} {ms:Nat→aF} {vs:Nat→AV}
theorem adD {k:Nat} {o:Oper} (ho:ops[k]? = some o):kZ ops k=o.dst:=by unfold kZ;rw [ho];rfl
theorem afM (H : ab9 ops) (T : ∀ k o, ops[k]? = some o → aca P once ops es ms vs k o) : ∀ (k : Nat), k ≤ ops.size →
   (∀ j t, j < k → kZ ops j = some t → es k t = vs j) ∧ (∀ t, (∀ j, j < k → kZ ops j ≠ some t) → es k t = es 0 t)
 | 0, _ => ⟨fun j t h => by omega, fun _ _ => rfl⟩
 | k + 1, hk => by
   obtain ⟨h1, h2⟩ := afM H T k (by omega)
   have ho : ops[k]? = some ops[k] := by simp
   have he := (T k _ ho).env
   have hd := adD ho
   have val : ∀ t, es (k + 1) t = if kZ ops k = some t then vs k else es k t := by
     intro t
     rw [he, hd]
     cases ops[k].dst with
     | none => simp [bN.put]
     | some d =>
       simp only [bN.put, bN.set, Option.some.injEq]
       by_cases h : t = d
       · subst h; simp
       · rw [if_neg h, if_neg (fun e => h e.symm)]
   refine ⟨fun j t hj ht => ?_, fun t ht => ?_⟩
   · rw [val]
     by_cases hjk : j = k
     · subst hjk; rw [if_pos ht]
     · rw [if_neg (fun h => hjk (H.dst j k t ht h))]
       exact h1 j t (by omega) ht
   · rw [val, if_neg (ht k (by omega))]
     exact h2 t (fun j hj => ht j (by omega))
theorem vH {i:Nat}:∀ (j:Nat),i≤j→(∀ c,i≤c→c < j→ms (c+1)=ms c)→ms j=ms i
 | 0,h,_=>by rw [show i=0 by omega]
 | j+1,h,hc=>by
  by_cases hij:i=j+1
  ·rw [hij]
  ·rw [hc j (by omega) (by omega)]
   exact vH j (by omega) (fun c h1 h2=>hc c h1 (by omega))
structure nS (P:Program) (w0:World) (I0:Nat→Prop) (ρ0:cK) (m0:aF) (n:Nat) (D:List Deferred) (ops:Array Oper) (es:Nat→bN) (ms:Nat→aF) (vs:Nat→AV) (listed:Array Bool) (a:Act) (w:World) (e:bN) (j:Nat) (I:Nat→Prop) (ρ:cK):Prop where
 size:listed.size=ops.size
 rel:kY P w0 I0 ρ0 m0 n D e (ms j) a w I ρ
 le:j≤ops.size
 mem:∀ c,c < ops.size→ms (c+1)≠ms c→(listed.getD c false=true↔c < j)
 new:∀ k t,listed.getD k false=true→kZ ops k=some t→e t=vs k
 old:∀ t,(∀ k,listed.getD k false=true→kZ ops k≠some t)→e t=es 0 t
 closed:∀ i k,listed.getD i false=true→bef (kK ops) k i=true→listed.getD k false=true
def tH (listed:Array Bool):Nat→Nat
 | 0=>0
 | n+1=>tH listed n+if listed.getD n false=true then 0 else 1
theorem aiR {listed:Array Bool} {i:Nat} (hi:i < listed.size) (hu:listed.getD i false=false):∀ n,tH (listed.setIfInBounds i true) n+(if i < n then 1 else 0)=tH listed n
 | 0=>by simp [tH]
 | n+1=>by
  have ih:=aiR hi hu n
  simp only [tH]
  by_cases h:n=i
  ·subst h
   have h1:(listed.setIfInBounds n true).getD n false=true:=by simp [hi]
   rw [h1,hu]
   simp at ih ⊢
   omega
  ·rw [getD_set_ne false (fun e=>h e.symm)]
   by_cases h2:i < n
   ·have q1:(if i < n then 1 else 0)=1:=if_pos h2
    have q2:(if i < n+1 then 1 else 0)=1:=if_pos (by omega)
    rw [q1] at ih
    rw [q2]
    omega
   ·have q1:(if i < n then 1 else 0)=0:=if_neg h2
    have q2:(if i < n+1 then 1 else 0)=0:=if_neg (by omega)
    rw [q1] at ih
    rw [q2]
    omega
theorem aiS {listed:Array Bool}:∀ n,tH listed n=0→∀ k,k < n→listed.getD k false=true
 | 0,_,k,hk=>by omega
 | n+1,h,k,hk=>by
  simp only [tH] at h
  by_cases hl:listed.getD n false=true
  ·by_cases hkn:k=n
   ·subst hkn;exact hl
   ·exact aiS n (by omega) k (by omega)
  ·rw [if_neg hl] at h;omega
theorem aiT:∀ n s,tH (Array.replicate s false) n=n
 | 0,s=>rfl
 | n+1,s=>by
  simp only [tH,aiT n s]
  have:¬ (Array.replicate s false).getD n false=true:=by
   rw [Array.getD_eq_getD_getElem?,Array.getElem?_replicate]
   split <;> simp
  rw [if_neg this]
theorem afN {listed:Array Bool} {i:Nat} (hi:i < listed.size):listed.getD i true=listed.getD i false:=by
 simp [hi]
theorem aqj (H:ab9 ops) {listed:Array Bool} (hs:listed.size=ops.size) (hr:Region.ready .any ops listed=[]):∀ (k:Nat),k < ops.size→listed.getD k false=true:=by
 intro k
 induction k using Nat.strongRecOn with
 | _ k ih =>
  intro hk
  cases hl:listed.getD k false with
  | true=>rfl
  | false =>
   have:k∈Region.ready .any ops listed:=by
    rw [mem_ready]
    refine ⟨by rw [afN (by omega)];exact hl,ops[k],by simp [hk],fun ed hed hb => ?_⟩
    have hbd:ed.on∈tG ops[k]:=by
     unfold tG
     exact List.mem_map_of_mem (List.mem_filter.2 ⟨by simpa using hed,hb⟩)
    have hlt:=H.lt k ops[k] (by simp [hk]) ed.on hbd
    exact ih ed.on hlt (by omega)
   rw [hr] at this
   cases this
variable {w0:World} {I0:Nat→Prop} {ρ0:cK} {m0:aF} {n:Nat} {D:List Deferred}
theorem aqk {ops:Array Oper} {op:Op} (h:ab7 ops op=true):∃ t y,op = .load t (.tmp y)∧(ops.all fun o=>o.dst != some y)=true:=by
 unfold ab7 at h
 split at h
 ·exact ⟨_,_,rfl,h⟩
 ·cases h
theorem aiU {P:Program} {c:Bool} {e:bN} {m:aF} {ty:TypeId} {t:TypeId} {a:Operand} {out:bY} (h:cL P true c e m ty (fun x=>x=out) (.load t a)):out.m=m∧tD P true c m t (opd e a)=some out.v∧out.wb=none:=by
 simp only [cL] at h
 cases hl:tD P true c m t (opd e a) with
 | none=>rw [hl] at h;exact h.elim
 | some v =>
  rw [hl] at h
  have h:(⟨v,m,none⟩:bY)=out:=h
  subst h
  exact ⟨rfl,rfl,rfl⟩
theorem aql {P:Program} {c:Bool} {e:bN} {m m':aF} {v:AV} {ty:TypeId} {op:Op} (hl:afD op=true) (h:cL P true c e m ty (fun x=>x=⟨v,m',none⟩) op):m'=m:=by
 unfold afD at hl
 split at hl
 ·exact (aiU h).1
 ·cases hl
theorem aqm {P:Program} {c:Bool} {e:bN} {m m' m1:aF} {v:AV} {ty:TypeId} {t:TypeId} {y:Nat} (h:cL P true c e m ty (fun x=>x=⟨v,m1,none⟩) (.load t (.tmp y))) (hb:∀ b off,e y = .ptr b off→m'.at_ b=m.at_ b):cL P true c e m' ty (fun x=>x=⟨v,m',none⟩) (.load t (.tmp y)):=by
 have h1:=(aiU h).2.1
 simp only at h1
 have h2:tD P true c m' t (opd e (.tmp y))=some v:=by
  rw [←h1]
  simp only [opd]
  unfold tD
  split
  ·rfl
  ·unfold i5
   split
   ·rename_i b off he
    rw [hb b off he]
   ·rfl
   ·rfl
 simp only [cL,h2]
 rfl
theorem aqn (H : ab9 ops) (hreg : aaF n ops = true) (T : ∀ k o, ops[k]? = some o → aca P once ops es ms vs k o) (hout : ∀ t b off, es 0 t = .ptr b off → b < (ms 0).next) {Q' : Exit → Act → World → Prop}
   (hQ : ∀ a w I ρ, kY P w0 I0 ρ0 m0 n D (es ops.size) (ms ops.size) a w I ρ → Q' .normal a w) :
   ∀ (fuel : Nat) (listed : Array Bool) (a : Act) (w : World) (e : bN) (j : Nat) (I : Nat → Prop) (ρ : cK), tH listed ops.size ≤ fuel → nS P w0 I0 ρ0 m0 n D ops es ms vs listed a w e j I ρ → wpAny P .any ops Q' fuel listed a w := by
 have done : ∀ (listed : Array Bool) (a : Act) (w : World) (e : bN) (j : Nat) (I : Nat → Prop) (ρ : cK), (∀ k, k < ops.size → listed.getD k false = true) → nS P w0 I0 ρ0 m0 n D ops es ms vs listed a w e j I ρ → Q' .normal a w := by
   intro listed a w e j I ρ hall V
   have he : e = es ops.size := by
     funext t
     obtain ⟨h1, h2⟩ := afM H T ops.size (Nat.le_refl _)
     by_cases hex : ∃ k, kZ ops k = some t
     · obtain ⟨k, hk⟩ := hex
       have hlt := adC hk
       rw [V.new k t (hall k hlt) hk, h1 k t hlt hk]
     · have hex : ∀ k, kZ ops k ≠ some t := fun k hk => hex ⟨k, hk⟩
       rw [V.old t (fun k _ => hex k), h2 t (fun k _ => hex k)]
   have hm : ms ops.size = ms j := vH ops.size V.le (fun c h1 h2 => Classical.byContradiction fun hne => by
     have := (V.mem c h2 hne).1 (hall c h2)
     omega)
   have := V.rel
   rw [he, ← hm] at this
   exact hQ a w I ρ this
 intro fuel
 induction fuel with
 | zero =>
   intro listed a w e j I ρ hc V
   have hall := aiS ops.size (by omega : tH listed ops.size = 0)
   refine ⟨?_, done listed a w e j I ρ hall V⟩
   cases hr : Region.ready .any ops listed with
   | nil => rfl
   | cons i l =>
     have hi : i ∈ Region.ready .any ops listed := by rw [hr]; simp
     obtain ⟨h0, o, ho, _⟩ := mem_ready.1 hi
     have hlt := (Array.getElem?_eq_some_iff.1 ho).1
     have h1 := hall i hlt
     rw [afN (by rw [V.size]; exact hlt)] at h0
     rw [h0] at h1
     cases h1
 | succ fuel ih =>
   intro listed a w e j I ρ hc V
   refine ⟨fun hr => done listed a w e j I ρ (aqj H V.size hr) V, fun i hi => ?_⟩
   obtain ⟨h0, o, ho, hall⟩ := mem_ready.1 hi
   have hlt := (Array.getElem?_eq_some_iff.1 ho).1
   have hls : i < listed.size := by rw [V.size]; exact hlt
   rw [afN hls] at h0
   have hbd : ∀ b ∈ tG o, listed.getD b false = true := by
     intro b hb
     unfold tG at hb
     obtain ⟨ed, hed, rfl⟩ := List.mem_map.1 hb
     obtain ⟨h1, h2⟩ := List.mem_filter.1 hed
     exact hall ed (by simpa using h1) h2
   have hbef : ∀ k, bef (kK ops) k i = true → listed.getD k false = true := by
     intro k hk
     obtain ⟨b, hb, h⟩ := H.bit i o ho k hk
     rcases h with rfl | h
     · exact hbd b hb
     · exact V.closed b k (hbd b hb) h
   have hnot : ∀ k, bef (kK ops) i k = true → listed.getD k false = false := by
     intro k hk
     cases hl : listed.getD k false with
     | false => rfl
     | true =>
       have := V.closed k i hl hk
       rw [h0] at this
       cases this
   obtain ⟨hes1, hes2⟩ := afM H T i (by omega)
   have hagree : ∀ t ∈ o.looksAt ops, e t = es i t := by
     intro t ht
     by_cases hex : ∃ k, kZ ops k = some t
     · obtain ⟨k, hk⟩ := hex
       have huniq : ∀ k', kZ ops k' = some t → k' = k := fun k' h' => H.dst k' k t h' hk
       rcases Nat.lt_trichotomy k i with h | h | h
       · have hb := (H.look i k o t ho ht hk (by omega)).1 h
         rw [V.new k t (hbef k hb) hk, hes1 k t h hk]
       · rw [V.old t (fun k' hl hk' => by rw [huniq k' hk', h, h0] at hl; cases hl), hes2 t (fun k' hlt' hk' => by have := huniq k' hk'; omega)]
       · have hb := (H.look i k o t ho ht hk (by omega)).2 h
         have hnl := hnot k hb
         rw [V.old t (fun k' hl hk' => by rw [huniq k' hk', hnl] at hl; cases hl), hes2 t (fun k' hlt' hk' => by have := huniq k' hk'; omega)]
     · have hex : ∀ k, kZ ops k ≠ some t := fun k hk => hex ⟨k, hk⟩
       rw [V.old t (fun k _ => hex k), hes2 t (fun k _ => hex k)]
   have hopd : ∀ x ∈ o.op.operands.toList, opd e x = opd (es i) x := by
     intro x hx
     refine aqg fun t ht => hagree t ?_
     unfold Oper.looksAt
     refine List.mem_append.2 (.inl (List.mem_filterMap.2 ⟨x, hx, by rw [ht]⟩))
   have hwant : qP ops e o = qP ops (es i) o := by
     unfold qP
     cases hg : o.guard with
     | none => rfl
     | some g =>
       obtain ⟨gi, want⟩ := g
       simp only
       cases hd : (ops[gi]?).bind (·.dst) with
       | none => rfl
       | some d =>
         have : e d = es i d := hagree d (by
           unfold Oper.looksAt
           rw [hg]
           simp [hd])
         simp only [this]
   obtain ⟨tenv, tfix, tstep⟩ := T i o ho
   -- the new state
   have next : ∀ (v : Value) (w' : World) (I' : Nat → Prop) (ρ' : cK) (j' : Nat) (a' : Act), j' ≤ ops.size →
       (∀ c, c < ops.size → ms (c + 1) ≠ ms c → ((listed.setIfInBounds i true).getD c false = true ↔ c < j')) →
       kY P w0 I0 ρ0 m0 n D (e.put o.dst (vs i)) (ms j') a' w' I' ρ' → wpAny P .any ops Q' fuel (listed.setIfInBounds i true) a' w' := by
     intro v w' I' ρ' j' a' hj' hmem hR
     refine ih (listed.setIfInBounds i true) a' w' (e.put o.dst (vs i)) j' I' ρ' ?_ ⟨by simp [V.size], hR, hj', hmem, fun k t hl hk => ?_, fun t ht => ?_, fun i2 k hl hb => ?_⟩
     · have := aiR hls h0 ops.size
       rw [if_pos hlt] at this
       omega
     · by_cases hki : k = i
       · subst hki
         rw [adD ho] at hk
         rw [hk]
         simp [bN.put, bN.set]
       · rw [getD_set_ne false (fun e => hki e.symm)] at hl
         have hne : o.dst ≠ some t := fun h => hki (H.dst k i t hk (by rw [adD ho]; exact h))
         have : (e.put o.dst (vs i)) t = e t := by
           cases hd : o.dst with
           | none => rfl
           | some d => simp only [bN.put, bN.set]; rw [if_neg (fun h => hne (by rw [hd, h]))]
         rw [this]
         exact V.new k t hl hk
     · have hne : o.dst ≠ some t := by
         have := ht i (by simp [hls])
         rwa [adD ho] at this
       have : (e.put o.dst (vs i)) t = e t := by
         cases hd : o.dst with
         | none => rfl
         | some d => simp only [bN.put, bN.set]; rw [if_neg (fun h => hne (by rw [hd, h]))]
       rw [this]
       exact V.old t (fun k hl => ht k (getD_set_true hl))
     · by_cases hii : i2 = i
       · subst hii; exact getD_set_true (hbef k hb)
       · rw [getD_set_ne false (fun e => hii e.symm)] at hl
         exact getD_set_true (V.closed i2 k hl hb)
   have keepmem : ms (i + 1) = ms i → ∀ c, c < ops.size → ms (c + 1) ≠ ms c → ((listed.setIfInBounds i true).getD c false = true ↔ c < j) := by
     intro hsame c hc hne
     have hci : i ≠ c := fun h => hne (by rw [← h]; exact hsame)
     rw [getD_set_ne false hci]
     exact V.mem c hc hne
   unfold wpOp
   rw [ho]
   simp only
   rw [aiL V.rel.er o, hwant]
   rcases tstep with ⟨hw, hst⟩ | ⟨hw, hv, hsame⟩
   · rw [hw]
     simp only [if_true]
     refine .inl ?_
     have hdlt := adB (n := n) hreg ho
     cases hp : aaD (once (o.dst.getD 0)) o.op with
     | true =>
       obtain ⟨hsame, hst2⟩ := aiO (m' := ms j) hp hst
       simp only at hsame
       have hst3 := afL (e' := e) hopd hst2
       refine ab8 V.rel.sr V.rel.er hst3 V.rel.free ?_
       intro out v w' I' ρ' hK g2 g3 g4 g5 g6
       subst hK
       have hR := V.rel.next hdlt g2 g3 g4 (fun d y hwb => by cases hwb) g6
       exact next v w' I' ρ' j _ V.le (keepmem hsame) hR
     | false =>
       have hcmp3 : ∀ c, c < ops.size → ms (c + 1) ≠ ms c → c ≠ i → (listed.getD c false = true ↔ c < i) ∨ (i < c ∧ ab7 ops o.op = true ∧ vF once ops c = true ∧ ∃ x, ms (c + 1) = (ms c).push x) := by
         intro c hc hne hci
         have bf : bef (kK ops) i c = true ∨ bef (kK ops) c i = true → (listed.getD c false = true ↔ c < i) := by
           rintro (h | h)
           · constructor
             · intro hl; rw [hnot c h] at hl; cases hl
             · intro hlt2; have := aiP H c hc i h; omega
           · exact ⟨fun _ => aiP H i hlt c h, fun _ => hbef c h⟩
         rcases (T c ops[c] (by simp [hc])).fixed with hf | hf | ⟨hf, hx⟩
         · have := List.all_eq_true.1 hf i (List.mem_range.2 hlt)
           rw [ho] at this
           simp only [hp, Bool.or_eq_true, beq_iff_eq, Bool.false_eq_true, or_false] at this
           rcases this with (h | h) | h
           · exact absurd h.symm hci
           · exact .inl (bf (.inl h))
           · exact .inl (bf (.inr h))
         · exact absurd hf hne
         · have hf' := hf
           unfold vF at hf'
           have := List.all_eq_true.1 (Bool.and_eq_true_iff.1 hf').1 i (List.mem_range.2 hlt)
           rw [ho] at this
           simp only [hp, Bool.or_eq_true, beq_iff_eq, Bool.false_eq_true, false_or, Bool.and_eq_true, decide_eq_true_eq] at this
           rcases this with ((h | h) | h) | h
           · exact absurd h.symm hci
           · exact .inr ⟨h.1, h.2, hf, hx⟩
           · exact .inl (bf (.inl h))
           · exact .inl (bf (.inr h))
       by_cases hpush : ∃ c, c < ops.size ∧ i < c ∧ ab7 ops o.op = true ∧ vF once ops c = true ∧ ∃ x, ms (c + 1) = (ms c).push x
       · obtain ⟨c, hc, hic, hol, hpc, x, hx⟩ := hpush
         have hquiet : ∀ c', vF once ops c' = true → ∀ k, k < c' → k < ops.size → ms (k + 1) = ms k := by
           intro c' hp' k hk hks
           unfold vF at hp'
           have := List.all_eq_true.1 (Bool.and_eq_true_iff.1 hp').2 k (List.mem_range.2 hk)
           have hok : ops[k]? = some ops[k] := by simp [hks]
           rw [hok] at this
           simp only [Bool.or_eq_true] at this
           rcases (T k ops[k] hok).step with ⟨_, hst'⟩ | ⟨_, _, h⟩
           · rcases this with h | h
             · exact (aiO (m' := ms k) h hst').1
             · exact aql h hst'
           · exact h
         have h0c : ms c = ms 0 := vH c (Nat.zero_le _) (fun k _ hk => hquiet c hpc k hk (by omega))
         have h0i : ms i = ms 0 := vH i (Nat.zero_le _) (fun k _ hk => hquiet c hpc k (by omega) (by omega))
         have hsame : ms (i + 1) = ms i := hquiet c hpc i hic hlt
         have hxne : ms (c + 1) ≠ ms c := by
           rw [hx]
           intro h
           have := congrArg aF.next h
           simp only [aF.push] at this
           omega
         have hjm : ms j = ms 0 ∨ ms j = (ms 0).push x := by
           by_cases hjc : j ≤ c
           · exact .inl (vH j (Nat.zero_le _) (fun k _ hk => hquiet c hpc k (by omega) (by have := V.le; omega)))
           · refine .inr ?_
             rw [← h0c, ← hx]
             have hle := V.le
             refine vH j (by omega) fun c' h1 h2 => Classical.byContradiction fun hne => ?_
             have q1 := (V.mem c' (by omega) hne).2 h2
             rcases hcmp3 c' (by omega) hne (by omega) with h | ⟨_, _, h, _⟩
             · have := h.1 q1; omega
             · exact hxne (hquiet c' h c (by omega) hc)
         obtain ⟨t, y, hop, hty⟩ := aqk hol
         have hol' := hty
         rw [hop] at hst
         have hst2 : cL P true (once (o.dst.getD 0)) (es i) (ms j) o.type (fun x => x = ⟨vs i, ms j, none⟩) (.load t (.tmp y)) := by
           refine aqm hst (fun b off he => ?_)
           have hy := hes2 y (fun k hk hd => by
             have hlt2 := adC hd
             have := Array.all_eq_true.1 hty k hlt2
             unfold kZ at hd
             rw [show ops[k]? = some ops[k] by simp [hlt2]] at hd
             simp only [Option.bind_some] at hd
             rw [hd] at this
             simp at this)
           rw [hy] at he
           have hb := hout y b off he
           rw [h0i]
           rcases hjm with h | h
           · rw [h]
           · rw [h]
             simp only [aF.push]
             rw [if_neg (by omega)]
         rw [← hop] at hst2
         have hst3 := afL (e' := e) hopd hst2
         refine ab8 V.rel.sr V.rel.er hst3 V.rel.free ?_
         intro out v w' I' ρ' hK g2 g3 g4 g5 g6
         subst hK
         have hR := V.rel.next hdlt g2 g3 g4 (fun d y hwb => by cases hwb) g6
         exact next v w' I' ρ' j _ V.le (keepmem hsame) hR
       have hcmp : ∀ c, c < ops.size → ms (c + 1) ≠ ms c → c ≠ i → (listed.getD c false = true ↔ c < i) := fun c hc hne hci => (hcmp3 c hc hne hci).resolve_right fun ⟨a1, a2, a3, a4⟩ => hpush ⟨c, hc, a1, a2, a3, a4⟩
       have hji : ms j = ms i := by
         by_cases hch : ms (i + 1) = ms i
         · rcases Nat.le_total j i with h | h
           · refine (vH i h fun c h1 h2 => Classical.byContradiction fun hne => ?_).symm
             have q1 := (hcmp c (by omega) hne (by omega)).2 h2
             have q2 := (V.mem c (by omega) hne).1 q1
             omega
           · refine vH j h fun c h1 h2 => Classical.byContradiction fun hne => ?_
             have hle := V.le
             have hci : c ≠ i := fun h => hne (by rw [h]; exact hch)
             have q1 := (V.mem c (by omega) hne).2 h2
             have q2 := (hcmp c (by omega) hne hci).1 q1
             omega
         · have hij : j ≤ i := by
             have q := V.mem i hlt hch
             rw [h0] at q
             simp at q
             exact q
           refine (vH i hij fun c h1 h2 => Classical.byContradiction fun hne => ?_).symm
           have q1 := (hcmp c (by omega) hne (by omega)).2 h2
           have q2 := (V.mem c (by omega) hne).1 q1
           omega
       have hst3 := afL (e' := e) hopd hst
       rw [← hji] at hst3
       refine ab8 V.rel.sr V.rel.er hst3 V.rel.free ?_
       intro out v w' I' ρ' hK g2 g3 g4 g5 g6
       subst hK
       have hR := V.rel.next hdlt g2 g3 g4 (fun d y hwb => by cases hwb) g6
       by_cases hch : ms (i + 1) = ms i
       · refine next v w' I' ρ' j _ V.le (keepmem hch) ?_
         rw [hji, ← hch]
         exact hR
       · refine next v w' I' ρ' (i + 1) _ (by omega) (fun c hc hne => ?_) hR
         by_cases hci : c = i
         · subst hci; simp [hls]
         · rw [getD_set_ne false (fun h => hci h.symm), hcmp c hc hne hci]
           omega
   · rw [hw]
     simp only [Bool.false_eq_true, if_false]
     have hdlt := adB (n := n) hreg ho
     refine next undef w I ρ j _ V.le (keepmem hsame) ?_
     rw [hv]
     exact ⟨ae9 V.rel.er (fun t ht => by rw [V.rel.size]; exact hdlt t ht) (by simp only [eE, undef, VR]), V.rel.sr, V.rel.free, V.rel.step, by rw [afF]; exact V.rel.size, by rw [afG]; exact V.rel.defers⟩
theorem aqo {e:bN} {m:aF} {a:Act} {w:World} {I:Nat→Prop} {ρ:cK} (hR:kY P w0 I0 ρ0 m0 n D e m a w I ρ) (k:Nat):kY P w0 I0 ρ0 m0 n D e m a { w with drawn:=k } I ρ:=by
 have st:cP w I ρ m { w with drawn:=k } I ρ m:=⟨rfl,rfl,rfl,Nat.le_refl _,fun _ _ _=>rfl,fun _ _ h=>h,fun _ h=>h,fun _ h => .inl h,fun _ _ h=>h,fun b h1 h2=>absurd h1 h2,fun _ h => .inl h,Nat.le_refl _⟩
 refine ⟨ae8 st hR.sr hR.er,⟨fun b k g o h1 h2 => ?_,hR.sr.inj,hR.sr.lt,hR.sr.mms.keep (st.keeps hR.sr) (fun _ _ h=>h) (fun _ _=>⟨rfl,fun h=>h⟩)⟩,hR.free,hR.step.trans st,hR.size,hR.defers⟩
 have x:=hR.sr.blk b k g o h1 h2
 obtain ⟨arr,fr,h3,h4⟩:=x.cells
 exact ⟨x.one,⟨arr,fr,h3,eL (st.keeps hR.sr) (fun _ _ h=>h) _ _ h4⟩,x.wr,x.im,x.all1,x.nostr⟩
theorem aqp (hm : P.follows .mixedOrders = true) (hr : aaF n ops = true) (hd : afI ops = true) {Q : bN → aF → Prop} {Q' : Exit → Act → World → Prop} (hQ : ∀ e m a w I ρ, Q e m → kY P w0 I0 ρ0 m0 n D e m a w I ρ → Q' .normal a w)
   {id : Nat} {e : bN} {m : aF} {a : Act} {w : World} {I : Nat → Prop} {ρ : cK} (h : iE P once true ops Q ops.toList e m) (hR : kY P w0 I0 ρ0 m0 n D e m a w I ρ) : (Code.region id ops true).wp P Q' a w := by
 have H := aqi hd
 obtain ⟨es, ms, vs, e1, e2, e3, e4⟩ := aiQ ops.toList 0 e m rfl (by simp) h
 have T : ∀ k o, ops[k]? = some o → aca P once ops es ms vs k o := fun k o ho => e4 k o (by omega) ho
 refine wp_region_any hm ?_
 have none_listed : ∀ k, (Array.replicate ops.size false).getD k false = false := by
   intro k
   rw [Array.getD_eq_getD_getElem?, Array.getElem?_replicate]
   split <;> simp
 have V : nS P w0 I0 ρ0 m0 n D ops es ms vs (Array.replicate ops.size false) a { w with drawn := w.drawn + 1 } e 0 I ρ := by
   refine ⟨by simp, ?_, by omega, ?_, ?_, ?_, ?_⟩
   · rw [e2]; exact aqo hR _
   · intro c hc hne; rw [none_listed]; simp
   · intro k t hl; rw [none_listed] at hl; cases hl
   · intro t _; rw [e1]
   · intro i k hl; rw [none_listed] at hl; cases hl
 exact aqn H hr T (fun t b off he => Classical.byContradiction fun hlt => by
   have h := hR.er t
   rw [← e1, he] at h
   simp only [VR] at h
   obtain ⟨g, o, hb, _⟩ := h
   rw [e2] at hlt
   rw [hR.free b (by omega)] at hb
   cases hb) (fun a w I ρ hR => hQ _ _ a w I ρ e3 hR) ops.size _ a _ e 0 I ρ (by rw [aiT]; exact Nat.le_refl _) V
end
end
end Go.Tw