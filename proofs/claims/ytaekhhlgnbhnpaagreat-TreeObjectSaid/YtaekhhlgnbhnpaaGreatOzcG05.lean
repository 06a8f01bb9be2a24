import Derived.Test.YtaekhhlgnbhnpaaGreatOzcG04
import Derived.Laws.Append
set_option linter.unusedVariables false
set_option linter.unusedSimpArgs false
namespace Go.Tw
open Go
section
variable {P:Program} {w:World} {I:Nat→Prop} {ρ:cK} {m:aF}
def iD {α:Type} (P:Program) (w:World) (I:Nat→Prop) (ρ:cK) (m:aF) (r:Result α) (val:α→Value) (out:bY) (addr:Value):Prop :=
 ∃ x w' I' ρ',r = .ok x w'∧VR P w' I' ρ' out.v (val x)∧SR P w' I' ρ' out.m∧cP w I ρ m w' I' ρ' out.m∧∀ d y,out.wb=some (d,y)→VR P w' I' ρ' y addr
theorem ah6 {k:eP} {cs:List AV} {get:Nat→Option Value} (h:bK P w I dL cs get):bK P w I (if k.kind = .flat then dL else ρ) cs get:=by
 split
 ·exact h
 ·exact afd h
theorem afk {w w1:World} {arr:Array Value} {ty:TypeId} (h:w1.heap=w.heap∧w1.os=w.os∧w1.tape=w.tape∧w1.output=w.output):oQ w (w1.alloc (.cells arr ty)) arr ty:=by
 obtain ⟨h1,h2,h3,h4⟩:=h
 have:=oQ.alloc w1 arr ty
 exact ⟨this.os.trans h2,this.tape.trans h3,this.output.trans h4,by rw [this.size,h1],fun g hg=>by rw [this.same g (by rw [h1];exact hg),h1],by rw [←h1];exact this.blk,fun j hj=>by rw [←h1];exact this.free j hj⟩
theorem aas {t:TypeId} {z:List Value} (h:eX P t=some z):∃ v,(zeroValue t).run P w = .ok v w∧v.cells.toList=z∧(∀ x∈z,rF x=true)∧(∃ i,P.info? t=some i∧i.zero=some v):=by
 unfold eX at h
 obtain ⟨v,hv,h⟩:=awC h
 obtain ⟨i,hi,hz⟩:=awC hv
 split at h
 ·rename_i ha
  simp only [Option.some.injEq] at h
  refine ⟨v,by simp [zeroValue,typeInfo,hi,hz],h,fun x hx => ?_,i,hi,hz⟩
  rw [h] at ha
  exact List.all_eq_true.1 ha x hx
 ·cases h
theorem adj {x:Value} (h:rF x=true):dF (.val x)=true:=by cases x <;> simp_all [dF,rF]
theorem afl {x:Value} (h:rF x=true):x.oneCell'=true:=by cases x <;> simp_all [rF,Value.oneCell']
theorem ah7 (z:List Value):bK P w I ρ (z.map .val) (fun j=>z[j]?):=j2.2 fun j c hj=>by
 rw [List.getElem?_map] at hj
 obtain ⟨v,hv,rfl⟩:=awD hj
 exact ⟨v,hv,by simp only [VR]⟩
theorem ao9 (hS:SR P w I ρ m) (hfree:ρ m.next=none) {once:Bool} {t:TypeId} {out:bY} (h:aK P once m t=some out) (old addr:Value):iD P w I ρ m ((Instr.alloc t true old).run P w) id out addr:=by
 unfold aK at h
 obtain ⟨z,hz,h⟩:=awC h
 simp only [bO,Option.some.injEq] at h
 subst h
 obtain ⟨v,h1,h2,h3,_⟩:=aas (w:=w) hz
 have hA:=oQ.alloc w v.cells t
 obtain ⟨a,b⟩:=yQ (k:=⟨z.map .val,t,if once then .hole else .var,true⟩) hA hS hfree rfl (fun c hc=>by
  obtain ⟨x,hx,rfl⟩:=List.mem_map.1 hc
  exact adj (h3 x hx)) (ah6 (by
   have:=ah7 (P:=P) (w:=w) (I:=I) (ρ:=dL) z
   rw [←h2] at this ⊢
   simpa using this)) (fun x hx=>afl (h3 x (by rw [←h2];exact hx))) (fun _=>aaq _ _)
 refine ⟨.pointer (some ⟨w.heap.size,0,none⟩),_,_,_, ?_, ?_,a,b,fun d y h=>by cases h⟩
 ·simp [Instr.alloc,h1,newVar,newRow]
 ·simp only [id,VR]
  exact ⟨_,_,wT _ _ _,rfl⟩
theorem apa (hS : SR P w I ρ m) {once : Bool} {t : TypeId} {x : AV} {out : bY} (h : qO P once m t x = some out) (hfree : ∀ b, m.next ≤ b → b < out.m.next → ρ b = none) {v : Value} (hv : VR P w I ρ x v) (addr : Value) :
   iD P w I ρ m ((Instr.box t v).run P w) id out addr := by
 unfold qO at h
 obtain ⟨n, hn, h⟩ := awC h
 split at h
 · rename_i hc
   obtain ⟨g1, g2, g3⟩ := afh hc.2 hv
   have hrun : (Instr.box t v).run P w = .ok (.pointer (some ⟨w.heap.size, 0, none⟩)) (w.alloc (.cells v.cells t)) := by simp [Instr.box, newVar, newRow]
   split at h
   · obtain ⟨r, hr, h⟩ := awC h
     simp only [bO, Option.some.injEq] at h
     subst h
     obtain ⟨I1, a1, b1, c1, d1, d2, d3⟩ := wU x.cells m r.2 I r.1 _ hr hS g3
     have hA := oQ.alloc w v.cells t
     obtain ⟨a2, b2⟩ := adi hA a1
     refine ⟨_, _, _, _, hrun, ?_, a2, b1.trans b2, fun d y h => by cases h⟩
     simp only [id, VR]
     refine ⟨w.heap.size, 0, rfl, .inr rfl, d3 g2, ?_⟩
     obtain ⟨fr, hfr⟩ := hA.blk
     exact iB (eL (b2.keeps a1) (fun _ _ h => h) _ _ d1) fun j _ => by rw [cell_of_row _ _ _ _ _ _ hfr, Nat.zero_add]
   · simp only [bO, Option.some.injEq] at h
     subst h
     have hf : ρ m.next = none := hfree m.next (Nat.le_refl _) (by simp [aF.push])
     obtain ⟨a, b⟩ := yQ (k := ⟨x.cells, t, .var, true⟩) (oQ.alloc w v.cells t) hS hf rfl g2 (by simpa using g3) (uC (P := P) (w := w) (I := I) (ρ := ρ) g2 (by simpa using g1) (by simpa using g3)) (fun _ => aaq _ _)
     refine ⟨_, _, _, _, hrun, ?_, a, b, fun d y h => by cases h⟩
     simp only [id, VR]
     exact ⟨_, _, wT _ _ _, rfl⟩
 · cases h
theorem adk {el : TypeId} {n : Nat} {z : List AV} (h : i4 P el n = some z) : ∃ sz, cH P el = some sz ∧ ∃ arr : Array Value,
   (∀ w, (do let zero ← (if n * sz = 0 then pure #[] else do pure (← zeroValue el).cells : Sem (Array Value)); pure ((Array.range (n * sz)).map (zero[· % zero.size]!)) : Sem (Array Value)).run P w = .ok arr w) ∧ arr.size = n * sz ∧ z.length = n * sz ∧ eF z ∧ ∀ w I ρ, bK P w I ρ z (fun j => arr[j]?) := by
 unfold i4 at h
 obtain ⟨sz, hsz, h⟩ := awC h
 refine ⟨sz, hsz, ?_⟩
 split at h
 · rename_i h0
   simp only [Option.some.injEq] at h
   subst h
   exact ⟨#[], fun w => by simp [h0], by simp [h0], by simp [h0], fun c hc => by simp at hc, fun _ _ _ => by simp only [bK]⟩
 · rename_i h0
   obtain ⟨zs, hz, h⟩ := awC h
   split at h
   · rename_i hl
     simp only [Option.some.injEq] at h
     subst h
     obtain ⟨v, h1, h2, h3, h5⟩ := aas (w := default) hz
     have h1' : ∀ w, (zeroValue el).run P w = .ok v w := fun w => by
       obtain ⟨v', q1, _, _, i, q4, q5⟩ := aas (P := P) (w := w) hz
       have e : v' = v := by
         obtain ⟨i3, h6, h7⟩ := h5
         rw [q4] at h6
         simp only [Option.some.injEq] at h6
         subst h6
         rw [q5] at h7
         exact Option.some.inj h7
       rw [← e]; exact q1
     have hvs : v.cells.size = sz := by rw [← hl, ← h2]; simp
     refine ⟨(Array.range (n * sz)).map (v.cells[· % v.cells.size]!), fun w => by simp [h0, h1' w], by simp, by simp, fun c hc => ?_, fun w I ρ => j2.2 fun j c hj => ?_⟩
     · obtain ⟨i, hi, rfl⟩ := List.mem_map.1 hc
       have hpos : 0 < sz := by
         rcases Nat.eq_zero_or_pos sz with e | e
         · subst e; simp at h0
         · exact e
       refine adj (h3 _ ?_)
       rw [List.getD_eq_getElem?_getD, List.getElem?_eq_getElem (by rw [hl]; exact Nat.mod_lt _ hpos)]
       exact List.getElem_mem _
     · rw [List.getElem?_map] at hj
       obtain ⟨i, hi, rfl⟩ := awD hj
       have hlt : j < n * sz := by have := (List.getElem?_eq_some_iff.1 hi).1; simpa using this
       have hij : i = j := by simp [hlt] at hi; exact hi.symm
       subst hij
       have hpos : 0 < sz := by
         rcases Nat.eq_zero_or_pos sz with e | e
         · subst e; simp at h0
         · exact e
       refine ⟨v.cells[i % v.cells.size]!, by simp [hlt], ?_⟩
       simp only [VR]
       have hm : i % sz < v.cells.size := by rw [hvs]; exact Nat.mod_lt _ hpos
       rw [hvs, getElem!_pos v.cells _ hm, List.getD_eq_getElem?_getD, ← h2]
       simp [hm]
   · cases h
theorem apb (hS : SR P w I ρ m) {t : TypeId} {len : Nat} {parts : List (Nat × AV)} {out : bY} (h : pH P m t len parts = some out) (hfree : ∀ b, m.next ≤ b → b < out.m.next → ρ b = none)
   {vparts : List (Nat × Value)} (hl : vparts.length = parts.length) (hv : ∀ (j i : Nat) (av : AV) (i' : Nat) (v : Value), parts[j]? = some (i, av) → vparts[j]? = some (i', v) → i = i' ∧ VR P w I ρ av v) (addr : Value) :
   iD P w I ρ m ((Instr.buildSlice t len vparts.toArray).run P w) id out addr := by
 unfold pH at h
 obtain ⟨el, hel, h⟩ := awC h
 obtain ⟨n, hn, h⟩ := awC h
 obtain ⟨z, hz, h⟩ := awC h
 split at h
 · rename_i hle
   obtain ⟨cs, hcs, h⟩ := awC h
   obtain ⟨sz, hsz, arr, q1, q2, q3, q4, q5⟩ := adk hz
   rw [hn, Option.some.injEq] at hsz
   subst hsz
   obtain ⟨arr', f1, f2, f3, f4, f5⟩ := aap (P := P) (w := w) (I := I) (ρ := ρ) (place := fun i => some (i * n, n)) (placeE := fun i => some (i * n, n)) (fun _ _ h => h) parts vparts z cs arr hcs hl hv (by rw [q2, q3]) q4 (q5 w I ρ)
   obtain ⟨m2, cs2, kd, I1, rfl, a1, b1, c1, d1, d3⟩ : ∃ (m2 : aF) (cs2 : List AV) (kd : fW) (I1 : Nat → Prop), out = ⟨.sl m2.next 0 len len true, m2.push ⟨cs2, el, kd, true⟩, none⟩ ∧ SR P w I1 ρ m2 ∧ cP w I ρ m w I1 ρ m2 ∧ m2.next = m.next ∧ bK P w I1 (if kd = .flat then dL else ρ) cs2 (fun j => arr'[j]?) ∧ eF cs2 := by
     cases hk : bW P el with
     | flat =>
       rw [hk] at h
       obtain ⟨r, hr, h⟩ := awC h
       simp only [bO, Option.some.injEq] at h
       subst h
       obtain ⟨I1, a1, b1, c1, d1, d2, d3⟩ := wU cs m r.2 I r.1 _ hr hS f5
       exact ⟨_, _, _, _, rfl, a1, b1, c1, by simpa using d1, d3 f4⟩
     | var =>
       rw [hk] at h
       simp only [bO, Option.some.injEq] at h
       subst h
       exact ⟨_, _, _, _, rfl, hS, cP.refl _ _ _ _, rfl, by simpa using f5, f4⟩
     | hole =>
       rw [hk] at h
       simp only [bO, Option.some.injEq] at h
       subst h
       exact ⟨_, _, _, _, rfl, hS, cP.refl _ _ _ _, rfl, by simpa using f5, f4⟩
   have hA := oQ.alloc w arr' el
   have hf : ρ m2.next = none := hfree _ (by rw [c1]; exact Nat.le_refl _) (by simp [aF.push])
   obtain ⟨a, b⟩ := yQ (k := ⟨cs2, el, kd, true⟩) hA a1 hf rfl d3 d1 (uC (P := P) (w := w) (I := I) (ρ := ρ) f4 (by rw [Array.length_toList, f2]) (by simpa using f5)) (fun _ => aaq _ _)
   refine ⟨.slice (some ⟨w.heap.size, 0, none⟩) len len, _, _, _, ?_, ?_, a, b1.trans b, fun d y h => by cases h⟩
   · have q1' := q1 w
     simp only [Sem.run_bind, Sem.run_ite, Sem.run_pure] at q1'
     by_cases h0 : len * n = 0
     · simp [h0] at q1'
       simp [Instr.buildSlice, cX (iC hel), gX hn, h0, f1, q1', newRow]
     · simp only [h0, if_false] at q1'
       have hnot : ¬ (16777216 < len * n) := by omega
       cases hzv : (zeroValue el).run P w with
       | halt x y => rw [hzv] at q1'; simp at q1'
       | ok x y =>
         rw [hzv] at q1'
         simp at q1'
         obtain ⟨q6, q7⟩ := q1'
         subst q7
         simp [Instr.buildSlice, cX (iC hel), gX hn, h0, hnot, hzv, q6, f1, newRow]
   · simp only [id, VR]
     obtain ⟨fr, hfr⟩ := hA.blk
     have hsh := lO hfr
     refine ⟨_, _, len, el, _, n, wT _ _ _, rfl, ⟨Nat.le_refl _, Nat.le_refl _⟩, fun _ => rfl, hsh, hn, ?_⟩
     rw [f2, f3, q3]
     omega
 · cases h
theorem apc (hS : SR P w I ρ m) {t : TypeId} {n k : Nat} {out : bY} (h : pJ P m t n k = some out) (hfree : ρ m.next = none) (kn kk : IntKind) (addr : Value) :
   iD P w I ρ m ((Instr.makeSlice t (.int kn n) (.int kk k)).run P w) id out addr := by
 unfold pJ at h
 obtain ⟨el, hel, h⟩ := awC h
 obtain ⟨sz, hsz, h⟩ := awC h
 obtain ⟨y, hy, h⟩ := awC h
 obtain ⟨z, hz, h⟩ := awC h
 split at h
 · rename_i hc
   obtain ⟨c1, c2, c3⟩ := hc
   simp only [bO, Option.some.injEq] at h
   subst h
   obtain ⟨i, hi, rfl⟩ := afa hy
   obtain ⟨sz', hsz', arr, q1, q2, q3, q4, q5⟩ := adk hz
   rw [hsz, Option.some.injEq] at hsz'
   subst hsz'
   have hA := oQ.alloc w arr el
   obtain ⟨a, b⟩ := yQ (k := ⟨z.take (n * sz), el, bW P el, true⟩) hA hS hfree rfl (s6 q4 _) (ah6 (ade (q5 w I dL) _)) (uC (P := P) (w := w) (I := I) (ρ := ρ) q4 (by rw [Array.length_toList, q2, q3]) (by simpa using q5 w I ρ)) (fun _ => aaq _ _)
   have hwn : IntKind.i64.wrap (n : Int) = n := by rw [IntKind.wrap_i64]; omega
   have hwk : IntKind.i64.wrap (k : Int) = k := by rw [IntKind.wrap_i64]; omega
   have hb : ((i.bytes : Int) * (k : Int)) ≤ 281474976710656 := by
     have : ((k * i.bytes : Nat) : Int) ≤ 281474976710656 := by omega
     rw [Int.natCast_mul, Int.mul_comm] at this
     exact this
   refine ⟨.slice (some ⟨w.heap.size, 0, none⟩) n k, _, _, _, ?_, ?_, a, b, fun d y h => by cases h⟩
   · have q1' := q1 w
     have hnot : ¬ ((k : Int) < 0) := by omega
     have hnot2 : ¬ ((n : Int) < 0) := by omega
     have hnot3 : ¬ ((k : Int) < (n : Int)) := by omega
     have hnot4 : ¬ ((281474976710656 : Int) < (i.bytes : Int) * (k : Int)) := by omega
     unfold Instr.makeSlice
     simp only [Sem.run_bind, cX (iC hel), Result.andThen_ok, asInt, asIntOf, Sem.run_pure, Sem.run_map, typeInfo, run_program, hi, hwn, hwk, run_askRoom, Int.toNat_natCast, gX hsz, Sem.run_ite]
     simp only [hnot, hnot2, hnot3, decide_false, Bool.false_or, gt_iff_lt, Bool.or_self, Bool.or_false, Nat.reducePow, Int.reducePow, hnot4, if_false, Bool.false_eq_true]
     simp only [Sem.run_bind, Sem.run_ite, Sem.run_pure] at q1'
     by_cases h0 : k * sz = 0
     · simp [h0] at q1'
       simp [h0, newRow, q1']
     · simp only [h0, if_false] at q1' ⊢
       cases hzv : (zeroValue el).run P w with
       | halt x y => rw [hzv] at q1'; simp at q1'
       | ok x y =>
         rw [hzv] at q1'
         simp at q1'
         obtain ⟨q6, q7⟩ := q1'
         subst q7
         simp [q6, newRow]
   · simp only [id, VR]
     obtain ⟨fr, hfr⟩ := hA.blk
     refine ⟨_, _, k, el, _, sz, wT _ _ _, rfl, ⟨c1, Nat.le_refl _⟩, fun _ => rfl, lO hfr, hsz, ?_⟩
     rw [q2]
     omega
 · cases h
end
section
variable {P:Program} {w:World} {I:Nat→Prop} {ρ:cK} {m:aF}
theorem apd (v:Value):v.cells.toList.length=v.cells.size:=by simp
theorem ape {t:TypeId} {n:Nat} (hn:cH P t=some n) {a:Addr} {v:Value} (hs:v.cells.size=n) {r:Result Unit} (h:(storeCells a v.cells.toList).run P w=r):(storeVar t a v).run P w=r:=by
 simp [storeVar,gX hn,hs,h]
theorem abT {k:eP} {g o:Nat} (h:BR P w I ρ k g o) (hw:k.wr=true) {arr:Array Value} {ty:TypeId} {fr:Nat×Nat} (hh:w.heap[g]? = some (.cells arr ty fr)):∀ j,w.frozen? ⟨g,j,none⟩=true→arr.size≤j :=
 fun j hj=>(h.wr hw).2 j hj arr.size ty (lO hh)
theorem abU {cs xs : List AV} {off o p : Nat} (hp : p = o + off) (hle : off + xs.length ≤ cs.length) {arr arr' : Array Value} {vs : List Value} (hvs : vs.length = xs.length)
   (hc : bK P w I ρ cs (fun j => arr[o + j]?)) (hx : bK P w I ρ xs (fun j => vs[j]?)) (ha : ∀ i, arr'[i]? = if p ≤ i ∧ i < p + vs.length ∧ i < arr.size then vs[i - p]? else arr[i]?) : bK P w I ρ (cN cs off xs) (fun j => arr'[o + j]?) := by
 subst hp
 refine j2.2 fun j c hj => ?_
 rw [ah0 _ _ _ hle] at hj
 simp only [ha]
 split at hj
 · rename_i hr
   have hjc : j < cs.length := by omega
   obtain ⟨u, hu⟩ := aam hc hjc
   have hlt : o + j < arr.size := (Array.getElem?_eq_some_iff.1 hu).1
   rw [if_pos (by omega)]
   obtain ⟨v, h1, h2⟩ := fY hx hj
   exact ⟨v, by rw [show o + j - (o + off) = j - off by omega]; exact h1, h2⟩
 · rename_i hr
   rw [if_neg (by omega)]
   exact fY hc hj
theorem wW (x : Option eP) : (match x with
   | some k => ∃ wr, x = some ⟨k.cells, k.el, k.kind, wr⟩ ∧ (wr = true → k.wr = true)
   | none => x = none) := by
 cases x with
 | none => rfl
 | some k => exact ⟨k.wr, rfl, fun h => h⟩
mutual
theorem apf : ∀ (av : AV) (m m' : aF) (av' : AV), fz m av = some (av', m') → ∀ b, match m.at_ b with
   | some k => ∃ wr, m'.at_ b = some ⟨k.cells, k.el, k.kind, wr⟩ ∧ (wr = true → k.wr = true)
   | none => m'.at_ b = none
 | .val x, m, m', av', h, b => by
   simp only [fz, Option.some.injEq, Prod.mk.injEq] at h; obtain ⟨rfl, rfl⟩ := h; exact wW _
 | .tree n c cs f, m, m', av', h, b => by
   simp only [fz, Option.some.injEq, Prod.mk.injEq] at h; obtain ⟨rfl, rfl⟩ := h; exact wW _
 | .tptr o cs, m, m', av', h, b => by
   simp only [fz, Option.some.injEq, Prod.mk.injEq] at h; obtain ⟨rfl, rfl⟩ := h; exact wW _
 | .emp c f, m, m', av', h, b => by
   simp only [fz, Option.some.injEq, Prod.mk.injEq] at h; obtain ⟨rfl, rfl⟩ := h; exact wW _
 | .agg cs, m, m', av', h, b => by
   simp only [fz] at h
   obtain ⟨r, hr, h⟩ := awD h
   simp only [Prod.mk.injEq] at h
   obtain ⟨rfl, rfl⟩ := h
   exact adl cs m r.2 r.1 hr b
 | .sl c off len cc full, m, m', av', h, b => by
   simp only [fz] at h
   split at h
   · rename_i cells el wr hb
     simp only [Option.some.injEq, Prod.mk.injEq] at h
     obtain ⟨rfl, rfl⟩ := h
     by_cases e : b = c
     · subst e; rw [hb]; exact ⟨false, by simp [aF.put], fun h => by cases h⟩
     · have : (m.put c (some ⟨cells, el, .flat, false⟩)).at_ b = m.at_ b := by simp [aF.put, e]
       rw [this]
       exact wW _
   · rename_i cells el wr hb
     split at h
     · cases h
     simp only [Option.some.injEq, Prod.mk.injEq] at h
     obtain ⟨rfl, rfl⟩ := h
     by_cases e : b = c
     · subst e; rw [hb]; exact ⟨false, by simp [aF.put], fun h => by cases h⟩
     · have : (m.put c (some ⟨cells, el, .var, false⟩)).at_ b = m.at_ b := by simp [aF.put, e]
       rw [this]
       exact wW _
   · cases h
 | .ptr _ _, m, m', av', h, b => by simp [fz] at h
 | .tup _, m, m', av', h, b => by simp [fz] at h
 | .clo f [], m, m', av', h, b => by
   simp only [fz, Option.some.injEq, Prod.mk.injEq] at h; obtain ⟨rfl, rfl⟩ := h; exact wW _
 | .clo f (c :: cs), m, m', av', h, b => by simp [fz] at h
theorem adl : ∀ (cs : List AV) (m m' : aF) (cs' : List AV), fzs m cs = some (cs', m') → ∀ b, match m.at_ b with
   | some k => ∃ wr, m'.at_ b = some ⟨k.cells, k.el, k.kind, wr⟩ ∧ (wr = true → k.wr = true)
   | none => m'.at_ b = none
 | [], m, m', cs', h, b => by
   simp only [fzs, Option.some.injEq, Prod.mk.injEq] at h; obtain ⟨rfl, rfl⟩ := h; exact wW _
 | c :: cs, m, m', cs', h, b => by
   simp only [fzs] at h
   obtain ⟨r, hr, h⟩ := awC h
   obtain ⟨s, hs, h⟩ := awD h
   simp only [Prod.mk.injEq] at h
   obtain ⟨rfl, rfl⟩ := h
   have h1 := apf c m r.2 r.1 hr b
   have h2 := adl cs r.2 s.2 s.1 hs b
   cases hq : m.at_ b with
   | none => rw [hq] at h1; simp only at h1; rw [h1] at h2; exact h2
   | some k =>
     rw [hq] at h1
     simp only at h1
     obtain ⟨wr, h3, h4⟩ := h1
     rw [h3] at h2
     simp only at h2
     obtain ⟨wr', h5, h6⟩ := h2
     exact ⟨wr', h5, fun h => h4 (h6 h)⟩
end
theorem apg (hS : SR P w I ρ m) {t : TypeId} {slot : Option Nat} {x a : AV} {out : bY} (h : aJ P m t slot x a = some out) {v va : Value} (hv : VR P w I ρ x v) (ha : VR P w I ρ a va) :
   iD P w I ρ m ((Instr.storeAt t va v).run P w) (fun _ => undef) out va := by
 unfold aJ at h
 split at h
 · rename_i b off
   obtain ⟨n, hn, h⟩ := awC h
   obtain ⟨k, hk, h⟩ := awC h
   split at h
   · rename_i hc
     obtain ⟨c1, c2, c3, c4, c0⟩ := hc
     simp only [VR] at ha
     obtain ⟨g, o, hb, rfl⟩ := ha
     have hB := hS.blk b k g o hk hb
     obtain ⟨arr, fr, hh, hcells⟩ := hB.cells
     obtain ⟨g1, g2, g3⟩ := afh c4 hv
     have hvl : v.cells.toList.length = x.cells.length := by rw [apd, g1]
     have hsz : o + off + v.cells.toList.length ≤ arr.size := by
       obtain ⟨u, hu⟩ := aam hcells (j := off + n - 1) (by omega)
       have := (Array.getElem?_eq_some_iff.1 hu).1
       omega
     have hone := uC (P := P) (w := w) (I := I) (ρ := ρ) g2 hvl (by simpa using g3)
     have hrun : (Instr.storeAt t (.pointer (some ⟨g, o + off, none⟩)) v).run P w = .ok () (w.setCells g (o + off) v.cells.toList) := by
       have := abS (P := P) (w := w) hh (abT hB c3 hh) hsz hone
       simp [Instr.storeAt, Instr.sureAddr, ape hn (by rw [g1, c1]) this]
     split at h
     · -- a hole: written once, immutable from now on
       rename_i hkind
       obtain ⟨d, hd, h⟩ := awC h
       split at h
       · rename_i hc2
         obtain ⟨c5, c6⟩ := hc2
         obtain ⟨r, hr, h⟩ := awC h
         simp only [Option.some.injEq] at h
         subst h
         obtain ⟨e1, e2⟩ := ah3 hS b
         obtain ⟨I1, a1, b1, f1, d1, d2, d3⟩ := wU x.cells (m.put b none) r.2 I r.1 _ hr e1 g3
         have s12 := e2.trans b1
         have hng : ¬ I g := (hB.wr c3).1
         have hdom : ∀ b' k' x' o', r.2.at_ b' = some k' → ρ b' = some (x', o') → x' ≠ g := by
           rintro b' k' x' o' q1 q2 rfl
           have := adl x.cells (m.put b none) r.2 r.1 hr b'
           by_cases e : b' = b
           · have h0 : (m.put b none).at_ b' = none := by simp [aF.put, e]
             rw [h0] at this
             rw [this] at q1
             cases q1
           · have h0 : (m.put b none).at_ b' = m.at_ b' := by simp [aF.put, e]
             rw [h0] at this
             cases hq : m.at_ b' with
             | none => rw [hq] at this; rw [this] at q1; cases q1
             | some k2 => exact e (hS.inj b b' k k2 _ o o' hk hq hb q2 c3).symm
         have hng1 : ¬ I1 g := by
           intro hI
           rcases b1.back g hI with h1 | (⟨b', k', o', h1, h2, h3⟩ | h1) | h1
           · exact hng h1
           · by_cases e : b' = b
             · simp [aF.put, e] at h1
             · have h0 : (m.put b none).at_ b' = m.at_ b' := by simp [aF.put, e]
               rw [h0] at h1
               exact e (hS.inj b b' k k' _ o o' hk h1 hb h3 c3).symm
           · exact (hS.mms.not_cells h1 hh).elim
           · have := vC hh; omega
         obtain ⟨arr', h1, h2, h3⟩ := afi g v.cells.toList (o + off) w arr k.el fr hh
         obtain ⟨r1, r2, r3, r4⟩ := afj g v.cells.toList (o + off) w
         have hsh : ∀ x y, w.shape? x = some y → (w.setCells g (o + off) v.cells.toList).shape? x = some y := by
           intro x y hx
           by_cases e : x = g
           · subst e
             rw [lO h1, h2, ← lO hh]; exact hx
           · rw [uB (s7 g _ _ w x e)]; exact hx
         have hkp : gT w (w.setCells g (o + off) v.cells.toList) I1 (fun y => I1 y ∨ y = g) := ⟨fun _ h => .inl h, fun y hy => s7 g _ _ w y (fun e => hng1 (e ▸ hy)), hsh⟩
         refine ⟨(), _, (fun y => I1 y ∨ y = g), ρ, hrun, by simp only [eE, undef, VR], ⟨fun b' k' x' o' q1 q2 => ?_, a1.inj, fun y hy => ?_, a1.mms.keep hkp (fun _ _ h => h) (fun y hy => ⟨s7 g _ _ w y (fun e => by subst e; exact (a1.mms.not_cells hy hh).elim), fun h => h.elim id fun h => by subst h; exact (a1.mms.not_cells hy hh).elim⟩)⟩, ⟨r1, r2, r3, by rw [r4]; exact Nat.le_refl _, fun y hy hn => s7 g _ _ w y (fun e => hn (.inl ⟨b, k, o, hk, c3, by rw [e]; exact hb⟩)), hsh, fun y hy => .inl (s12.imm y hy), fun y hy => ?_, fun _ _ h => h, fun b h1 h2 => absurd h1 h2, fun y hy => s12.own y hy, s12.next⟩, fun d' y hy => ?_⟩
         · refine pQ hkp (fun _ _ h => h) (a1.blk b' k' x' o' q1 q2) (s7 g _ _ w x' (hdom b' k' x' o' q1 q2)) (fun hwr hI => ?_)
           rcases hI with hI | hI
           · exact ((a1.blk b' k' x' o' q1 q2).wr hwr).1 hI
           · exact hdom b' k' x' o' q1 q2 hI
         · rw [r4]
           rcases hy with hy | rfl
           · exact a1.lt y hy
           · exact vC hh
         · rcases hy with hy | rfl
           · exact s12.back y hy
           · exact .inr (.inl (.inl ⟨b, k, o, hk, c3, hb⟩))
         · simp only [Option.some.injEq, Prod.mk.injEq] at hy
           obtain ⟨rfl, rfl⟩ := hy
           simp only [VR]
           refine ⟨g, o + off, rfl, .inr rfl, d3 g2, ?_⟩
           refine iB (eL hkp (fun _ _ h => h) _ _ d1) fun j hj => ?_
           rw [cell_of_row _ _ _ _ _ _ h1, h3, if_pos (by omega)]
           simp
       · cases h
     · rename_i hkind
       simp only [bO, Option.some.injEq] at h
       subst h
       rw [hkind] at hcells
       obtain ⟨s1, s2⟩ := wV (k' := ⟨cN k.cells off x.cells, k.el, .var, true⟩) hS hk c3 hb (vs := v.cells.toList) (p := o + off) ⟨rfl, rfl, aan hB.one g2 _⟩ hone (fun arr0 fr0 e0 hc0 arr' e1 e2 => by
         rw [hkind] at hc0
         simp only [reduceCtorEq, if_false] at hc0 ⊢
         exact abU rfl (by omega) hvl hc0 (by simpa using g3) e2)
       exact ⟨(), _, _, _, hrun, by simp only [eE, undef, VR], s1, s2, fun d y h => by cases h⟩
     · rename_i hkind
       obtain ⟨r, hr, h⟩ := awC h
       obtain ⟨k1, hk1, h⟩ := awC h
       split at h
       · rename_i hw1
         simp only [bO, Option.some.injEq] at h
         subst h
         obtain ⟨I1, a1, b1, e1, d1, d2, d3⟩ := wU x.cells m r.2 I r.1 _ hr hS g3
         have hblk := adl x.cells m r.2 r.1 hr b
         rw [hk] at hblk
         obtain ⟨wr, h5, h6⟩ := hblk
         rw [hk1, Option.some.injEq] at h5
         subst h5
         simp only at hw1
         obtain ⟨s1, s2⟩ := wV (k' := ⟨cN k.cells off r.1, k.el, .flat, true⟩) a1 hk1 hw1 hb (vs := v.cells.toList) (p := o + off) ⟨rfl, rfl, aan hB.one (d3 g2) _⟩ hone (fun arr0 fr0 e0 hc0 arr' e1 e2 => by
           simp only [hkind, if_true] at hc0 ⊢
           exact abU rfl (by rw [d2]; omega) (by rw [d2]; exact hvl) hc0 (by simpa using d1) e2)
         exact ⟨(), _, _, _, hrun, by simp only [eE, undef, VR], s1, b1.trans s2, fun d y h => by cases h⟩
       · cases h
   · cases h
 · cases h
end
section
variable {P:Program} {w:World} {I:Nat→Prop} {ρ:cK} {m:aF}
def kR (k:fW) (ρ:cK):cK:=if k = .flat then dL else ρ
theorem aph {κ:cK} {cs:List AV} {get:Nat→Option Value} (h:bK P w I dL cs get):bK P w I κ cs get :=
 eL (⟨fun _ h=>h,fun _ _=>rfl,fun _ _ h=>h⟩:gT w w I I) (fun b x h=>by cases h) _ _ h
def abV (P:Program) (w:World) (I:Nat→Prop) (κ:cK) (a:Option Addr) (cs:List AV):Prop :=
 match a with
 | some ad=>(cs≠[]→ad.spot=none)∧bK P w I κ cs (fun j=>w.cell? ⟨ad.block,ad.off+j,none⟩)
 | none=>cs=[]
theorem abW (hS : SR P w I ρ m) {x : AV} {cs : List AV} {n : Nat} {f : Bool} {kd : fW} (h : dR kd m x = some (cs, n, f)) {v : Value} (hv : VR P w I ρ x v) :
   ∃ a cap, v = .slice a n cap ∧ n ≤ cap ∧ (f = true → cap = n) ∧ abV P w I (kR kd ρ) a cs ∧ eF cs ∧ (a = none → cs = [] ∧ n = 0 ∧ cap = 0) := by
 cases x with
 | val x =>
   simp only [VR] at hv
   subst hv
   unfold dR at h
   split at h
   · rename_i heq
     simp only [AV.val.injEq] at heq
     subst heq
     simp only [Option.some.injEq, Prod.mk.injEq] at h
     obtain ⟨rfl, rfl, rfl⟩ := h
     exact ⟨none, 0, rfl, Nat.le_refl _, fun _ => rfl, rfl, fun c hc => by simp at hc, fun _ => ⟨rfl, rfl, rfl⟩⟩
   · rename_i heq; cases heq
   · rename_i heq; cases heq
   · rename_i heq; cases heq
   · cases h
 | tree l c cells f' =>
   simp only [dR, Option.some.injEq, Prod.mk.injEq] at h
   obtain ⟨rfl, rfl, rfl⟩ := h
   simp only [VR] at hv
   obtain ⟨g, o, cap, rfl, hI, ⟨h1, h2⟩, h3, h4, h5⟩ := hv
   refine ⟨some ⟨g, o, none⟩, cap, rfl, by omega, fun hf => ?_, ⟨fun _ => rfl, aph h5⟩, h4, fun h => by cases h⟩
   simp at hf
   rw [h3 hf.1, hf.2]
 | emp c f' =>
   simp only [dR, Option.some.injEq, Prod.mk.injEq] at h
   obtain ⟨rfl, rfl, rfl⟩ := h
   simp only [VR] at hv
   obtain ⟨ad, cap, rfl, h2, h3⟩ := hv
   refine ⟨some ad, cap, rfl, by omega, fun hf => ?_, ⟨fun h => absurd rfl h, by simp only [bK]⟩, fun c hc => by simp at hc, fun h => by cases h⟩
   simp at hf
   rw [h3 hf.1, hf.2]
 | sl b off l c f' =>
   simp only [dR] at h
   split at h
   · rename_i x hb
     split at h
     case isFalse => cases h
     rename_i hkd
     simp only [Option.some.injEq, Prod.mk.injEq] at h
     obtain ⟨rfl, rfl, rfl⟩ := h
     simp only [VR] at hv
     obtain ⟨g, o, cap, ty, n', s, hg, rfl, ⟨h1, h2⟩, h3, _⟩ := hv
     have hB := hS.blk b _ g o hb hg
     refine ⟨some ⟨g, o + off, none⟩, cap, rfl, by omega, fun hf => ?_, ⟨fun _ => rfl, ?_⟩, kJ hB.one _, fun h => by cases h⟩
     · simp at hf
       rw [h3 hf.1, hf.2]
     · obtain ⟨arr, fr, e1, e2⟩ := hB.cells
       have e3 : bK P w I (kR kd ρ) x.cells (fun j => arr[o + j]?) := by unfold kR; rw [← hkd]; exact e2
       refine iB (kX e3 off) fun j _ => ?_
       simp [World.cell?, e1, Nat.add_assoc]
   · cases h
 | agg _ => simp [dR] at h
 | tup _ => simp [dR] at h
 | tptr _ _ => simp [dR] at h
 | ptr _ _ => simp [dR] at h
 | clo _ _ => simp [dR] at h
theorem adm {κ : cK} {a : Option Addr} {cs : List AV} (h : abV P w I κ a cs) {sz n : Nat} (hl : n * sz ≤ cs.length) {len cap : Nat} (ha : a = none → n = 0) :
   ∃ news : List Value, news.length = n * sz ∧ (Builtin.firstCells sz n (.slice a len cap)).run P w = .ok news.toArray w ∧ bK P w I κ (cs.take (n * sz)) (fun j => news[j]?) := by
 cases a with
 | none =>
   simp only [abV] at h
   subst h
   have : n = 0 := ha rfl
   subst this
   exact ⟨[], by simp, by simp [Builtin.firstCells], by simp [bK]⟩
 | some ad =>
   obtain ⟨h0, h⟩ := h
   obtain ⟨vs, l, f, r⟩ := ahU (ade h (n * sz))
   have hl' : vs.length = n * sz := by rw [l, List.length_take]; omega
   have hr := run_loadCells_list (P := P) (w := w) ad vs (fun j v hj => by
     have := f j v hj
     have e : ad.add j = ⟨ad.block, ad.off + j, none⟩ := by
       have hne : cs ≠ [] := fun e => by
         subst e
         simp at l
         subst l
         simp at hj
       obtain ⟨x, y, z⟩ := ad
       have h0 := h0 hne
       simp only at h0
       subst h0
       exact Addr.add_lit x y j
     rw [e]; exact this)
   rw [hl'] at hr
   exact ⟨vs, hl', by simp [Builtin.firstCells, hr], r⟩
theorem afm (b:ByteArray):bK P w I ρ (fQ b) (fun j=>(b.data.toList.map fun x=>Value.int .u8 x.toNat)[j]?):=j2.2 fun j c hj=>by
 unfold fQ at hj
 rw [List.getElem?_map] at hj
 obtain ⟨x,hx,rfl⟩:=awD hj
 exact ⟨.int .u8 x.toNat,by rw [List.getElem?_map,hx];rfl,by simp only [aU,VR]⟩
theorem afn (b:ByteArray):eF (fQ b):=fun c hc=>by
 obtain ⟨x,_,rfl⟩:=List.mem_map.1 hc
 rfl
theorem afo (b:ByteArray):(fQ b).length=b.size:=by simp [fQ]
theorem afp (hS : SR P w I ρ m) {el : TypeId} {sz : Nat} {x : AV} {new : List AV} {n : Nat} (h : eZ P el sz m x = some (new, n)) {v : Value} (hv : VR P w I ρ x v) :
   (Builtin.lenOf v).run P w = .ok n w ∧ new.length = n * sz ∧ eF new ∧ ∀ n', n' ≤ n → ∃ news : List Value, news.length = n' * sz ∧ (Builtin.firstCells sz n' v).run P w = .ok news.toArray w ∧ bK P w I (kR (bW P el) ρ) (new.take (n' * sz)) (fun j => news[j]?) := by
 have key : ∀ r, dR (bW P el) m x = some r → (if r.2.1 * sz ≤ r.1.length then some (r.1.take (r.2.1 * sz), r.2.1) else none) = some (new, n) →
     (Builtin.lenOf v).run P w = .ok n w ∧ new.length = n * sz ∧ eF new ∧ ∀ n', n' ≤ n → ∃ news : List Value, news.length = n' * sz ∧ (Builtin.firstCells sz n' v).run P w = .ok news.toArray w ∧ bK P w I (kR (bW P el) ρ) (new.take (n' * sz)) (fun j => news[j]?) := by
   rintro ⟨cs, l, f⟩ hr h
   split at h
   · rename_i hle
     simp only [Option.some.injEq, Prod.mk.injEq] at h
     obtain ⟨rfl, rfl⟩ := h
     obtain ⟨a, cap, rfl, _, _, h4, h5, h6⟩ := abW hS hr hv
     refine ⟨by simp [Builtin.lenOf], by rw [List.length_take]; exact Nat.min_eq_left hle, s6 h5 _, fun n' hn' => ?_⟩
     have hle' : n' * sz ≤ l * sz := Nat.mul_le_mul_right _ hn'
     obtain ⟨news, q1, q2, q3⟩ := adm (P := P) (n := n') (len := l) (cap := cap) h4 (Nat.le_trans hle' hle) (fun e => by have := (h6 e).2.1; omega)
     refine ⟨news, q1, q2, ?_⟩
     rw [List.take_take, Nat.min_eq_left hle']
     exact q3
   · cases h
 unfold eZ at h
 split at h
 · rename_i b
   split at h
   · rename_i hc
     obtain ⟨c1, rfl⟩ := hc
     simp only [Option.some.injEq, Prod.mk.injEq] at h
     obtain ⟨rfl, rfl⟩ := h
     simp only [VR] at hv
     subst hv
     refine ⟨by simp [Builtin.lenOf], by rw [afo, Nat.mul_one], afn b, fun n' hn' => ⟨(b.data.toList.map fun x => Value.int .u8 x.toNat).take n', ?_, ?_, ?_⟩⟩
     · simp; omega
     · simp only [Builtin.firstCells, Sem.run_pure]
       congr 1
       apply Array.ext'
       simp [ByteArray.data_extract]
     · rw [Nat.mul_one]
       refine j2.2 fun j c hj => ?_
       rw [List.getElem?_take] at hj
       split at hj
       · rename_i hlt
         obtain ⟨u, h1, h2⟩ := fY (afm (P := P) (w := w) (I := I) (ρ := kR (bW P el) ρ) b) hj
         exact ⟨u, by rw [List.getElem?_take, if_pos hlt]; exact h1, h2⟩
       · cases hj
   · cases h
 · obtain ⟨r, hr, h⟩ := awC h
   exact key r hr h
theorem api {w1 : World} {arr : Array Value} {ty : TypeId} (h : w1.heap = w.heap ∧ w1.os = w.os ∧ w1.tape = w.tape ∧ w1.output = w.output) :
   oQ w ((w1.alloc (.cells arr ty)).freeze ⟨w.heap.size, arr.size, none⟩ 1) arr ty := by
 have hA := afk (arr := arr) (ty := ty) h
 have hh : ((w1.alloc (.cells arr ty)).freeze ⟨w.heap.size, arr.size, none⟩ 1).heap[w.heap.size]? = some (.cells arr ty (arr.size, arr.size + 1)) := by
   have h2 : (w1.alloc (.cells arr ty)).heap[w.heap.size]? = some (.cells arr ty (0, 0)) := by rw [← h.1]; exact heap_alloc_new w1 _
   simp [World.freeze, Array.getElem?_modify, h2]
 refine ⟨hA.os, hA.tape, hA.output, ?_, fun g hg => ?_, ⟨_, hh⟩, fun j hj => ?_⟩
 · rw [← hA.size]; simp [World.freeze]
 · rw [← hA.same g hg]
   simp only [World.freeze, Nat.one_ne_zero, if_false]
   rw [Array.getElem?_modify, if_neg (by omega)]
 · unfold World.frozen?
   rw [hh]
   simp
   omega
theorem ah8 (el : TypeId) (s : ByteArray) : ∃ cap arr w', (Conv.stringToBytes el s).run P w = .ok (.slice (some ⟨w.heap.size, 0, none⟩) s.size cap) w' ∧ s.size ≤ cap ∧ oQ w w' arr el ∧ arr.size = cap ∧
   (∀ j, j < s.size → arr[j]? = (s.data.toList.map fun x => Value.int .u8 x.toNat)[j]?) ∧ ∀ v ∈ arr.toList, v.oneCell' = true := by
 obtain ⟨c, hc⟩ : ∃ c, c = (Question.appendCap s.size 0 el).cut (w.tape w.drawn (.appendCap s.size 0 el)) := ⟨_, rfl⟩
 have hge : s.size ≤ c := by rw [hc]; simp only [Question.cut]; omega
 refine ⟨c, (s.data.map fun b => Value.int .u8 b.toNat) ++ Array.replicate (c - s.size) (.int .u8 0), _, ?_, hge, api (w := w) (w1 := w.drew) ⟨rfl, rfl, rfl, rfl⟩, ?_, ?_, ?_⟩
 · have hsz : ((s.data.map fun (b : UInt8) => Value.int .u8 (b.toNat : Int)) ++ Array.replicate (c - s.size) (Value.int .u8 0)).size = c := by simp; omega
   have hsh := lO (heap_alloc_new w.drew (.cells ((s.data.map fun (b : UInt8) => Value.int .u8 (b.toNat : Int)) ++ Array.replicate (c - s.size) (Value.int .u8 0)) el))
   rw [hsz] at hsh
   unfold Conv.stringToBytes
   simp only [Sem.run_bind, run_choose, Question.forced, Bool.false_eq_true, if_false, Result.andThen_ok, ← hc, newRow, run_newObj, Sem.run_map, Sem.run_pure, World.drew_eq, World.alloc_eq, World.size_drew, markStringish, run_shape, hsz, run_freeze]
   simp only [World.size_drew] at hsh
   rw [hsh]
   simp only [Sem.run_bind, run_freeze, Result.andThen_ok, Sem.run_pure]
 · simp; omega
 · intro j hj
   rw [Array.getElem?_append_left (by simpa using hj)]
   simp
 · intro v hv
   rw [Array.mem_toList_iff] at hv
   rcases Array.mem_append.1 hv with hv | hv
   · obtain ⟨b, _, rfl⟩ := Array.mem_map.1 hv
     rfl
   · rw [(Array.mem_replicate.1 hv).2]
     rfl
theorem apj {a : Addr} {l : List Value} {n cap : Nat} (hl : (loadCells a n).run P w = .ok l.toArray w) {ns : List Int} (hb : l = ns.map fun n => Value.int .u8 n) : (Conv.bytesToString (.slice (some a) n cap)).run P w = .ok (.string ⟨(ns.map fun n => UInt8.ofNat n.toNat).toArray⟩) w := by
 have key : ∀ (ns : List Int) (s : ByteArray), (forIn (ns.map fun n => Value.int .u8 n).toArray s (fun c (r : ByteArray) => (match c with
     | .int .u8 n => pure (ForInStep.yield (r.push (UInt8.ofNat n.toNat)))
     | _ => (do
       stuck "bytesToString: byte expected"
       pure (ForInStep.yield r)) : Sem (ForInStep ByteArray)))).run P w = .ok ⟨s.data ++ (ns.map fun n => UInt8.ofNat n.toNat).toArray⟩ w := by
   intro ns
   induction ns with
   | nil => intro s; simp
   | cons b ns ih =>
     intro s
     simp only [List.map_cons, List.forIn_toArray, List.forIn_cons, Sem.run_bind, Sem.run_pure, Result.andThen_ok]
     have := ih (s.push (UInt8.ofNat b.toNat))
     simp only [List.forIn_toArray] at this
     rw [this]
     congr 1
     simp [ByteArray.push]
 subst hb
 unfold Conv.bytesToString
 simp only [Sem.run_bind, hl, Result.andThen_ok]
 refine Eq.trans (congrArg (fun r : Result ByteArray => r.andThen fun a w' => Sem.run P (pure (Value.string a)) w') (key ns ByteArray.empty)) ?_
 simp only [Result.andThen_ok, Sem.run_pure]
 congr 3
 simp [ByteArray.empty, ByteArray.emptyWithCapacity]
 rfl
theorem ah9:∀ (cs:List AV) (bs:List UInt8) (get:Nat→Option Value),bytesOf cs=some bs→bK P w I ρ cs get→∃ ns:List Int,ns.length=cs.length∧bs=ns.map (fun n=>UInt8.ofNat n.toNat)∧∀ j,j < cs.length→get j=(ns[j]?).map fun n => .int .u8 n
 | [],bs,get,h,hv=>by
  simp only [bytesOf,Option.some.injEq] at h
  subst h
  exact ⟨[],rfl,rfl,fun j hj=>by simp at hj⟩
 | c::cs,bs,get,h,hv=>by
  simp only [bytesOf] at h
  obtain ⟨b,hb,h⟩:=awC h
  obtain ⟨bs',h',rfl⟩:=awD h
  simp only [bK] at hv
  obtain ⟨⟨v,h0,h1⟩,h2⟩:=hv
  obtain ⟨ns,e0,e1,e2⟩:=ah9 cs bs' _ h' h2
  unfold asB at hb
  split at hb
  ·rename_i n
   simp only [Option.some.injEq] at hb
   simp only [VR] at h1
   subst h1
   refine ⟨n::ns,by simp [e0],by simp [e1,hb],fun j hj => ?_⟩
   cases j with
   | zero=>simpa using h0
   | succ j=>simpa using e2 j (by simpa using hj)
  ·cases hb
end
section
variable {P:Program} {w:World} {I:Nat→Prop} {ρ:cK} {m:aF}
theorem iD.pur {s:Sem Value} {av:AV} {addr:Value} (hS:SR P w I ρ m) (h:l5 P w I ρ s av):iD P w I ρ m (s.run P w) id ⟨av,m,none⟩ addr:=by
 obtain ⟨v,h1,h2⟩:=h
 exact ⟨v,w,I,ρ,h1,h2,hS,cP.refl _ _ _ _,fun d y h=>by cases h⟩
theorem aia (hS : SR P w I ρ m) {src dst : TypeId} {x : AV} {out : bY} (h : mK P m src dst x = some out) (hfree : ∀ b, m.next ≤ b → b < out.m.next → ρ b = none) {v : Value} (hv : VR P w I ρ x v) (addr : Value) :
   iD P w I ρ m ((Go.convert src dst v).run P w) id out addr := by
 unfold mK at h
 split at h
 · rename_i el hel
   split at h
   · rename_i s
     split at h
     · rename_i hc
       obtain ⟨hu, hss, hsz1⟩ := hc
       have hds := aal hss
       simp only [bO, Option.some.injEq] at h
       subst h
       simp only [VR] at hv
       subst hv
       obtain ⟨cap, arr, w', h1, h2, h3, h4, h5, h6⟩ := ah8 (P := P) (w := w) el s
       have hf : ρ m.next = none := hfree m.next (Nat.le_refl _) (by simp [aF.push])
       obtain ⟨a, b⟩ := yQ (k := ⟨fQ s, el, .flat, true⟩) h3 hS hf rfl (afn s) (by
         simp only [if_true]
         exact iB (afm s) fun j hj => h5 j (by rw [afo] at hj; exact hj)) h6 (fun h => by simp only at h; rw [hu] at h; cases h)
       refine ⟨.slice (some ⟨w.heap.size, 0, none⟩) s.size cap, w', I, _, ?_, ?_, a, b, fun d y h => by cases h⟩
       · simp [Go.convert, cX hds, cX (iC hel), cX (afc hu), h1]
       · simp only [id, VR]
         obtain ⟨fr, hfr⟩ := h3.blk
         exact ⟨_, _, cap, el, _, 1, wT _ _ _, rfl, ⟨Nat.le_refl _, h2⟩, (fun h => by cases h), lO hfr, hsz1, by omega⟩
     · cases h
   · cases h
 · rename_i hel
   have pure_case : ∀ u : Value, x = .val u → eQ ((cT P (Go.convert src dst u)).map .val) m = some out → iD P w I ρ m ((Go.convert src dst v).run P w) id out addr := by
     rintro u rfl h
     simp only [eQ] at h
     obtain ⟨av, hav, rfl⟩ := awD h
     obtain ⟨z, hz, rfl⟩ := awD hav
     simp only [VR] at hv
     subst hv
     exact iD.pur hS ⟨z, rO P _ _ hz w, by simp only [VR]⟩
   split at h
   · rename_i el hstr hsl
     split at h
     · rename_i hu
       obtain ⟨⟨cs, n, f⟩, hr, h⟩ := awC h
       simp only at h
       split at h
       · rename_i hle
         obtain ⟨bs, hbs, h⟩ := awC h
         simp only [bO, Option.some.injEq] at h
         subst h
         obtain ⟨a, cap, rfl, h1, h2, h3, h4, h5⟩ := abW hS hr hv
         refine ⟨.string ⟨bs.toArray⟩, w, I, ρ, ?_, by simp only [id, VR], hS, cP.refl _ _ _ _, fun d y h => by cases h⟩
         have hsrc := iC hsl
         have hdst := aal hstr
         simp only [Go.convert, Sem.run_bind, cX hsrc, cX hdst, Result.andThen_ok, cX (afc hu)]
         cases a with
         | none =>
           obtain ⟨e1, e2, e3⟩ := h5 rfl
           subst e1; subst e2
           simp [bytesOf] at hbs
           subst hbs
           simp [Conv.bytesToString]
           rfl
         | some ad =>
           obtain ⟨news, q1, q2, q3⟩ := adm (P := P) (sz := 1) (n := n) (len := n) (cap := cap) h3 (by rw [Nat.mul_one]; exact hle) (fun e => by cases e)
           rw [Nat.mul_one] at q1 q3
           have q2' : (loadCells ad n).run P w = .ok news.toArray w := by simpa [Builtin.firstCells] using q2
           obtain ⟨ns, e1, rfl, e2⟩ := ah9 _ bs _ hbs q3
           refine apj q2' ?_
           apply List.ext_getElem?
           intro j
           have hln : (cs.take n).length = n := by simp; omega
           by_cases hj : j < n
           · rw [List.getElem?_map]
             exact e2 j (by omega)
           · rw [List.getElem?_eq_none (by omega), List.getElem?_eq_none (by simp [e1]; omega)]
       · cases h
     · cases h
   · split at h
     · exact pure_case _ rfl h
     · cases h
theorem aib {t:TypeId} {z:List Value} (h:eX P t=some z):∃ v,(v.cells.size=z.length∧∀ x∈v.cells,x.oneCell'=true)∧∀ w,(zeroValue t).run P w = .ok v w:=by
 obtain ⟨v,h1,h2,h3,i,h4,h5⟩:=aas (w:=default) h
 exact ⟨v,⟨by rw [←h2];simp,fun x hx=>afl (h3 x (by rw [←h2];simpa using hx))⟩,fun w=>by simp [zeroValue,typeInfo,h4,h5]⟩
theorem apk (hS : SR P w I ρ m) {b : Nat} {k : eP} (hb : m.at_ b = some k) (hw : k.wr = true) {g o : Nat} (hg : ρ b = some (g, o)) (hfree : ρ m.next = none) (off : Nat) :
   SR P w I (nQ ρ m.next (g, o + off)) ((m.put b none).push ⟨k.cells.drop off, k.el, k.kind, true⟩) ∧ cP w I ρ m w I (nQ ρ m.next (g, o + off)) ((m.put b none).push ⟨k.cells.drop off, k.el, k.kind, true⟩) := by
 have hext := ah2 (ρ := ρ) (b := m.next) (x := (g, o + off)) hfree
 have hk := adg w I
 have hB := hS.blk b k g o hb hg
 have hold : ∀ b' k' x y, ((m.put b none).push ⟨k.cells.drop off, k.el, k.kind, true⟩).at_ b' = some k' → nQ ρ m.next (g, o + off) b' = some (x, y) →
     (b' = m.next ∧ k' = ⟨k.cells.drop off, k.el, k.kind, true⟩ ∧ x = g ∧ y = o + off) ∨ (b' ≠ m.next ∧ b' ≠ b ∧ m.at_ b' = some k' ∧ ρ b' = some (x, y)) := by
   intro b' k' x y h1 h2
   by_cases e : b' = m.next
   · subst e
     simp [aF.push, aF.put] at h1
     simp [nQ] at h2
     exact .inl ⟨rfl, h1.symm, h2.1.symm, h2.2.symm⟩
   · simp [aF.push, aF.put, e] at h1
     simp [nQ, e] at h2
     exact .inr ⟨e, h1.1, h1.2, h2⟩
 refine ⟨⟨fun b' k' x y h1 h2 => ?_, fun b1 b2 k1 k2 x o1 o2 h1 h2 h3 h4 h5 => ?_, hS.lt, hS.mms.keep hk hext (fun _ _ => ⟨rfl, fun h => h⟩)⟩, ⟨rfl, rfl, rfl, Nat.le_refl _, fun _ _ _ => rfl, fun _ _ h => h, fun _ h => h, fun _ h => .inl h, hext, fun b' h1 h2 => ?_, fun x hx => ?_, by simp [aF.push, aF.put]⟩⟩
 · rcases hold b' k' x y h1 h2 with ⟨rfl, rfl, rfl, rfl⟩ | ⟨_, _, h3, h4⟩
   · obtain ⟨arr, fr, hh, hc⟩ := hB.cells
     refine ⟨kJ hB.one _, ⟨arr, fr, hh, ?_⟩, fun _ => hB.wr hw, (fun h => by cases h), fun _ => hB.all1 hw, fun _ => hB.nostr hw⟩
     simp only at hc ⊢
     split at hc
     · rename_i hf; rw [if_pos hf]; exact iB (kX hc off) fun j _ => by rw [Nat.add_assoc]
     · rename_i hf; rw [if_neg hf]; exact iB (kX (eL hk hext _ _ hc) off) fun j _ => by rw [Nat.add_assoc]
   · exact pQ hk hext (hS.blk b' k' x y h3 h4) rfl (fun hwr => ((hS.blk b' k' x y h3 h4).wr hwr).1)
 · rcases hold b1 k1 x o1 h1 h3 with ⟨rfl, rfl, rfl, rfl⟩ | ⟨n1, n2, q1, q2⟩
   · rcases hold b2 k2 _ o2 h2 h4 with ⟨rfl, _⟩ | ⟨_, n3, q3, q4⟩
     · rfl
     · exact absurd (hS.inj b b2 k k2 _ o o2 hb q3 hg q4 hw).symm n3
   · rcases hold b2 k2 x o2 h2 h4 with ⟨rfl, rfl, rfl, rfl⟩ | ⟨_, n3, q3, q4⟩
     · exact absurd (hS.inj b1 b k1 k _ o1 o q1 hb q2 hg h5) n2
     · exact hS.inj b1 b2 k1 k2 x o1 o2 q1 q3 q2 q4 h5
 · unfold nQ at h2
   split at h2
   · rename_i e; subst e; simp [aF.push, aF.put]
   · exact absurd h1 h2
 · rcases hx with ⟨b', k', y, h1, h2, h3⟩ | hx
   · rcases hold b' k' x y h1 h3 with ⟨rfl, rfl, rfl, rfl⟩ | ⟨_, _, q3, q4⟩
     · exact .inl (.inl ⟨b, k, o, hb, hw, hg⟩)
     · exact .inl (.inl ⟨b', k', y, q3, h2, q4⟩)
   · exact .inl (.inr hx)
theorem aic {t2:TypeId} (h2:uA P t2=true):∃ d,P.underlying t2=some d∧∀ k,d ≠ .int k:=by
 unfold uA at h2
 split at h2
 ·cases h2
 ·rename_i d hne hd
  exact ⟨d,hd,hne⟩
 ·cases h2
theorem aid {d:TypeDesc} (h:∀ k,d ≠ .int k):(match (generalizing:=false) d with | .int _=>true | _=>false)=false:=by
 cases d <;> first | rfl | exact absurd rfl (h _)
theorem apl {t t2 ty el : TypeId} {sz y : Nat} (hel : cD P t = some el) (h2 : uA P t2 = true) (hsz : cH P el = some sz) (hy : hY P el = some y) {z : Value} (hz : ∀ w, (zeroValue el).run P w = .ok z w)
   {base : Option Addr} {len cap n : Nat} {xv : Value} (hlen : (Builtin.lenOf xv).run P w = .ok n w) {old news : List Value} (hnews : (Builtin.firstCells sz n xv).run P w.drew = .ok news.toArray w.drew)
   (hold : (Builtin.firstCells sz len (.slice base len cap)).run P w.drew = .ok old.toArray w.drew) (hroom : (len + n) * y ≤ 140737488355328) (hroom2 : len + n ≤ 140737488355328) (hg : cap < len + n) :
   ∃ c, len + n ≤ c ∧ (Builtin.append_ #[t, t2] ty #[.slice base len cap, xv]).run P w = .ok (.slice (some ⟨w.heap.size, 0, none⟩) (len + n) c) (w.drew.alloc (.cells (old.toArray ++ news.toArray ++ Builtin.zeroCells z.cells (c - (len + n))) el)) := by
 obtain ⟨d2, hd2, hnz⟩ := aic h2
 obtain ⟨i, hi, rfl⟩ := afa hy
 obtain ⟨c, hc⟩ : ∃ c, c = (Question.appendCap (len + n) cap el).cut (w.tape w.drawn (.appendCap (len + n) cap el)) := ⟨_, rfl⟩
 refine ⟨c, by rw [hc]; simp only [Question.cut]; omega, ?_⟩
 have hns := growslice_fits (bytes := i.bytes) hg hroom
 have hn1 : ¬ (len + n ≤ cap) := by omega
 have hn2 : ¬ (281474976710656 < Builtin.nextslicecap (len + n) cap * i.bytes) := by omega
 have hn3 : ¬ ((9223372036854775807 : Int) < (len : Int) + (n : Int)) := by omega
 have hti : ∀ w, (typeInfo el).run P w = .ok i w := fun w => by simp [typeInfo, hi]
 have hm := aid hnz
 simp [Builtin.append_, cX (iC hel), cX hd2, gX hsz, hti, hlen, hn1, hn2, hn3, Question.forced, hz, hnews, hold, newRow, hm, ← hc, Array.append_assoc]
 congr 2
 apply Array.ext'
 simp [List.append_assoc]
theorem afq {t t2 ty el : TypeId} {sz : Nat} (hel : cD P t = some el) (h2 : uA P t2 = true) (hsz : cH P el = some sz)
   {base : Option Addr} {len cap n : Nat} {xv : Value} (hlen : (Builtin.lenOf xv).run P w = .ok n w) {news : List Value} (hnews : (Builtin.firstCells sz n xv).run P w = .ok news.toArray w)
   (hfit : len + n ≤ cap) {w' : World} (hr : (match base with | some a => storeCells (a.add (len * sz)) news | none => pure () : Sem Unit).run P w = .ok () w') : (Builtin.append_ #[t, t2] ty #[.slice base len cap, xv]).run P w = .ok (.slice base (len + n) cap) w' := by
 obtain ⟨d2, hd2, hnz⟩ := aic h2
 have hm := aid hnz
 cases base with
 | none =>
   simp at hr
   subst hr
   simp [Builtin.append_, cX (iC hel), cX hd2, gX hsz, hlen, hfit, hnews, hm]
 | some a =>
   simp only at hr
   simp [Builtin.append_, cX (iC hel), cX hd2, gX hsz, hlen, hfit, hnews, hm, hr]
theorem abX (w:World) (I:Nat→Prop):gT w w.drew I I:=⟨fun _ h=>h,fun _ _=>rfl,fun _ _ h=>h⟩
theorem apm {av:AV} {v:Value} (h:VR P w I ρ av v):VR P w.drew I ρ av v:=pP (abX w I) (fun _ _ h=>h) av v h
theorem aie (hS:SR P w I ρ m):SR P w.drew I ρ m :=
 ⟨fun b k g o h1 h2=>pQ (abX w I) (fun _ _ h=>h) (hS.blk b k g o h1 h2) rfl (fun hw=>((hS.blk b k g o h1 h2).wr hw).1),hS.inj,hS.lt,hS.mms.keep (abX w I) (fun _ _ h=>h) (fun _ _=>⟨rfl,fun h=>h⟩)⟩
theorem afr (z:Array Value) (n:Nat):(Builtin.zeroCells z n).size=n*z.size:=by simp [Builtin.zeroCells]
theorem afs {z:Array Value} (h:∀ x∈z,x.oneCell'=true) (n:Nat):∀ x∈Builtin.zeroCells z n,x.oneCell'=true:=by
 intro x hx
 simp only [Builtin.zeroCells,Array.mem_map,Array.mem_range] at hx
 obtain ⟨i,hi,rfl⟩:=hx
 have hpos:0 < z.size:=by
  rcases Nat.eq_zero_or_pos z.size with e | e
  ·rw [e] at hi;simp at hi
  ·exact e
 rw [getElem!_pos z _ (Nat.mod_lt _ hpos)]
 exact h _ (Array.getElem_mem _)
theorem aif {as bs : List AV} {xs ys : List Value} {arr : Array Value} (hl : xs.length = as.length) (ha : bK P w I ρ as (fun j => xs[j]?)) (hb : bK P w I ρ bs (fun j => ys[j]?)) (hy : ys.length = bs.length) :
   bK P w I ρ (as ++ bs) (fun j => (xs.toArray ++ ys.toArray ++ arr)[j]?) := j2.2 fun j c hj => by
 rcases Nat.lt_or_ge j as.length with h | h
 · rw [List.getElem?_append_left h] at hj
   obtain ⟨u, h1, h2⟩ := fY ha hj
   exact ⟨u, by rw [Array.append_assoc, Array.getElem?_append_left (by simp; omega)]; simpa using h1, h2⟩
 · rw [List.getElem?_append_right h] at hj
   have hjb := (List.getElem?_eq_some_iff.1 hj).1
   obtain ⟨u, h1, h2⟩ := fY hb hj
   refine ⟨u, ?_, h2⟩
   rw [Array.getElem?_append_left (by simp; omega), Array.getElem?_append_right (by simp; omega)]
   simp only [List.size_toArray, List.getElem?_toArray, hl]
   exact h1
theorem apn (hS : SR P w I ρ m) {t t2 ty el : TypeId} (hel : cD P t = some el) (h2 : uA P t2 = true) {s x : AV} {out : bY} (h : dW P el m s x = some out) (hfree : ∀ b, m.next ≤ b → b < out.m.next → ρ b = none)
   {sv xv : Value} (hs : VR P w I ρ s sv) (hx : VR P w I ρ x xv) (addr : Value) : iD P w I ρ m ((Builtin.append_ #[t, t2] ty #[sv, xv]).run P w) id out addr := by
 unfold dW at h
 obtain ⟨sz, hsz, h⟩ := awC h
 obtain ⟨y, hy, h⟩ := awC h
 obtain ⟨zl, hzl, h⟩ := awC h
 obtain ⟨⟨new, n⟩, hnew, h⟩ := awC h
 obtain ⟨⟨cs, len, f⟩, hsv, h⟩ := awC h
 simp only at h
 split at h
 · rename_i hc
   obtain ⟨c1, c2, c3⟩ := hc
   obtain ⟨z, ⟨hz0, hz1⟩, hz⟩ := aib hzl
   obtain ⟨l1, l2, l3, l4⟩ := afp hS hnew hx
   obtain ⟨_, _, _, l4'⟩ := afp (aie hS) hnew (apm hx)
   obtain ⟨base, cap, rfl, b1, b2, b3, b4, b5⟩ := abW hS hsv hs
   have hnewt : new.take (n * sz) = new := by rw [← l2]; exact List.take_length
   -- growing
   have grow : cap < len + n → len * sz ≤ cs.length → ∀ (m1 : aF), m1.next = m.next → SR P w I ρ m1 → cP w I ρ m w I ρ m1 → ρ m.next = none →
       iD P w I ρ m ((Builtin.append_ #[t, t2] ty #[.slice base len cap, xv]).run P w) id ⟨.sl m1.next 0 (len + n) (len + n) false, m1.push ⟨cs.take (len * sz) ++ new, el, bW P el, true⟩, none⟩ addr := by
     intro hg hlc m1 hm1 hS1 hst hf
     obtain ⟨news, n1, n2, n3⟩ := l4' n (Nat.le_refl _)
     have hin : abV P w.drew I (kR (bW P el) ρ) base cs := by
       cases base with
       | none => exact b3
       | some ad => exact ⟨b3.1, eL (abX w I) (fun _ _ h => h) _ _ b3.2⟩
     obtain ⟨old, o1, o2, o3⟩ := adm (P := P) (sz := sz) (n := len) (len := len) (cap := cap) hin hlc (fun e => (b5 e).2.1)
     obtain ⟨c, hc1, hrun⟩ := apl (ty := ty) hel h2 hsz hy hz l1 n2 o2 c1 c2 hg
     have hA := afk (w := w) (w1 := w.drew) (arr := old.toArray ++ news.toArray ++ Builtin.zeroCells z.cells (c - (len + n))) (ty := el) ⟨rfl, rfl, rfl, rfl⟩
     have hlt : (cs.take (len * sz)).length = len * sz := by simp; omega
     rw [hnewt] at n3
     obtain ⟨a, b⟩ := yQ (k := ⟨cs.take (len * sz) ++ new, el, bW P el, true⟩) hA hS1 (by rw [hm1]; exact hf) rfl (abP (s6 b4 _) l3) (by
       exact eL (⟨fun _ h => h, fun _ _ => rfl, fun _ _ h => h⟩ : gT w.drew w I I) (fun _ _ h => h) _ _ (aif (by rw [o1, hlt]) o3 n3 (by rw [n1, l2]))) (fun x hx => by
       rw [Array.mem_toList_iff] at hx
       rcases Array.mem_append.1 hx with hx | hx
       · rcases Array.mem_append.1 hx with hx | hx
         · exact uC (P := P) (w := w.drew) (I := I) (ρ := kR (bW P el) ρ) (s6 b4 (len * sz)) (by rw [o1, hlt]) o3 x (by simpa using hx)
         · exact uC (P := P) (w := w.drew) (I := I) (ρ := kR (bW P el) ρ) l3 (by rw [n1, l2]) n3 x (by simpa using hx)
       · exact afs hz1 _ x hx) (fun _ => aaq (w1 := w.drew) _ _)
     refine ⟨_, _, _, _, hrun, ?_, a, hst.trans b, fun d y h => by cases h⟩
     simp only [id, VR]
     obtain ⟨fr, hfr⟩ := hA.blk
     refine ⟨_, _, c, el, _, sz, wT _ _ _, rfl, ⟨Nat.le_refl _, hc1⟩, (fun h => by cases h), lO hfr, hsz, ?_⟩
     simp only [Array.size_append, List.size_toArray, afr, o1, n1, hz0, c3]
     rw [← Nat.add_mul, ← Nat.add_mul]
     have : len + n + (c - (len + n)) = c := by omega
     rw [this]
     omega
   split at h
   · rename_i hf
     have hcap : cap = len := b2 hf
     split at h
     · rename_i hn0
       simp only [bO, Option.some.injEq] at h
       subst h
       subst hn0
       obtain ⟨news, n1, n2, n3⟩ := l4 0 (Nat.le_refl _)
       have hnil : news = [] := List.eq_nil_of_length_eq_zero (by rw [n1, Nat.zero_mul])
       subst hnil
       have hrun := afq (P := P) (w := w) (ty := ty) hel h2 hsz l1 n2 (base := base) (len := len) (cap := cap) (by omega) (w' := w) (by cases base <;> rfl)
       exact ⟨_, w, I, ρ, hrun, hs, hS, cP.refl _ _ _ _, fun d y h => by cases h⟩
     · rename_i hn0
       split at h
       · rename_i hlc
         simp only [bO, Option.some.injEq] at h
         subst h
         exact grow (by omega) hlc m rfl hS (cP.refl _ _ _ _) (hfree m.next (Nat.le_refl _) (by simp [aF.push]))
       · cases h
   · split at h
     · rename_i htight
       split at h
       · rename_i hlc
         simp only [bO, Option.some.injEq] at h
         subst h
         refine grow ?_ hlc m rfl hS (cP.refl _ _ _ _) (hfree m.next (Nat.le_refl _) (by simp [aF.push]))
         unfold vA at htight
         split at htight
         · simp only [VR] at hs
           obtain ⟨g, o, cap', ty', n', s', hb, heq, ⟨hl1, hl2⟩, hl3, hrest⟩ := hs
           simp only [Value.slice.injEq] at heq
           simp only [decide_eq_true_eq] at htight
           have := hl3 trivial
           omega
         · cases htight
       · cases h
     cases s with
     | sl b off len' c' f' =>
       simp only at h
       obtain ⟨k, hk, h⟩ := awC h
       split at h
       · rename_i hc'
         obtain ⟨d1, d2, d3⟩ := hc'
         simp only [bO, Option.some.injEq] at h
         subst h
         simp only [dR, hk] at hsv
         obtain ⟨kc, ke, kk, kw⟩ := k
         simp only at d1 d2 d3 hsv
         subst d1; subst d2
         split at hsv
         case isFalse => cases hsv
         case isTrue hkk =>
           subst hkk
           simp only [Option.some.injEq, Prod.mk.injEq] at hsv
           obtain ⟨rfl, rfl, rfl⟩ := hsv
           have hcl : (kc.drop off).length = len' * sz := by simp; omega
           have htk : (kc.drop off).take (len' * sz) = kc.drop off := by rw [← hcl]; exact List.take_length
           have hfr : ρ m.next = none := hfree m.next (Nat.le_refl _) (by simp [aF.push, aF.put])
           rcases Nat.lt_or_ge cap (len' + n) with hg | hfit
           · obtain ⟨e1, e2⟩ := ah3 hS b
             have := grow hg (by omega) (m.put b none) rfl e1 e2 hfr
             rw [htk] at this
             exact this
           · simp only [VR] at hs
             obtain ⟨g, o, cap', ty', n', s', hb, heq, ⟨hl1, hl2⟩, hl3, hsh, hss, hroom⟩ := hs
             simp only [Value.slice.injEq] at heq
             obtain ⟨rfl, _, rfl⟩ := heq
             have hB := hS.blk b _ g o hk hb
             obtain ⟨arr, fr, hh, hcells⟩ := hB.cells
             have hty := lO hh
             rw [hsh] at hty
             simp only [Option.some.injEq, Prod.mk.injEq] at hty
             obtain ⟨ht1, ht2⟩ := hty
             rw [ht1] at hss hsh
             rw [ht2] at hsh hroom
             rw [hsz, Option.some.injEq] at hss
             subst hss
             obtain ⟨news, n1, n2, n3⟩ := l4 n (Nat.le_refl _)
             rw [hnewt] at n3
             have hle : (len' + n) * sz ≤ cap * sz := Nat.mul_le_mul_right _ hfit
             rw [Nat.add_mul] at hle
             have hone := uC (P := P) (w := w) (I := I) (ρ := kR (bW P ke) ρ) l3 (by rw [n1, l2]) n3
             have hw1 := abS (P := P) (w := w) (o := o + off + len' * sz) (vs := news) hh (abT hB rfl hh) (by rw [n1]; omega) hone
             have hrun := afq (P := P) (w := w) (ty := ty) hel h2 hsz l1 n2 (base := some ⟨g, o + off, none⟩) (len := len') (cap := cap) hfit (by simpa only [Addr.add_lit] using hw1)
             obtain ⟨s1, s2⟩ := wV (k' := ⟨kc ++ new, ke, bW P ke, true⟩) hS hk rfl hb (vs := news) (p := o + off + len' * sz) ⟨rfl, rfl, abP hB.one l3⟩ hone (fun arr0 fr0 e0 hc0 arr' e1 e2 => by
               simp only at hc0 ⊢
               rw [hh] at e0
               simp only [Option.some.injEq, Obj.cells.injEq] at e0
               obtain ⟨rfl, _, _⟩ := e0
               refine j2.2 fun j c hj => ?_
               simp only [e2]
               rcases Nat.lt_or_ge j kc.length with hlt | hge
               · rw [List.getElem?_append_left hlt] at hj
                 rw [if_neg (by omega)]
                 exact fY hc0 hj
               · rw [List.getElem?_append_right hge] at hj
                 have hjb := (List.getElem?_eq_some_iff.1 hj).1
                 obtain ⟨u, h1, h2⟩ := fY n3 hj
                 rw [if_pos (by omega)]
                 exact ⟨u, by rw [show o + j - (o + off + len' * sz) = j - kc.length by omega]; exact h1, h2⟩)
             obtain ⟨s3, s4⟩ := apk s1 (b := b) (k := ⟨kc ++ new, ke, bW P ke, true⟩) (by simp [aF.put]) rfl hb hfr off
             have hmem : ((m.put b (some ⟨kc ++ new, ke, bW P ke, true⟩)).put b none).push ⟨(kc ++ new).drop off, ke, bW P ke, true⟩ = (m.put b none).push ⟨kc.drop off ++ new, ke, bW P ke, true⟩ := by
               have e1 : (m.put b (some ⟨kc ++ new, ke, bW P ke, true⟩)).put b none = m.put b none := by
                 simp only [aF.put, aF.mk.injEq, true_and, and_true]
                 funext j
                 by_cases e : j = b <;> simp [e]
               rw [e1, List.drop_append_of_le_length (by omega)]
             simp only at s3 s4
             rw [hmem] at s3 s4
             refine ⟨_, _, _, _, hrun, ?_, s3, s2.trans s4, fun d y h => by cases h⟩
             simp only [id, VR]
             refine ⟨g, o + off, cap, ke, arr.size, sz, wT _ _ _, rfl, ⟨Nat.le_refl _, hfit⟩, (fun h => by cases h), ?_, hsz, by omega⟩
             exact s2.shape _ _ hsh
       · split at h
         · rename_i hc2
           obtain ⟨d1, d2, d3, d4⟩ := hc2
           simp only [bO, Option.some.injEq] at h
           subst h
           simp only [dR, hk] at hsv
           obtain ⟨kc, ke, kk, kw⟩ := k
           simp only at d1 d2 d4 hsv
           subst d1; subst d2
           split at hsv
           case isFalse => cases hsv
           case isTrue hkk =>
             subst hkk
             simp only [Option.some.injEq, Prod.mk.injEq] at hsv
             obtain ⟨rfl, rfl, rfl⟩ := hsv
             simp only [VR] at hs
             obtain ⟨g, o, cap', ty', n', s', hb, heq, ⟨hl1, hl2⟩, hl3, hsh, hss, hroom⟩ := hs
             simp only [Value.slice.injEq] at heq
             obtain ⟨rfl, _, rfl⟩ := heq
             have hfit : len' + n ≤ cap := Nat.le_trans d3 hl2
             have hB := hS.blk b _ g o hk hb
             obtain ⟨arr, fr, hh, hcells⟩ := hB.cells
             obtain ⟨news, n1, n2, n3⟩ := l4 n (Nat.le_refl _)
             rw [hnewt] at n3
             have hone := uC (P := P) (w := w) (I := I) (ρ := kR (bW P ke) ρ) l3 (by rw [n1, l2]) n3
             have hcells' : bK P w I (kR (bW P ke) ρ) kc (fun j => arr[o + j]?) := hcells
             have hsz' : o + off + len' * sz + news.length ≤ arr.size := by
               rw [n1]
               rw [Nat.add_mul] at d4
               have hty := lO hh
               rw [hsh] at hty
               simp only [Option.some.injEq, Prod.mk.injEq] at hty
               rcases Nat.eq_zero_or_pos (n * sz) with h0 | h0
               · rcases Nat.eq_zero_or_pos (len' * sz) with h1 | h1
                 · omega
                 · obtain ⟨u, hu⟩ := aam hcells' (j := off + len' * sz - 1) (by omega)
                   have := (Array.getElem?_eq_some_iff.1 hu).1
                   omega
               · obtain ⟨u, hu⟩ := aam hcells' (j := off + len' * sz + n * sz - 1) (by omega)
                 have := (Array.getElem?_eq_some_iff.1 hu).1
                 omega
             have hw1 := abS (P := P) (w := w) (o := o + off + len' * sz) (vs := news) hh (abT hB rfl hh) hsz' hone
             have hrun := afq (P := P) (w := w) (ty := ty) hel h2 hsz l1 n2 (base := some ⟨g, o + off, none⟩) (len := len') (cap := cap) hfit (by simpa only [Addr.add_lit] using hw1)
             obtain ⟨s1, s2⟩ := wV (k' := ⟨cN kc (off + len' * sz) new, ke, bW P ke, true⟩) hS hk rfl hb (vs := news) (p := o + off + len' * sz) ⟨rfl, rfl, aan hB.one l3 _⟩ hone (fun arr0 fr0 e0 hc0 arr' e1 e2 => by
               simp only at hc0 ⊢
               exact abU (by omega) (by rw [l2]; rw [Nat.add_mul] at d4; omega) (by rw [n1, l2]) hc0 n3 e2)
             refine ⟨_, _, _, _, hrun, ?_, s1, s2, fun d y h => by cases h⟩
             simp only [id, VR]
             exact ⟨g, o, cap, ty', n', s', hb, rfl, ⟨d3, hl2⟩, hl3, s2.shape _ _ hsh, hss, hroom⟩
         · cases h
     | _ => simp at h
 · cases h
theorem aig {el : TypeId} {zl : List Value} (hz : eX P el = some zl) {sz : Nat} (hl : zl.length = sz) (n : Nat) : ∃ v, v.cells.size = sz ∧ (∀ w, (zeroValue el).run P w = .ok v w) ∧
   (rM zl (n * sz)).length = n * sz ∧ (Builtin.zeroCells v.cells n).size = n * sz ∧ eF (rM zl (n * sz)) ∧ (∀ x ∈ Builtin.zeroCells v.cells n, x.oneCell' = true) ∧ ∀ w I ρ, bK P w I ρ (rM zl (n * sz)) (fun j => (Builtin.zeroCells v.cells n)[j]?) := by
 obtain ⟨v, h1, h2, h3, i, h4, h5⟩ := aas (w := default) hz
 have hv : v.cells.size = sz := by rw [← hl, ← h2]; simp
 refine ⟨v, hv, fun w => by simp [zeroValue, typeInfo, h4, h5], by simp [rM], by rw [afr, hv], fun c hc => ?_, afs (fun x hx => afl (h3 x (by rw [← h2]; simpa using hx))) n, fun w I ρ => j2.2 fun j c hj => ?_⟩
 · obtain ⟨i, hi, rfl⟩ := List.mem_map.1 hc
   have hpos : 0 < zl.length := by
     rcases Nat.eq_zero_or_pos zl.length with e | e
     · rw [hl] at e; subst e; simp at hi
     · exact e
   refine adj (h3 _ ?_)
   rw [List.getD_eq_getElem?_getD, List.getElem?_eq_getElem (Nat.mod_lt _ hpos)]
   exact List.getElem_mem _
 · unfold rM at hj
   rw [List.getElem?_map] at hj
   obtain ⟨i, hi, rfl⟩ := awD hj
   have hlt : j < n * sz := by have := (List.getElem?_eq_some_iff.1 hi).1; simpa using this
   have hij : i = j := by simp [hlt] at hi; exact hi.symm
   subst hij
   have hpos : 0 < sz := by
     rcases Nat.eq_zero_or_pos sz with e | e
     · subst e; simp at hlt
     · exact e
   refine ⟨v.cells[i % v.cells.size]!, by simp [Builtin.zeroCells, hv, hlt], ?_⟩
   simp only [VR]
   have hm : i % sz < v.cells.size := by rw [hv]; exact Nat.mod_lt _ hpos
   rw [hv, getElem!_pos v.cells _ hm, List.getD_eq_getElem?_getD, hl, ← h2]
   simp [hm]
theorem apo {t2:TypeId} (h2:yL P t2=true):∃ k,P.underlying t2=some (.int k):=by
 unfold yL at h2
 split at h2
 ·rename_i k hk;exact ⟨k,hk⟩
 ·cases h2
theorem apq {t t2 ty el : TypeId} {sz y : Nat} (hel : cD P t = some el) (h2 : yL P t2 = true) (hsz : cH P el = some sz) (hy : hY P el = some y) {z : Value} (hz : ∀ w, (zeroValue el).run P w = .ok z w) (hzs : z.cells.size = sz)
   {base : Option Addr} {len cap n : Nat} {k : IntKind} {old : List Value} (hn0 : n ≠ 0)
   (hold : (Builtin.firstCells sz len (.slice base len cap)).run P w.drew = .ok old.toArray w.drew) (hroom : (len + n) * y ≤ 140737488355328) (hroom2 : len + n ≤ 140737488355328) (hg : cap < len + n) :
   ∃ c, len + n ≤ c ∧ (Builtin.append_ #[t, t2] ty #[.slice base len cap, .int k n]).run P w = .ok (.slice (some ⟨w.heap.size, 0, none⟩) (len + n) c) (w.drew.alloc (.cells (old.toArray ++ Builtin.zeroCells z.cells n ++ Builtin.zeroCells z.cells (c - (len + n))) el)) := by
 obtain ⟨k2, hd2⟩ := apo h2
 obtain ⟨i, hi, rfl⟩ := afa hy
 obtain ⟨c, hc⟩ : ∃ c, c = (Question.appendCap (len + n) cap el).cut (w.tape w.drawn (.appendCap (len + n) cap el)) := ⟨_, rfl⟩
 refine ⟨c, by rw [hc]; simp only [Question.cut]; omega, ?_⟩
 have hns := growslice_fits (bytes := i.bytes) hg hroom
 have hn1 : ¬ (len + n ≤ cap) := by omega
 have hn2 : ¬ (281474976710656 < Builtin.nextslicecap (len + n) cap * i.bytes) := by omega
 have hn3 : ¬ ((9223372036854775807 : Int) < (len : Int) + (n : Int)) := by omega
 have hti : ∀ w, (typeInfo el).run P w = .ok i w := fun w => by simp [typeInfo, hi]
 have hw : IntKind.i64.wrap (n : Int) = n := by rw [IntKind.wrap_i64]; omega
 have hn4 : ¬ ((n : Int) < 0) := by omega
 have hnb : n * i.bytes ≤ 140737488355328 := Nat.le_trans (Nat.mul_le_mul_right _ (Nat.le_add_left n len)) hroom
 have hn5 : ¬ ((281474976710656 : Int) < (n : Int) * (i.bytes : Int)) := by
   have : ((n * i.bytes : Nat) : Int) ≤ 140737488355328 := by omega
   rw [Int.natCast_mul] at this
   omega
 by_cases h0 : n * sz = 0
 · have hsz0 : sz = 0 := by
     rcases Nat.mul_eq_zero.1 h0 with e | e
     · exact absurd e hn0
     · exact e
   have hzc : ∀ k, Builtin.zeroCells z.cells k = #[] := fun k => by simp [Builtin.zeroCells, hzs, hsz0]
   simp [Builtin.append_, cX (iC hel), cX hd2, gX hsz, hti, hn1, hn2, hn3, hn4, hn5, Question.forced, hz, hold, newRow, ← hc, Array.append_assoc, asInt, asIntOf, hw, h0, hzc]
 · have h0' : ¬ (n = 0 ∨ sz = 0) := fun h => h0 (Nat.mul_eq_zero.2 h)
   simp [Builtin.append_, cX (iC hel), cX hd2, gX hsz, hti, hn1, hn2, hn3, hn4, hn5, Question.forced, hz, hold, newRow, ← hc, Array.append_assoc, asInt, asIntOf, hw, h0']
   exact fun h => absurd h h0
theorem apr (hS : SR P w I ρ m) {t t2 ty el : TypeId} (hel : cD P t = some el) (h2 : yL P t2 = true) {s : AV} {n : Nat} {k : IntKind} {out : bY} (h : yN P el m s n = some out) (hfree : ∀ b, m.next ≤ b → b < out.m.next → ρ b = none)
   {sv : Value} (hs : VR P w I ρ s sv) (addr : Value) : iD P w I ρ m ((Builtin.append_ #[t, t2] ty #[sv, .int k n]).run P w) id out addr := by
 unfold yN at h
 obtain ⟨sz, hsz, h⟩ := awC h
 obtain ⟨y, hy, h⟩ := awC h
 obtain ⟨zl, hzl, h⟩ := awC h
 obtain ⟨⟨cs, len, f⟩, hsv, h⟩ := awC h
 simp only at h
 split at h
 · rename_i hc
   obtain ⟨c1, c2, c3, c4, c5, hlc⟩ := hc
   simp only [bO, Option.some.injEq] at h
   subst h
   obtain ⟨z, hz0, hz, q1, q2, q3, q4, q5⟩ := aig hzl c3 n
   obtain ⟨base, cap, rfl, b1, b2, b3, b4, b5⟩ := abW hS hsv hs
   have hg : cap < len + n := by
     rcases c5 with c5 | c5
     · have := b2 c5; omega
     · unfold vA at c5
       split at c5
       · simp only [VR] at hs
         obtain ⟨g, o, cap', ty', n', s', hb, heq, ⟨hl1, hl2⟩, hl3, hrest⟩ := hs
         simp only [Value.slice.injEq] at heq
         simp only [decide_eq_true_eq] at c5
         have := hl3 trivial
         omega
       · cases c5
   have hin : abV P w.drew I (kR (bW P el) ρ) base cs := by
     cases base with
     | none => exact b3
     | some ad => exact ⟨b3.1, eL (abX w I) (fun _ _ h => h) _ _ b3.2⟩
   obtain ⟨old, o1, o2, o3⟩ := adm (P := P) (sz := sz) (n := len) (len := len) (cap := cap) hin hlc (fun e => (b5 e).2.1)
   obtain ⟨c, hc1, hrun⟩ := apq (k := k) (ty := ty) hel h2 hsz hy hz hz0 c4 o2 c1 c2 hg
   have hA := afk (w := w) (w1 := w.drew) (arr := old.toArray ++ Builtin.zeroCells z.cells n ++ Builtin.zeroCells z.cells (c - (len + n))) (ty := el) ⟨rfl, rfl, rfl, rfl⟩
   have hlt : (cs.take (len * sz)).length = len * sz := by simp; omega
   have hzl' : (Builtin.zeroCells z.cells n).toList.toArray = Builtin.zeroCells z.cells n := by simp
   obtain ⟨a, b⟩ := yQ (k := ⟨cs.take (len * sz) ++ rM zl (n * sz), el, bW P el, true⟩) hA hS (hfree m.next (Nat.le_refl _) (by simp [aF.push])) rfl (abP (s6 b4 _) q3) (by
     simp only [if_true]
     have := aif (P := P) (w := w.drew) (I := I) (ρ := (kR (bW P el) ρ)) (arr := Builtin.zeroCells z.cells (c - (len + n))) (ys := (Builtin.zeroCells z.cells n).toList) (by rw [o1, hlt]) o3 (by simpa using q5 w.drew I (kR (bW P el) ρ)) (by rw [Array.length_toList, q2, q1])
     rw [hzl'] at this
     exact eL (⟨fun _ h => h, fun _ _ => rfl, fun _ _ h => h⟩ : gT w.drew w I I) (fun _ _ h => h) _ _ this) (fun x hx => by
     rw [Array.mem_toList_iff] at hx
     rcases Array.mem_append.1 hx with hx | hx
     · rcases Array.mem_append.1 hx with hx | hx
       · exact uC (P := P) (w := w.drew) (I := I) (ρ := kR (bW P el) ρ) (s6 b4 (len * sz)) (by rw [o1, hlt]) o3 x (by simpa using hx)
       · exact q4 x hx
     · refine afs (fun x hx => ?_) _ x hx
       obtain ⟨v', e1, e2⟩ := aib hzl
       have : v' = z := by have h1 := e2 w; have h2 := hz w; rw [h1] at h2; simp at h2; exact h2
       subst this
       exact e1.2 x hx) (fun _ => aaq (w1 := w.drew) _ _)
   refine ⟨_, _, _, _, hrun, ?_, a, b, fun d y h => by cases h⟩
   simp only [id, VR]
   obtain ⟨fr, hfr⟩ := hA.blk
   refine ⟨_, _, c, el, _, sz, wT _ _ _, rfl, ⟨Nat.le_refl _, hc1⟩, (fun h => by cases h), lO hfr, hsz, ?_⟩
   simp only [Array.size_append, List.size_toArray, afr, o1, hz0]
   rw [← Nat.add_mul, ← Nat.add_mul]
   have : len + n + (c - (len + n)) = c := by omega
   rw [this]
   omega
 · cases h
end
section
variable {P:Program} {w:World} {I:Nat→Prop} {ρ:cK} {m:aF}
theorem aih {t : TypeId} {ts : List TypeId} {ty el : TypeId} {sz n len cap : Nat} {base : Option Addr} {xv : Value} (hel : cD P t = some el) (hsz : cH P el = some sz) (hlen : (Builtin.lenOf xv).run P w = .ok n w) {news : List Value}
   (hnews : (Builtin.firstCells sz (min n len) xv).run P w = .ok news.toArray w) {w' : World} (hr : (match base with | some a => storeCells a news | none => pure () : Sem Unit).run P w = .ok () w') :
   (Builtin.copy_ (t :: ts).toArray ty #[.slice base len cap, xv]).run P w = .ok (.int .i64 ((min n len : Nat) : Int)) w' := by
 have h0 : (t :: ts).toArray[0]? = some t := by simp
 unfold Builtin.copy_
 simp only [h0]
 cases base with
 | none =>
   simp only [Sem.run_pure, Result.ok.injEq, true_and] at hr
   subst hr
   simp [cX (iC hel), hlen, gX hsz, hnews, goInt]
 | some a =>
   simp only at hr
   simp [cX (iC hel), hlen, gX hsz, hnews, hr, goInt]
theorem aps (hS : SR P w I ρ m) {t ty el : TypeId} (hel : cD P t = some el) {x av : AV} (h : abO x = some av) {v : Value} (hv : VR P w I ρ x v) (addr : Value) :
   iD P w I ρ m ((Builtin.cap_ #[t] ty #[v]).run P w) id ⟨av, m, none⟩ addr := by
 have fin : ∀ {a : Option Addr} {n c : Nat}, v = .slice a n c → av = aD c → iD P w I ρ m ((Builtin.cap_ #[t] ty #[v]).run P w) id ⟨av, m, none⟩ addr := by
   rintro a n c rfl rfl
   exact ⟨.int .i64 c, w, I, ρ, by simp [Builtin.cap_, cX (iC hel), goInt], by simp only [id, aD, VR], hS, cP.refl _ _ _ _, fun d y h => by cases h⟩
 unfold abO at h
 split at h
 · simp only [Option.some.injEq] at h; subst h
   simp only [VR] at hv
   exact fin hv rfl
 · simp only [Option.some.injEq] at h; subst h
   simp only [VR] at hv
   obtain ⟨g, o, cap, rfl, _, _, hf, _⟩ := hv
   exact fin rfl (by rw [hf trivial])
 · simp only [Option.some.injEq] at h; subst h
   simp only [VR] at hv
   obtain ⟨ad, cap, rfl, _, hf⟩ := hv
   exact fin rfl (by rw [hf trivial])
 · simp only [Option.some.injEq] at h; subst h
   simp only [VR] at hv
   obtain ⟨g, o, cap, ty, n, s, _, rfl, _, hf, _⟩ := hv
   exact fin rfl (by rw [hf trivial])
 · cases h
theorem apt (hS : SR P w I ρ m) {t ty el : TypeId} (hel : cD P t = some el) {x : AV} {out : bY} (h : adb P el m x = some out) {v : Value} (hv : VR P w I ρ x v) (addr : Value) :
   iD P w I ρ m ((Builtin.clear_ #[t] ty #[v]).run P w) id out addr := by
 have none : ∀ {a : Option Addr} {c : Nat}, v = .slice a 0 c → bO eE m = some out → iD P w I ρ m ((Builtin.clear_ #[t] ty #[v]).run P w) id out addr := by
   rintro a c rfl h
   simp only [bO, Option.some.injEq] at h; subst h
   exact ⟨.tuple #[], w, I, ρ, by cases a <;> simp [Builtin.clear_, cX (iC hel)], by simp only [id, eE, VR], hS, cP.refl _ _ _ _, fun d y h => by cases h⟩
 unfold adb at h
 split at h
 · simp only [VR] at hv
   exact none hv h
 · simp only [VR] at hv
   obtain ⟨ad, cap, rfl, _⟩ := hv
   exact none rfl h
 · rename_i b off len c f
   split at h
   · rename_i h0
     subst h0
     simp only [VR] at hv
     obtain ⟨g, o, cap, ty, n, s, _, rfl, _⟩ := hv
     exact none rfl h
   · rename_i h0
     obtain ⟨sz, hsz, h⟩ := awC h
     obtain ⟨zl, hzl, h⟩ := awC h
     obtain ⟨k, hk, h⟩ := awC h
     split at h
     · rename_i hc
       obtain ⟨c1, c2, c3, c4⟩ := hc
       simp only [bO, Option.some.injEq] at h
       subst h
       simp only [VR] at hv
       obtain ⟨g, o, cap, ty', n', s', hb, rfl, hl, hf, hsh, hss, hroom⟩ := hv
       have hB := hS.blk b k g o hk hb
       obtain ⟨arr, fr, hh, hcells⟩ := hB.cells
       obtain ⟨z, hz0, hz, q1, q2, q3, q4, q5⟩ := aig hzl c3 len
       have hvl : (Builtin.zeroCells z.cells len).toList.length = (rM zl (len * sz)).length := by rw [Array.length_toList, q2, q1]
       have hone : ∀ x ∈ (Builtin.zeroCells z.cells len).toList, x.oneCell' = true := fun x hx => q4 x (by simpa using hx)
       have hsz' : o + off + (Builtin.zeroCells z.cells len).toList.length ≤ arr.size := by
         rw [hvl, q1]
         rcases Nat.eq_zero_or_pos (len * sz) with e | e
         · rw [e]
           have hty := lO hh
           rw [hsh] at hty
           simp only [Option.some.injEq, Prod.mk.injEq] at hty
           omega
         · obtain ⟨u, hu⟩ := aam hcells (j := off + len * sz - 1) (by omega)
           have := (Array.getElem?_eq_some_iff.1 hu).1
           omega
       have hw1 := abS (P := P) (w := w) (o := o + off) (vs := (Builtin.zeroCells z.cells len).toList) hh (abT hB c2 hh) hsz' hone
       obtain ⟨s1, s2⟩ := wV (k' := ⟨cN k.cells off (rM zl (len * sz)), k.el, k.kind, true⟩) hS hk c2 hb (vs := (Builtin.zeroCells z.cells len).toList) (p := o + off) ⟨rfl, rfl, aan hB.one q3 _⟩ hone (fun arr0 fr0 e0 hc0 arr' e1 e2 => by
         simp only at hc0 ⊢
         exact abU rfl (by rw [q1]; omega) hvl hc0 (by simpa using q5 w I _) e2)
       refine ⟨.tuple #[], _, _, _, ?_, by simp only [id, eE, VR], s1, s2, fun d y h => by cases h⟩
       match len, h0, hw1 with
       | len + 1, _, hw1 => simp [Builtin.clear_, cX (iC hel), hz, hw1]
     · cases h
 · cases h
theorem apu (hS : SR P w I ρ m) {t : TypeId} {ts : List TypeId} {ty el : TypeId} (hel : cD P t = some el) {d x : AV} {out : bY} (h : sZ P el m d x = some out) {dv xv : Value} (hd : VR P w I ρ d dv) (hx : VR P w I ρ x xv) (addr : Value) :
   iD P w I ρ m ((Builtin.copy_ (t :: ts).toArray ty #[dv, xv]).run P w) id out addr := by
 unfold sZ at h
 obtain ⟨sz, hsz, h⟩ := awC h
 obtain ⟨⟨new, n⟩, hnew, h⟩ := awC h
 obtain ⟨l1, l2, l3, l4⟩ := afp hS hnew hx
 have zero : ∀ {base : Option Addr} {len cap : Nat}, min n len = 0 → iD P w I ρ m ((Builtin.copy_ (t :: ts).toArray ty #[.slice base len cap, xv]).run P w) id ⟨aD 0, m, none⟩ addr := by
   intro base len cap h0
   obtain ⟨news, n1, n2, n3⟩ := l4 0 (Nat.zero_le _)
   have hnil : news = [] := List.eq_nil_of_length_eq_zero (by rw [n1, Nat.zero_mul])
   subst hnil
   have := aih (P := P) (w := w) (t := t) (ts := ts) (ty := ty) (base := base) (len := len) (cap := cap) hel hsz l1 (by rw [h0]; exact n2) (w' := w) (by cases base <;> rfl)
   rw [h0] at this
   exact ⟨_, w, I, ρ, this, by simp only [id, aD, VR]; rfl, hS, cP.refl _ _ _ _, fun d y h => by cases h⟩
 have other : ((dR (bW P el) m d).bind fun r => if min n r.2.1 = 0 then bO (aD 0) m else none) = some out → iD P w I ρ m ((Builtin.copy_ (t :: ts).toArray ty #[dv, xv]).run P w) id out addr := by
   intro h
   obtain ⟨⟨cs, len, f⟩, hr, h⟩ := awC h
   simp only at h
   split at h
   · rename_i h0
     simp only [bO, Option.some.injEq] at h
     subst h
     obtain ⟨a, cap, rfl, _⟩ := abW hS hr hd
     exact zero h0
   · cases h
 cases d with
 | sl b off len c f =>
   simp only at h
   obtain ⟨k, hk, h⟩ := awC h
   split at h
   · rename_i hc
     obtain ⟨c1, c2, c3⟩ := hc
     simp only [bO, Option.some.injEq] at h
     subst h
     simp only [VR] at hd
     obtain ⟨g, o, cap, ty', n', s', hb, rfl, hl, hf, hsh, hss, hroom⟩ := hd
     have hB := hS.blk b k g o hk hb
     obtain ⟨arr, fr, hh, hcells⟩ := hB.cells
     have hmn : min n len ≤ n := Nat.min_le_left _ _
     have hml : min n len * sz ≤ len * sz := Nat.mul_le_mul_right _ (Nat.min_le_right _ _)
     have hmn' : min n len * sz ≤ n * sz := Nat.mul_le_mul_right _ hmn
     obtain ⟨news, n1, n2, n3⟩ := l4 (min n len) hmn
     have hxl : (new.take (min n len * sz)).length = min n len * sz := by simp; omega
     have hone := uC (P := P) (w := w) (I := I) (ρ := kR (bW P el) ρ) (s6 l3 _) (by rw [n1, hxl]) n3
     have hsz' : o + off + news.length ≤ arr.size := by
       rw [n1]
       rcases Nat.eq_zero_or_pos (min n len * sz) with h0 | h0
       · rw [h0]
         have hty := lO hh
         rw [hsh] at hty
         simp only [Option.some.injEq, Prod.mk.injEq] at hty
         omega
       · obtain ⟨u, hu⟩ := aam hcells (j := off + min n len * sz - 1) (by omega)
         have := (Array.getElem?_eq_some_iff.1 hu).1
         omega
     have hw1 := abS (P := P) (w := w) (o := o + off) (vs := news) hh (abT hB c2 hh) hsz' hone
     have hrun := aih (P := P) (w := w) (t := t) (ts := ts) (ty := ty) (base := some ⟨g, o + off, none⟩) (len := len) (cap := cap) hel hsz l1 n2 hw1
     obtain ⟨s1, s2⟩ := wV (k' := ⟨cN k.cells off (new.take (min n len * sz)), k.el, k.kind, true⟩) hS hk c2 hb (vs := news) (p := o + off) ⟨rfl, rfl, aan hB.one (s6 l3 _) _⟩ hone (fun arr0 fr0 e0 hc0 arr' e1 e2 => by
       simp only [c1] at hc0 ⊢
       exact abU rfl (by omega) (by rw [n1, hxl]) hc0 n3 e2)
     exact ⟨_, _, _, _, hrun, by simp only [id, aD, VR], s1, s2, fun d y h => by cases h⟩
   · cases h
 | val _ => exact other h
 | emp _ _ => exact other h
 | tree _ _ _ _ => exact other h
 | agg _ => exact other h
 | tup _ => exact other h
 | tptr _ _ => exact other h
 | ptr _ _ => exact other h
 | clo _ _ => exact other h
theorem apv {x:AV} {n:Nat} (h:rH x=some n) {v:Value} (hv:VR P w I ρ x v):∃ a cap,v = .slice a n cap:=by
 unfold rH at h
 split at h
 ·simp only [Option.some.injEq] at h;subst h;simp only [VR] at hv;exact ⟨none,0,hv⟩
 ·simp only [Option.some.injEq] at h;subst h;simp only [VR] at hv;obtain ⟨g,o,cap,rfl,_⟩:=hv;exact ⟨_,_,rfl⟩
 ·simp only [Option.some.injEq] at h;subst h;simp only [VR] at hv;obtain ⟨ad,cap,rfl,_⟩:=hv;exact ⟨_,_,rfl⟩
 ·simp only [Option.some.injEq] at h;subst h;simp only [VR] at hv;obtain ⟨g,o,cap,ty,n',s,_,rfl,_⟩:=hv;exact ⟨_,_,rfl⟩
 ·cases h
theorem apw {t:TypeId} {a:Nat×TypeId} (h:ac9 P t=some a):∃ ar,P.underlying t=some (.pointer ar)∧oN P ar=some a:=by
 unfold ac9 at h;split at h
 ·exact ⟨_,by assumption,h⟩
 ·cases h
theorem apx {t ty:TypeId} {x av:AV} (h:lenE P t x=some av) {v:Value} (hv:VR P w I ρ x v):l5 P w I ρ (Builtin.len_ #[t] ty #[v]) av:=by
 unfold lenE at h
 split at h
 ·split at h
  ·rename_i s hs
   simp only [Option.some.injEq] at h
   subst h
   simp only [VR] at hv
   subst hv
   exact ⟨.int .i64 s.size,by simp [Builtin.len_,cX (aal hs),goInt],by simp only [aD,VR]⟩
  ·cases h
 ·split at h
  ·rename_i el hel
   obtain ⟨n,hn,rfl⟩:=awD h
   obtain ⟨a,cap,rfl⟩:=apv hn hv
   exact ⟨.int .i64 n,by simp [Builtin.len_,cX (iC hel),goInt],by simp only [aD,VR]⟩
  ·split at h
   ·rename_i a ha
    simp only [Option.some.injEq] at h
    subst h
    exact ⟨.int .i64 a.1,by simp [Builtin.len_,cX (yO ha),goInt],by simp only [aD,VR]⟩
   ·rename_i a _ ha
    simp only [Option.some.injEq] at h
    subst h
    obtain ⟨ar,h1,h2⟩:=apw ha
    exact ⟨.int .i64 a.1,by simp [Builtin.len_,cX h1,cX (yO h2),goInt],by simp only [aD,VR]⟩
   ·cases h
theorem apy {t:TypeId} (h:ada P t=true):∃ fs:Array Field,P.underlying t=some (.struct fs)∧∀ f∈fs.toList,∃ n,cH P f.type=some n:=by
 unfold ada at h;split at h
 ·rename_i fs hfs
  refine ⟨fs,hfs,fun f hf => ?_⟩
  exact Option.isSome_iff_exists.1 (List.all_eq_true.1 h f hf)
 ·cases h
theorem aii:∀ (l:List Field),(∀ f∈l,∃ n,cH P f.type=some n)→∃ pl:List (Nat×Nat),(l.mapM fun f=>(do pure (f.offset,←sizeOf f.type):Sem (Nat×Nat))).run P w = .ok pl w∧pl.length=l.length∧∀ (i:Nat) (f:Field),l[i]? = some f→∃ n,cH P f.type=some n∧pl[i]? = some (f.offset,n)
 | [],_=>⟨[],by simp,rfl,fun i f h=>by simp at h⟩
 | f::l,h=>by
  obtain ⟨n,hn⟩:=h f (by simp)
  obtain ⟨pl,h1,h2,h3⟩:=aii l (fun g hg=>h g (by simp [hg]))
  refine ⟨(f.offset,n)::pl,by simp [List.mapM_cons,gX hn] at h1 ⊢;simp [h1],by simp [h2],fun i g hi => ?_⟩
  cases i with
  | zero=>simp at hi;subst hi;exact ⟨n,hn,rfl⟩
  | succ i=>simpa using h3 i g (by simpa using hi)
theorem apz {t : TypeId} {parts : List (Nat × AV)} {av : AV} (h : rJ P t parts = some av) {vparts : List (Nat × Value)} (hl : vparts.length = parts.length)
   (hv : ∀ (j i : Nat) (av : AV) (i' : Nat) (v : Value), parts[j]? = some (i, av) → vparts[j]? = some (i', v) → i = i' ∧ VR P w I ρ av v) : l5 P w I ρ (Instr.build t vparts.toArray) av := by
 unfold rJ at h
 obtain ⟨z, hz, h⟩ := awC h
 obtain ⟨zv, h1, h2, h3, _⟩ := aas (w := w) hz
 have hcell : zv.cells.size = (z.map AV.val).length := by simp [← h2]
 have hone : eF (z.map AV.val) := fun c hc => by
   obtain ⟨x, hx, rfl⟩ := List.mem_map.1 hc
   exact adj (h3 x hx)
 have hvr : bK P w I ρ (z.map .val) (fun j => zv.cells[j]?) := by
   have := ah7 (P := P) (w := w) (I := I) (ρ := ρ) z
   rw [← h2] at this ⊢
   simpa using this
 split at h
 · rename_i hst
   obtain ⟨fs, hfs, hfz⟩ := apy hst
   obtain ⟨cs, hcs, rfl⟩ := awD h
   -- the places
   obtain ⟨pl, hp1, hp2, hp3⟩ := aii (P := P) (w := w) fs.toList hfz
   obtain ⟨places, hpp⟩ : ∃ places : Array (Nat × Nat), places = pl.toArray := ⟨_, rfl⟩
   have hp1' : (fs.mapM fun f => (do pure (f.offset, ← sizeOf f.type) : Sem (Nat × Nat))).run P w = .ok places w := by
     rw [Array.mapM_eq_mapM_toList, Sem.run_map, hp1, hpp]
     rfl
   obtain ⟨arr', f1, f2, f3, f4, f5⟩ := aap (P := P) (w := w) (I := I) (ρ := ρ) (place := fun i => places[i]?) (fun i p hp => by
     obtain ⟨fp, hfp, hp⟩ := awC hp
     obtain ⟨n, hn, rfl⟩ := awD hp
     obtain ⟨fs', f, e1, e2, e3, e4⟩ := afb hfp
     rw [hfs] at e1
     simp only [Option.some.injEq, TypeDesc.struct.injEq] at e1
     subst e1
     obtain ⟨n', q1, q2⟩ := hp3 i f (by simpa using e2)
     rw [e4, hn, Option.some.injEq] at q1
     subst q1
     rw [hpp, List.getElem?_toArray, q2, e3]) parts vparts (z.map .val) cs zv.cells hcs hl hv hcell hone hvr
   refine ⟨.agg arr', ?_, ?_⟩
   · simp only [Instr.build, Sem.run_bind, h1, Result.andThen_ok, cX hfs, hp1']
     simp [f1]
   · simp only [VR]
     exact ⟨arr', rfl, f2, f4, f5⟩
 · obtain ⟨a, ha, h⟩ := awC h
   obtain ⟨n, hn, h⟩ := awC h
   obtain ⟨cs, hcs, rfl⟩ := awD h
   obtain ⟨arr', f1, f2, f3, f4, f5⟩ := aap (P := P) (w := w) (I := I) (ρ := ρ) (place := fun i => some (i * n, n)) (placeE := fun i => some (i * n, n)) (fun _ _ h => h) parts vparts (z.map .val) cs zv.cells hcs hl hv hcell hone hvr
   refine ⟨.agg arr', ?_, ?_⟩
   · simp [Instr.build, h1, cX (yO ha), gX hn, f1]
   · simp only [VR]
     exact ⟨arr', rfl, f2, f4, f5⟩
end
section
variable {P:Program} {w:World} {I:Nat→Prop} {ρ:cK} {m:aF}
def fF (P:Program) (w:World) (I:Nat→Prop) (ρ:cK) (m:aF) (a:Act) (r:Result Next) (out:bY):Prop :=
 ∃ v w' I' ρ',(r = .ok (.value v) w'∨(r = .ok .skip w'∧v=undef))∧VR P w' I' ρ' out.v v∧SR P w' I' ρ' out.m∧cP w I ρ m w' I' ρ' out.m∧∀ d y,out.wb=some (d,y)→VR P w' I' ρ' y (a.tmps.getD d undef)
theorem fF.of_does {a:Act} {s:Sem Value} {out:bY} {addr:Value} (h:iD P w I ρ m (s.run P w) id out addr) (hw:∀ d y,out.wb=some (d,y)→addr=a.tmps.getD d undef):fF P w I ρ m a ((do pure (.value (←s)):Sem Next).run P w) out:=by
 obtain ⟨x,w',I',ρ',h1,h2,h3,h4,h5⟩:=h
 exact ⟨x,w',I',ρ',.inl (by simp [h1]),h2,h3,h4,fun d y h=>by rw [←hw d y h];exact h5 d y h⟩
theorem fF.of_pur {a:Act} {s:Sem Value} {v:Option AV} {out:bY} (hS:SR P w I ρ m) (h:eQ v m=some out) (hp:∀ av,v=some av→l5 P w I ρ s av):fF P w I ρ m a ((do pure (.value (←s)):Sem Next).run P w) out:=by
 unfold eQ at h
 obtain ⟨av,hav,rfl⟩:=awD h
 obtain ⟨x,h1,h2⟩:=hp av hav
 exact ⟨x,w,I,ρ,.inl (by simp [h1]),h2,hS,cP.refl _ _ _ _,fun d y h=>by cases h⟩
theorem adn {e:bN} {a:Act} (parts:Array (Nat×Operand)):(parts.map fun p=>(p.1,a.eval p.2)).toList.length=(parts.toList.map fun p=>(p.1,opd e p.2)).length:=by simp
theorem ado {e:bN} {a:Act} (he:ER P w I ρ e a) (parts:Array (Nat×Operand)):∀ (j i:Nat) (av:AV) (i':Nat) (v:Value),(parts.toList.map fun p=>(p.1,opd e p.2))[j]? = some (i,av)→(parts.map fun p=>(p.1,a.eval p.2)).toList[j]? = some (i',v)→i=i'∧VR P w I ρ av v:=by
 intro j i av i' v h1 h2
 rw [List.getElem?_map] at h1
 rw [Array.toList_map,List.getElem?_map] at h2
 obtain ⟨p,hp,h1⟩:=awD h1
 rw [hp] at h2
 simp only [Option.map_some,Option.some.injEq,Prod.mk.injEq] at h1 h2
 obtain ⟨rfl,rfl⟩:=h1
 obtain ⟨rfl,rfl⟩:=h2
 exact ⟨rfl,d9 he p.2⟩
theorem adp {a:Act} (parts:Array (Nat×Operand)):(parts.map fun (i,x)=>(i,a.eval x))=(parts.map fun p=>(p.1,a.eval p.2)).toList.toArray:=by
 rw [Array.toArray_toList]
theorem apA (hS : SR P w I ρ m) {once : Bool} {e : bN} {a : Act} (he : ER P w I ρ e a) {o : Oper} {out : bY} (h : c9 P once e m o.op = some out) (hfree : ∀ b, m.next ≤ b → b < out.m.next → ρ b = none) :
   fF P w I ρ m a ((execOp a.eval o).run P w) out := by
 obtain ⟨dst, op, type, pos, after, guard⟩ := o
 simp only at h
 cases op <;> simp only [c9] at h <;> try (cases h; done)
 case move x =>
   simp only [bO, Option.some.injEq] at h; subst h
   exact ⟨a.eval x, w, I, ρ, .inl (by simp [execOp]), d9 he x, hS, cP.refl _ _ _ _, fun d y h => by cases h⟩
 case assign x =>
   simp only [bO, Option.some.injEq] at h; subst h
   exact ⟨a.eval x, w, I, ρ, .inl (by simp [execOp]), d9 he x, hS, cP.refl _ _ _ _, fun d y h => by cases h⟩
 case pick c x y =>
   obtain ⟨av, hav, rfl⟩ := awD h
   obtain ⟨v, h1, h2⟩ := aoW hav (d9 he x) (d9 he y) (d9 he c)
   refine ⟨v, w, I, ρ, .inl ?_, h2, hS, cP.refl _ _ _ _, fun d y h => by cases h⟩
   simp only [Sem.run_bind] at h1
   cases hb : (asBool (a.eval c)).run P w with
   | halt x y => rw [hb] at h1; simp at h1
   | ok b w1 =>
     rw [hb] at h1
     simp only [Result.andThen_ok, Sem.run_pure, Result.ok.injEq] at h1
     obtain ⟨rfl, rfl⟩ := h1
     simp [execOp, hb]
 case alloc t =>
   have hf : ρ m.next = none := hfree m.next (Nat.le_refl _) (by
     unfold aK at h
     obtain ⟨z, hz, h⟩ := awC h
     simp only [bO, Option.some.injEq] at h
     subst h
     simp [aF.push])
   have := ao9 (addr := undef) hS hf h (.tuple #[])
   refine fF.of_does this (fun d y hw => ?_)
   unfold aK at h
   obtain ⟨z, hz, h⟩ := awC h
   simp only [bO, Option.some.injEq] at h
   subst h
   cases hw
 case box t x =>
   refine fF.of_does (apa hS h hfree (d9 he x) undef) (fun d y hw => ?_)
   unfold qO at h
   obtain ⟨n, hn, h⟩ := awC h
   split at h
   · split at h
     · obtain ⟨r, hr, h⟩ := awC h
       simp only [bO, Option.some.injEq] at h; subst h; cases hw
     · simp only [bO, Option.some.injEq] at h; subst h; cases hw
   · cases h
 case build t parts =>
   refine fF.of_pur hS h fun av hav => ?_
   ·
     have := apz (P := P) (w := w) (I := I) (ρ := ρ) hav (adn (e := e) (a := a) parts) (ado he parts)
     rw [← adp] at this
     exact this
 case buildSlice t len parts =>
   have := apb hS h hfree (adn (e := e) (a := a) parts) (ado he parts) undef
   rw [← adp] at this
   refine fF.of_does this (fun d y hw => ?_)
   unfold pH at h
   obtain ⟨_, _, h⟩ := awC h
   obtain ⟨_, _, h⟩ := awC h
   obtain ⟨_, _, h⟩ := awC h
   split at h
   · obtain ⟨_, _, h⟩ := awC h
     split at h
     · obtain ⟨_, _, h⟩ := awC h
       simp only [bO, Option.some.injEq] at h; subst h; cases hw
     · simp only [bO, Option.some.injEq] at h; subst h; cases hw
   · cases h
 case load t x => exact fF.of_pur hS h fun av hav => ahY hS hav (d9 he x)
 case store t x y =>
   obtain ⟨u, w', I', ρ', h1, h2, h3, h4, h5⟩ := apg hS h (d9 he y) (d9 he x)
   refine ⟨undef, w', I', ρ', .inr ⟨by simp [execOp, h1], rfl⟩, h2, h3, h4, fun d z hw => ?_⟩
   have hz := h5 d z hw
   have hd : pO x = some d := by
     unfold aJ at h
     split at h
     · obtain ⟨n, hn, h⟩ := awC h
       obtain ⟨k, hk, h⟩ := awC h
       split at h
       · split at h
         · obtain ⟨d', hd', h⟩ := awC h
           split at h
           · obtain ⟨r, hr, h⟩ := awC h
             simp only [Option.some.injEq] at h
             subst h
             simp only [Option.some.injEq, Prod.mk.injEq] at hw
             rw [hd', hw.1]
           · cases h
         · simp only [bO, Option.some.injEq] at h; subst h; cases hw
         · obtain ⟨r, hr, h⟩ := awC h
           obtain ⟨r2, hr2, h⟩ := awC h
           split at h
           · simp only [bO, Option.some.injEq] at h; subst h; cases hw
           · cases h
       · cases h
     · cases h
   cases x <;> simp only [pO] at hd
   · simp only [Option.some.injEq] at hd
     subst hd
     exact hz
   all_goals cases hd
 case nilCheck x =>
   obtain ⟨av, hav, rfl⟩ := awD h
   have hx := d9 he x
   refine ⟨a.eval x, w, I, ρ, .inl ?_, ?_, hS, cP.refl _ _ _ _, fun d y h => by cases h⟩
   · unfold mL at hav
     split at hav
     · rename_i heq; rw [heq] at hx; simp only [VR] at hx; obtain ⟨g, o, _, hx⟩ := hx; simp [execOp, hx]
     · rename_i heq; rw [heq] at hx; simp only [VR] at hx; obtain ⟨g, o, hx, _⟩ := hx; simp [execOp, hx]
     · rename_i heq; rw [heq] at hx; simp only [VR] at hx; obtain ⟨vs, hx, _⟩ := hx; simp [execOp, hx]
     · cases hav
   · unfold mL at hav
     split at hav
     · rename_i heq; simp only [Option.some.injEq] at hav; subst hav; rw [← heq]; exact hx
     · rename_i heq; simp only [Option.some.injEq] at hav; subst hav; rw [← heq]; exact hx
     · rename_i heq; simp only [Option.some.injEq] at hav; subst hav; rw [← heq]; exact hx
     · cases hav
 case binOp op t x y ty => exact fF.of_pur hS h fun av hav => aoY hav (d9 he x) (d9 he y)
 case unOp op t x => exact fF.of_pur hS h fun av hav => aoZ hav (d9 he x)
 case convert s d x =>
   refine fF.of_does (aia hS h hfree (d9 he x) undef) (fun d' y hw => ?_)
   unfold mK at h
   split at h
   · split at h
     · split at h
       · simp only [bO, Option.some.injEq] at h; subst h; cases hw
       · cases h
     · cases h
   · split at h
     · split at h
       · obtain ⟨_, _, h⟩ := awC h
         split at h
         · obtain ⟨_, _, h⟩ := awC h
           simp only [bO, Option.some.injEq] at h; subst h; cases hw
         · cases h
       · cases h
     · split at h
       · simp only [eQ] at h
         obtain ⟨_, _, rfl⟩ := awD h
         cases hw
       · cases h
 case slice t x lo hi mx =>
   split at h
   case isFalse => cases h
   rename_i hok
   have hsl : ∀ b off n c f el sz, opd e x = .sl b off n c f → cD P t = some el → cH P el = some sz → ∀ g o', ρ b = some (g, o') → ∀ ty n', w.shape? g = some (ty, n') → cH P ty = some sz := by
     intro b off n c f el sz e1 e2 e3 g o' e4 ty n' e5
     rw [e1] at hok
     simp only [slOk, e2] at hok
     cases hb : m.at_ b with
     | none => rw [hb] at hok; simp at hok
     | some k =>
       rw [hb] at hok
       simp only [beq_iff_eq] at hok
       obtain ⟨arr, fr, q1, _⟩ := (hS.blk b k g o' hb e4).cells
       rw [lO q1] at e5
       simp only [Option.some.injEq, Prod.mk.injEq] at e5
       rw [← e5.1, hok, e3]
   obtain ⟨l, hl, h⟩ := awC h
   obtain ⟨hh, hhh, h⟩ := awC h
   obtain ⟨mm, hmm, h⟩ := awC h
   exact fF.of_pur hS h fun av hav => ao6 hav (d9 he x) (fun b off n c f el sz e1 e2 e3 => hsl b off n c f el sz e1 e2 e3) (afe he hl) (afe he hhh) (afe he hmm)
 case fieldAddr s x f => exact fF.of_pur hS h fun av hav => ao1 hav (d9 he x)
 case field t x f => exact fF.of_pur hS h fun av hav => ao2 hav (d9 he x)
 case indexAddr t x i =>
   obtain ⟨k, hk, h⟩ := awC h
   obtain ⟨kd, hkd⟩ := abQ hk (d9 he i)
   exact fF.of_pur hS h fun av hav => by rw [hkd]; exact ao3 hav (d9 he x) kd
 case index t x i =>
   obtain ⟨k, hk, h⟩ := awC h
   obtain ⟨kd, hkd⟩ := abQ hk (d9 he i)
   exact fF.of_pur hS h fun av hav => by rw [hkd]; exact ao4 hav (d9 he x) kd
 case extract x i => exact fF.of_pur hS h fun av hav => ao0 hav (d9 he x)
 case makeSlice t l c =>
   obtain ⟨n, hn, h⟩ := awC h
   obtain ⟨k, hk, h⟩ := awC h
   obtain ⟨kn, hkn⟩ := abQ hn (d9 he l)
   obtain ⟨kk, hkk⟩ := abQ hk (d9 he c)
   have hform := h
   unfold pJ at hform
   obtain ⟨_, _, hform⟩ := awC hform
   obtain ⟨_, _, hform⟩ := awC hform
   obtain ⟨_, _, hform⟩ := awC hform
   obtain ⟨_, _, hform⟩ := awC hform
   split at hform
   · simp only [bO, Option.some.injEq] at hform
     have hf : ρ m.next = none := hfree m.next (Nat.le_refl _) (by rw [← hform]; simp [aF.push])
     have hd := apc (addr := undef) hS h hf kn kk
     rw [← hkn, ← hkk] at hd
     exact fF.of_does hd (fun d y hw => by rw [← hform] at hw; cases hw)
   · cases hform
 case makeFunc fn first caps =>
   cases fn <;> simp only at h <;> try (cases h; done)
   rename_i f
   split at h
   · rename_i hf0
     simp only [bO, Option.some.injEq] at h; subst h
     have hfe : first = #[] := Array.eq_empty_of_size_eq_zero hf0
     subst hfe
     refine ⟨.func (.func f) #[] (caps.map a.eval), w, I, ρ, .inl (by simp [execOp, Instr.makeFunc]), ?_, hS, cP.refl _ _ _ _, fun d y h => by cases h⟩
     simp only [VR]
     refine ⟨_, rfl, by simp, j2.2 fun j c hj => ?_⟩
     rw [List.getElem?_map] at hj
     obtain ⟨x, hx, rfl⟩ := awD hj
     exact ⟨a.eval x, by simp at hx ⊢; exact ⟨x, hx, rfl⟩, d9 he x⟩
   · cases h
end
def s8 (P:Program) (f:FuncId):Bool:=match P.funcs[f]? with
 | some fn => fn.name != "runtime.NumGoroutine" && fn.body.isSome
 | none=>false
def aX (P:Program) (f:FuncId) (args:List AV) (r:gJ):Prop:=s8 P f=true ∧
 ∀ (w:World) (I:Nat→Prop) (vs:Array Value),(∀ g,I g→g < w.heap.size)→vs.size=args.length→bK P w I dL args (fun j=>vs[j]?) →
  Calls P f vs w fun en w'=>∃ v I' ρ',en = .returned v∧VR P w' I' ρ' r.v v∧SR P w' I' ρ' (d8 P aF.empty r.rows)∧cP w I dL aF.empty w' I' ρ' (d8 P aF.empty r.rows)
def fA (P:Program) (f:FuncId) (args:List AV) (m:aF) (Q:AV→aF→Prop):Prop:=s8 P f=true ∧
 ∀ (w:World) (I:Nat→Prop) (ρ:cK) (vs:Array Value),SR P w I ρ m→vs.size=args.length→bK P w I ρ args (fun j=>vs[j]?)→(∀ b,m.next≤b→ρ b=none) →
  Calls P f vs w fun en w'=>∃ v r m' I' ρ',en = .returned v∧Q r m'∧VR P w' I' ρ' r v∧SR P w' I' ρ' m'∧cP w I ρ m w' I' ρ' m'∧∀ b,m'.next≤b→ρ' b=none
def apB (P:Program) (f:FuncId) (args:List AV) (m:aF) (r:AV):Prop :=
 ∀ (w:World) (I:Nat→Prop) (ρ:cK) (vs:Array Value),SR P w I ρ m→vs.size=args.length→bK P w I ρ args (fun j=>vs[j]?)→∃ v,(callFunc f vs).run P w = .ok (.value v) w∧VR P w I ρ r v
section
variable {P:Program} {w w':World} {I I':Nat→Prop} {ρ ρ':cK} {m:aF}
def dS (P:Program) (base:Nat) (r:TypeId×List AV):eP:=⟨if bW P r.1 = .flat then r.2 else gS base r.2,r.1,bW P r.1,true⟩
theorem aij (base:Nat):∀ (rows:List (TypeId×List AV)) (m:aF),(gG P base m rows).next=m.next+rows.length
 | [],m=>rfl
 | r::rows,m=>by rw [gG,aij base rows];simp [aF.push];omega
theorem aik (base:Nat):∀ (rows:List (TypeId×List AV)) (m:aF) (b:Nat),(gG P base m rows).at_ b=if m.next≤b∧b < m.next+rows.length then (rows[b - m.next]?).map (dS P base) else m.at_ b
 | [],m,b=>by rw [gG,if_neg (by simp)]
 | r::rows,m,b=>by
  have hn:(m.push (dS P base r)).next=m.next+1:=rfl
  have ha:(m.push (dS P base r)).at_ b=if b=m.next then some (dS P base r) else m.at_ b:=rfl
  have he:gG P base m (r::rows)=gG P base (m.push (dS P base r)) rows:=rfl
  rw [he,aik base rows,hn,ha,List.length_cons]
  by_cases h:b=m.next
  ·subst h
   rw [if_neg (by omega),if_pos (by omega)]
   simp
  ·by_cases h2:m.next+1≤b∧b < m.next+1+rows.length
   ·rw [if_pos h2,if_pos (by omega)]
    obtain ⟨d,hd⟩:∃ d,b - m.next=d+1:=⟨b - m.next - 1,by omega⟩
    rw [hd,List.getElem?_cons_succ]
    congr 2;omega
   ·rw [if_neg h2,if_neg h,if_neg (by omega)]
theorem ail (base:Nat):∀ (rows:List (TypeId×List AV)) (m:aF),(gG P base m rows).mm=m.mm
 | [],m=>rfl
 | c::cs,m=>by unfold gG;rw [ail base cs];rfl
theorem adq (rows:List (TypeId×List AV)) (m:aF):(d8 P m rows).mm=m.mm:=ail _ _ _
theorem yT (rows:List (TypeId×List AV)) (m:aF):(d8 P m rows).next=m.next+rows.length:=aij _ _ _
theorem aat (rows:List (TypeId×List AV)) (m:aF) (b:Nat):(d8 P m rows).at_ b=if m.next≤b∧b < m.next+rows.length then (rows[b - m.next]?).map (dS P m.next) else m.at_ b:=aik _ _ _ _
mutual
theorem apC:∀ (k:Nat) (av av':AV),iS av=false→lend k m av=some av'→av'=av
 | k,.val v,av',h,hl=>by unfold lend at hl;simp at hl;exact hl.symm
 | k,.tree _ _ _ _,av',h,hl=>by unfold lend at hl;simp at hl;exact hl.symm
 | k,.tptr _ _,av',h,hl=>by unfold lend at hl;simp at hl;exact hl.symm
 | k,.emp _ _,av',h,hl=>by unfold lend at hl;simp at hl;exact hl.symm
 | k,.agg cs,av',h,hl=>by
  simp only [iS] at h
  unfold lend at hl
  obtain ⟨cs',hc,rfl⟩:=awD hl
  rw [adr k cs cs' h hc]
 | k,.clo f cs,av',h,hl=>by
  simp only [iS] at h
  unfold lend at hl
  obtain ⟨cs',hc,rfl⟩:=awD hl
  rw [adr k cs cs' h hc]
 | k,.sl _ _ _ _ _,av',h,hl=>by simp [iS] at h
 | k,.ptr _ _,av',h,hl=>by simp [iS] at h
 | k,.tup cs,av',h,hl=>by unfold lend at hl;cases hl
theorem adr:∀ (k:Nat) (cs cs':List AV),jG cs=false→eM k m cs=some cs'→cs'=cs
 | k,[],cs',h,hl=>by unfold eM at hl;simp at hl;exact hl
 | k,c::cs,cs',h,hl=>by
  simp only [jG,Bool.or_eq_false_iff] at h
  unfold eM at hl
  obtain ⟨c',hc,hl⟩:=awC hl
  obtain ⟨cs'',hcs,rfl⟩:=awD hl
  rw [apC k c c' h.1 hc,adr k cs cs'' h.2 hcs]
end
def rP (w:World):Nat→Prop:=fun g=>g < w.heap.size
theorem abY (hS:SR P w I ρ m):gT w w I (rP w):=⟨fun g hg=>hS.lt g hg,fun _ _=>rfl,fun _ _ h=>h⟩
theorem SR.ltb (hS:SR P w I ρ m) {b:Nat} {k:eP} {g o:Nat} (h1:m.at_ b=some k) (h2:ρ b=some (g,o)):g < w.heap.size:=by
 obtain ⟨arr,fr,h3,_⟩:=(hS.blk b k g o h1 h2).cells
 exact vC h3
mutual
theorem apD:∀ (k:Nat) (av av':AV),lend k m av=some av'→dF av'=dF av
 | k,.val v,av',hl=>by unfold lend at hl;simp at hl;rw [←hl]
 | k,.tree _ _ _ _,av',hl=>by unfold lend at hl;simp at hl;rw [←hl]
 | k,.tptr _ _,av',hl=>by unfold lend at hl;simp at hl;rw [←hl]
 | k,.emp _ _,av',hl=>by unfold lend at hl;simp at hl;rw [←hl]
 | k,.agg cs,av',hl=>by unfold lend at hl;obtain ⟨cs',hc,rfl⟩:=awD hl;rfl
 | k,.clo f cs,av',hl=>by unfold lend at hl;obtain ⟨cs',hc,rfl⟩:=awD hl;rfl
 | 0,.sl _ _ _ _ _,av',hl=>by
  unfold lend at hl
  obtain ⟨x,hx,hl⟩:=awC hl
  split at hl
  ·simp at hl;rw [←hl];rfl
  ·cases hl
 | k+1,.sl _ _ _ _ _,av',hl=>by
  unfold lend at hl
  obtain ⟨x,hx,hl⟩:=awC hl
  split at hl
  ·simp at hl;rw [←hl];rfl
  ·obtain ⟨cs',hc,rfl⟩:=awD hl;rfl
  ·cases hl
 | 0,.ptr _ _,av',hl=>by unfold lend at hl;cases hl
 | k+1,.ptr _ _,av',hl=>by
  unfold lend at hl
  obtain ⟨x,hx,hl⟩:=awC hl
  split at hl
  ·simp at hl;rw [←hl];rfl
  ·obtain ⟨cs',hc,rfl⟩:=awD hl;rfl
  ·cases hl
 | k,.tup cs,av',hl=>by unfold lend at hl;cases hl
end
theorem aau:∀ (k:Nat) (cs cs':List AV),eM k m cs=some cs'→cs'.length=cs.length∧(eF cs→eF cs')
 | k,[],cs',hl=>by unfold eM at hl;simp at hl;subst hl;exact ⟨rfl,fun h=>h⟩
 | k,c::cs,cs',hl=>by
  unfold eM at hl
  obtain ⟨c',hc,hl⟩:=awC hl
  obtain ⟨cs'',hcs,rfl⟩:=awD hl
  obtain ⟨h1,h2⟩:=aau k cs cs'' hcs
  refine ⟨by simp [h1],fun h x hx => ?_⟩
  rcases List.mem_cons.1 hx with rfl | hx
  ·rw [apD k c _ hc];exact h c (by simp)
  ·exact h2 (fun y hy=>h y (by simp [hy])) x hx
mutual
theorem apE (hS:SR P w I ρ m):∀ (k:Nat) (av av':AV) (v:Value),lend k m av=some av'→VR P w I ρ av v→VR P w (rP w) dL av' v
 | k,.val x,av',v,hl,hv=>by unfold lend at hl;simp at hl;subst hl;simpa only [VR] using hv
 | k,.tree a b c d,av',v,hl,hv=>by
  unfold lend at hl;simp at hl;subst hl
  exact pP (abY hS) (fun _ _ h=>h) _ _ (yR _ _ rfl hv)
 | k,.tptr a b,av',v,hl,hv=>by
  unfold lend at hl;simp at hl;subst hl
  exact pP (abY hS) (fun _ _ h=>h) _ _ (yR _ _ rfl hv)
 | k,.emp _ _,av',v,hl,hv=>by unfold lend at hl;simp at hl;subst hl;simpa only [VR] using hv
 | k,.agg cs,av',v,hl,hv=>by
  unfold lend at hl
  obtain ⟨cs',hc,rfl⟩:=awD hl
  simp only [VR] at hv ⊢
  obtain ⟨vs,h1,h2,h3,h4⟩:=hv
  obtain ⟨l1,l2⟩:=aau k cs cs' hc
  exact ⟨vs,h1,by rw [h2,l1],l2 h3,aav hS k cs cs' _ hc h4⟩
 | k,.clo f cs,av',v,hl,hv=>by
  unfold lend at hl
  obtain ⟨cs',hc,rfl⟩:=awD hl
  simp only [VR] at hv ⊢
  obtain ⟨vs,h1,h2,h4⟩:=hv
  obtain ⟨l1,l2⟩:=aau k cs cs' hc
  exact ⟨vs,h1,by rw [h2,l1],aav hS k cs cs' _ hc h4⟩
 | 0,.sl b off len c full,av',v,hl,hv=>by
  unfold lend at hl
  obtain ⟨x,hx,hl⟩:=awC hl
  split at hl
  ·rename_i hk
   simp at hl;subst hl
   simp only [VR] at hv ⊢
   obtain ⟨g,o,cap,ty,n,s,hg,rfl,hlc,hf,_⟩:=hv
   have hB:=hS.blk b x g o hx hg
   refine ⟨g,o+off,cap,rfl,hS.ltb hx hg,hlc,hf,kJ hB.one _, ?_⟩
   exact iB (kX (eL (abY hS) (fun _ _ h=>h) _ _ (hB.flatAt hk)) off) fun j _=>by rw [Nat.add_assoc]
  ·cases hl
 | k+1,.sl b off len c full,av',v,hl,hv=>by
  unfold lend at hl
  obtain ⟨x,hx,hl⟩:=awC hl
  simp only [VR] at hv
  obtain ⟨g,o,cap,ty,n,s,hg,rfl,hlc,hf,_⟩:=hv
  have hB:=hS.blk b x g o hx hg
  split at hl
  ·rename_i hk
   simp at hl;subst hl
   simp only [VR]
   refine ⟨g,o+off,cap,rfl,hS.ltb hx hg,hlc,hf,kJ hB.one _, ?_⟩
   exact iB (kX (eL (abY hS) (fun _ _ h=>h) _ _ (hB.flatAt hk)) off) fun j _=>by rw [Nat.add_assoc]
  ·obtain ⟨cs',hc,rfl⟩:=awD hl
   simp only [VR]
   obtain ⟨l1,l2⟩:=aau k _ cs' hc
   refine ⟨g,o+off,cap,rfl,hS.ltb hx hg,hlc,hf,l2 (kJ hB.one _), ?_⟩
   exact iB (aav hS k _ cs' _ hc (kX hB.cellsAt off)) fun j _=>by rw [Nat.add_assoc]
  ·cases hl
 | 0,.ptr b off,av',v,hl,hv=>by unfold lend at hl;cases hl
 | k+1,.ptr b off,av',v,hl,hv=>by
  unfold lend at hl
  obtain ⟨x,hx,hl⟩:=awC hl
  simp only [VR] at hv
  obtain ⟨g,o,hg,rfl⟩:=hv
  have hB:=hS.blk b x g o hx hg
  split at hl
  ·rename_i hk
   simp at hl;subst hl
   simp only [VR]
   exact ⟨g,o,rfl,hS.ltb hx hg,hB.one,eL (abY hS) (fun _ _ h=>h) _ _ (hB.flatAt hk)⟩
  ·obtain ⟨cs',hc,rfl⟩:=awD hl
   simp only [VR]
   obtain ⟨l1,l2⟩:=aau k _ cs' hc
   exact ⟨g,o,rfl,hS.ltb hx hg,l2 hB.one,aav hS k _ cs' _ hc hB.cellsAt⟩
  ·cases hl
 | k,.tup cs,av',v,hl,hv=>by unfold lend at hl;cases hl
 termination_by k av=>(k,SizeOf.sizeOf av)
theorem aav (hS:SR P w I ρ m):∀ (k:Nat) (cs cs':List AV) (get:Nat→Option Value),eM k m cs=some cs'→bK P w I ρ cs get→bK P w (rP w) dL cs' get
 | k,[],cs',get,hl,hv=>by unfold eM at hl;simp at hl;subst hl;simp only [bK]
 | k,c::cs,cs',get,hl,hv=>by
  unfold eM at hl
  obtain ⟨c',hc,hl⟩:=awC hl
  obtain ⟨cs'',hcs,rfl⟩:=awD hl
  simp only [bK] at hv ⊢
  obtain ⟨⟨v,h1,h2⟩,h3⟩:=hv
  exact ⟨⟨v,h1,apE hS k c c' v hc h2⟩,aav hS k cs cs'' _ hcs h3⟩
 termination_by k cs=>(k,SizeOf.sizeOf cs)
end
end
section
variable {P:Program} {w w':World} {I I':Nat→Prop} {ρ ρ':cK} {m:aF}
def both (ρ ρ':cK) (n k:Nat):cK:=fun b=>if n≤b∧b < n+k then ρ' (b - n) else ρ b
theorem apF {n k:Nat} (hfree:∀ b,n≤b→b < n+k→ρ b=none):∀ b x,ρ b=some x→both ρ ρ' n k b=some x:=by
 intro b x h
 unfold both
 split
 ·rename_i hc;rw [hfree b hc.1 hc.2] at h;cases h
 ·exact h
theorem ads (n:Nat):∀ cs:List AV,(gS n cs).length=cs.length
 | []=>rfl
 | c::cs=>by simp [gS,ads n cs]
theorem apG (n:Nat) (av:AV):dF (shift n av)=dF av:=by cases av <;> simp [shift,dF]
theorem aft (n:Nat):∀ cs:List AV,eF cs→eF (gS n cs)
 | [],h=>h
 | c::cs,h=>fun x hx=>by
  simp only [gS] at hx
  rcases List.mem_cons.1 hx with rfl | hx
  ·rw [apG];exact h c (by simp)
  ·exact aft n cs (fun y hy=>h y (by simp [hy])) x hx
mutual
theorem afu {n k:Nat} (hk:∀ b x,ρ' b=some x→b < k):∀ (av:AV) (v:Value),VR P w I ρ' av v→VR P w I (both ρ ρ' n k) (shift n av) v
 | .val x,v,hv=>by simpa only [shift,VR] using hv
 | .tree _ _ _ _,v,hv=>by simpa only [shift,VR] using hv
 | .tptr _ _,v,hv=>by simpa only [shift,VR] using hv
 | .emp _ _,v,hv=>by simpa only [shift,VR] using hv
 | .agg cs,v,hv=>by
  simp only [shift,VR] at hv ⊢
  obtain ⟨vs,h1,h2,h3,h4⟩:=hv
  exact ⟨vs,h1,by rw [h2,ads],aft n cs h3,abZ hk cs _ h4⟩
 | .tup cs,v,hv=>by
  simp only [shift,VR] at hv ⊢
  obtain ⟨vs,h1,h2,h4⟩:=hv
  exact ⟨vs,h1,by rw [h2,ads],abZ hk cs _ h4⟩
 | .sl b off len c f,v,hv=>by
  simp only [shift,VR] at hv ⊢
  obtain ⟨g,o,cap,ty,n',s,hg,h⟩:=hv
  exact ⟨g,o,cap,ty,n',s,by unfold both;rw [if_pos ⟨by omega,by have:=hk b _ hg;omega⟩,Nat.add_sub_cancel_left];exact hg,h⟩
 | .ptr b off,v,hv=>by
  simp only [shift,VR] at hv ⊢
  obtain ⟨g,o,hg,h⟩:=hv
  exact ⟨g,o,by unfold both;rw [if_pos ⟨by omega,by have:=hk b _ hg;omega⟩,Nat.add_sub_cancel_left];exact hg,h⟩
 | .clo f cs,v,hv=>by
  simp only [shift,VR] at hv ⊢
  obtain ⟨vs,h1,h2,h4⟩:=hv
  exact ⟨vs,h1,by rw [h2,ads],abZ hk cs _ h4⟩
theorem abZ {n k:Nat} (hk:∀ b x,ρ' b=some x→b < k):∀ (cs:List AV) (get:Nat→Option Value),bK P w I ρ' cs get→bK P w I (both ρ ρ' n k) (gS n cs) get
 | [],get,hv=>by simp only [gS,bK]
 | c::cs,get,hv=>by
  simp only [gS,bK] at hv ⊢
  obtain ⟨⟨v,h1,h2⟩,h3⟩:=hv
  exact ⟨⟨v,h1,afu hk c v h2⟩,abZ hk cs _ h3⟩
end
mutual
theorem aim {I1 I2:Nat→Prop}:∀ (av:AV) (v:Value),jH av=true→VR P w I1 ρ av v→VR P w I2 ρ av v
 | .val x,v,h,hv=>by simpa only [VR] using hv
 | .agg cs,v,h,hv=>by
  simp only [jH] at h
  simp only [VR] at hv ⊢
  obtain ⟨vs,h1,h2,h3,h4⟩:=hv
  exact ⟨vs,h1,h2,h3,adt cs _ h h4⟩
 | .tup cs,v,h,hv=>by
  simp only [jH] at h
  simp only [VR] at hv ⊢
  obtain ⟨vs,h1,h2,h4⟩:=hv
  exact ⟨vs,h1,h2,adt cs _ h h4⟩
 | .tree _ _ _ _,v,h,hv=>by simp [jH] at h
 | .tptr _ _,v,h,hv=>by simp [jH] at h
 | .emp _ _,v,h,hv=>by simpa only [VR] using hv
 | .sl _ _ _ _ _,v,h,hv=>by simpa only [VR] using hv
 | .ptr _ _,v,h,hv=>by simp [jH] at h
 | .clo _ _,v,h,hv=>by simp [jH] at h
theorem adt {I1 I2:Nat→Prop}:∀ (cs:List AV) (get:Nat→Option Value),kW cs=true→bK P w I1 ρ cs get→bK P w I2 ρ cs get
 | [],get,h,hv=>by simp only [bK]
 | c::cs,get,h,hv=>by
  simp only [kW,Bool.and_eq_true] at h
  simp only [bK] at hv ⊢
  obtain ⟨⟨v,h1,h2⟩,h3⟩:=hv
  exact ⟨⟨v,h1,aim c v h.1 h2⟩,adt cs _ h.2 h3⟩
end
mutual
theorem apH:∀ av:AV,shift 0 av=av
 | .val _=>rfl
 | .tree _ _ _ _=>rfl
 | .tptr _ _=>rfl
 | .emp _ _=>rfl
 | .agg cs=>by simp only [shift,ab0 cs]
 | .tup cs=>by simp only [shift,ab0 cs]
 | .sl b _ _ _ _=>by simp only [shift,Nat.zero_add]
 | .ptr b _=>by simp only [shift,Nat.zero_add]
 | .clo _ cs=>by simp only [shift,ab0 cs]
theorem ab0:∀ cs:List AV,gS 0 cs=cs
 | []=>rfl
 | c::cs=>by simp only [gS,apH c,ab0 cs]
end
theorem afv (r:TypeId×List AV):dS P 0 r=⟨r.2,r.1,bW P r.1,true⟩:=by
 unfold dS
 rw [ab0]
 split <;> rfl
theorem ain (hS : SR P w I ρ m) {Ic : Nat → Prop} (hIc : ∀ g, I g → Ic g) {rows : List (TypeId × List AV)} (hfree : ∀ b, m.next ≤ b → b < m.next + rows.length → ρ b = none)
   (hR : SR P w' I' ρ' (d8 P aF.empty rows)) (hst : cP w Ic dL aF.empty w' I' ρ' (d8 P aF.empty rows)) (hII : (∀ g, I' g → I g ∨ w.heap.size ≤ g) ∨ ∀ r ∈ rows, kW r.2 = true) :
   ∃ I'', (∀ g, I'' g ↔ I g ∨ (I' g ∧ w.heap.size ≤ g)) ∧ SR P w' I'' (both ρ ρ' m.next rows.length) (d8 P m rows) ∧ cP w I ρ m w' I'' (both ρ ρ' m.next rows.length) (d8 P m rows) := by
 have hnoWr : ∀ g, ¬ Wr dL aF.empty g := by
   rintro g (⟨b, k, o, h1, _⟩ | h1)
   · simp [aF.empty] at h1
   · exact wS h1
 have hsame : ∀ g, g < w.heap.size → w'.heap[g]? = w.heap[g]? := fun g hg => hst.same g hg (hnoWr g)
 have hk : ∀ b x, ρ' b = some x → b < rows.length := fun b x h => by
   have := hst.lo b rfl (by rw [h]; simp)
   rw [yT] at this
   simp [aF.empty] at this
   exact this
 have hnew : ∀ b g o, ρ' b = some (g, o) → w.heap.size ≤ g := fun b g o h => by
   have hb := hk b _ h
   have hat : (d8 P aF.empty rows).at_ b = some (dS P 0 rows[b]) := by
     rw [aat, if_pos (by simp [aF.empty]; exact hb)]
     simp [aF.empty, List.getElem?_eq_getElem hb]
   rcases hst.own g (.inl ⟨b, _, o, hat, rfl, h⟩) with h | h
   · exact absurd h (hnoWr g)
   · exact h
 have hext := apF (ρ' := ρ') hfree
 refine ⟨fun g => I g ∨ (I' g ∧ w.heap.size ≤ g), fun g => Iff.rfl, ?_⟩
 have hkp : gT w w' I (fun g => I g ∨ (I' g ∧ w.heap.size ≤ g)) := ⟨fun _ h => .inl h, fun g hg => hsame g (hS.lt g hg), hst.shape⟩
 have hat : ∀ b x, (d8 P m rows).at_ b = some x → (m.next ≤ b ∧ b < m.next + rows.length ∧ ∃ r, rows[b - m.next]? = some r ∧ (d8 P aF.empty rows).at_ (b - m.next) = some (dS P 0 r) ∧ x = dS P m.next r) ∨ (¬ (m.next ≤ b ∧ b < m.next + rows.length) ∧ m.at_ b = some x) := by
   intro b x h
   rw [aat] at h
   split at h
   · rename_i hc
     obtain ⟨r, hr, hx⟩ := awD h
     refine .inl ⟨hc.1, hc.2, r, hr, ?_, hx.symm⟩
     rw [aat, if_pos (by simp [aF.empty]; omega)]
     simp [aF.empty, hr]
   · rename_i hc; exact .inr ⟨hc, h⟩
 have hρ1 : ∀ b, m.next ≤ b ∧ b < m.next + rows.length → both ρ ρ' m.next rows.length b = ρ' (b - m.next) := fun b h => by unfold both; rw [if_pos h]
 have hρ2 : ∀ b, ¬ (m.next ≤ b ∧ b < m.next + rows.length) → both ρ ρ' m.next rows.length b = ρ b := fun b h => by unfold both; rw [if_neg h]
 have hltb : ∀ b k g o, m.at_ b = some k → ρ b = some (g, o) → g < w.heap.size := fun b k g o h1 h2 => hS.ltb h1 h2
 refine ⟨⟨fun b x g o h1 h2 => ?_, fun b1 b2 k1 k2 g o1 o2 h1 h2 h3 h4 h5 => ?_, fun g hg => ?_, by rw [adq]; exact hS.mms.keep hkp hext (fun g hg => ⟨hsame g (hS.mms.lt hg), fun h => h.elim id fun h => absurd (hS.mms.lt hg) (by omega)⟩)⟩, ⟨hst.os, hst.tape, hst.output, hst.size, fun g hg _ => hsame g hg, hst.shape, fun _ h => .inl h, fun g hg => ?_, hext, fun b h1 h2 => ?_, fun g hg => ?_, ?_⟩⟩
 · rcases hat b x h1 with ⟨q1, q2, r, hr, q3, rfl⟩ | ⟨q1, q2⟩
   · rw [hρ1 b ⟨q1, q2⟩] at h2
     have hB := hR.blk _ _ g o q3 h2
     have hge := hnew _ _ _ h2
     have hIn : ∀ (κ : cK) (cs : List AV) (get : Nat → Option Value), kW cs = kW r.2 → bK P w' I' κ cs get → bK P w' (fun g => I g ∨ (I' g ∧ w.heap.size ≤ g)) κ cs get := fun κ cs get hn hv => by
       rcases hII with hII | hII
       · exact eL (⟨fun g hg => (hII g hg).imp id fun h => ⟨hg, h⟩, fun _ _ => rfl, fun _ _ h => h⟩ : gT w' w' I' _) (fun _ _ h => h) _ _ hv
       · exact adt cs _ (hn.trans (hII r (List.mem_of_getElem? hr))) hv
     rw [afv] at hB
     refine ⟨?_, ?_, fun _ => ⟨fun hI => ?_, (hB.wr rfl).2⟩, (fun h => by cases h), fun _ => hB.all1 rfl, fun _ => hB.nostr rfl⟩
     · unfold dS
       simp only
       split
       · exact hB.one
       · exact aft _ _ hB.one
     · obtain ⟨arr, fr, e1, e2⟩ := hB.cells
       refine ⟨arr, fr, e1, ?_⟩
       unfold dS
       simp only at e2 ⊢
       split
       · rename_i hk0
         rw [if_pos hk0] at e2
         exact hIn _ _ _ rfl e2
       · rename_i hk0
         rw [if_neg hk0] at e2
         exact abZ hk _ _ (hIn _ _ _ rfl e2)
     · rcases hI with hI | hI
       · have := hS.lt g hI; omega
       · exact (hB.wr rfl).1 hI.1
   · rw [hρ2 b q1] at h2
     have hB := hS.blk b x g o q2 h2
     refine pQ hkp hext hB (hsame g (hltb b x g o q2 h2)) (fun hwr hI => ?_)
     rcases hI with hI | hI
     · exact (hB.wr hwr).1 hI
     · have := hltb b x g o q2 h2; omega
 · rcases hat b1 k1 h1 with ⟨q1, q2, r1, _, q3, rfl⟩ | ⟨q1, q2⟩ <;> rcases hat b2 k2 h2 with ⟨p1, p2, r2, _, p3, rfl⟩ | ⟨p1, p2⟩
   · rw [hρ1 b1 ⟨q1, q2⟩] at h3
     rw [hρ1 b2 ⟨p1, p2⟩] at h4
     have := hR.inj _ _ _ _ _ _ _ q3 p3 h3 h4 rfl
     omega
   · rw [hρ1 b1 ⟨q1, q2⟩] at h3
     rw [hρ2 b2 p1] at h4
     have := hnew _ _ _ h3
     have := hltb _ _ _ _ p2 h4
     omega
   · rw [hρ2 b1 q1] at h3
     rw [hρ1 b2 ⟨p1, p2⟩] at h4
     have := hnew _ _ _ h4
     have := hltb _ _ _ _ q2 h3
     omega
   · rw [hρ2 b1 q1] at h3
     rw [hρ2 b2 p1] at h4
     exact hS.inj _ _ _ _ _ _ _ q2 p2 h3 h4 h5
 · rcases hg with hg | hg
   · exact Nat.lt_of_lt_of_le (hS.lt g hg) hst.size
   · exact hR.lt g hg.1
 · rcases hg with hg | hg
   · exact .inl hg
   · exact .inr (.inr hg.2)
 · unfold both at h2
   split at h2
   · rename_i hc; rw [yT]; exact hc
   · exact absurd h1 h2
 · rcases hg with ⟨b, x, o, h1, h2, h3⟩ | hg
   · rcases hat b x h1 with ⟨q1, q2, _⟩ | ⟨q1, q2⟩
     · rw [hρ1 b ⟨q1, q2⟩] at h3
       exact .inr (hnew _ _ _ h3)
     · rw [hρ2 b q1] at h3
       exact .inl (.inl ⟨b, x, o, q2, h2, h3⟩)
   · rw [adq] at hg
     exact .inl (.inr hg)
 · rw [yT]; omega
def mZ (ρ:cK) (ids:List (Nat×Nat)):cK:=fun j=>(ids[j]?).bind fun i=>(ρ i.1).map fun x=>(x.1,x.2+i.2)
theorem aio (ρ:cK) (ids:List (Nat×Nat)) (x:List (Nat×Nat)):∀ b y,mZ ρ ids b=some y→mZ ρ (ids++x) b=some y:=by
 intro b y h
 unfold mZ at h ⊢
 obtain ⟨i,hi,h⟩:=awC h
 rw [List.getElem?_append_left (List.getElem?_eq_some_iff.1 hi).1,hi]
 exact h
def vD (P:Program) (w:World) (I:Nat→Prop) (ρ:cK) (m:aF) (ids:List (Nat×Nat)) (rows:List (TypeId×List AV)):Prop :=
 rows.length=ids.length∧(∀ (j:Nat) (i:Nat×Nat),ids[j]? = some i→∃ k r,m.at_ i.1=some k∧k.wr=true∧rows[j]? = some r∧r.1=k.el∧bW P r.1=k.kind∧eF r.2 ∧
  ∀ g o,ρ i.1=some (g,o)→bK P w I (if k.kind = .flat then dL else mZ ρ ids) r.2 (fun j=>w.cell? ⟨g,o+i.2+j,none⟩))∧∀ (j j':Nat) (i i':Nat×Nat),ids[j]? = some i→ids[j']? = some i'→i.1=i'.1→j=j'
theorem aip {kd:fW} {ids x:List (Nat×Nat)} {cs:List AV} {get:Nat→Option Value} (h:bK P w I (if kd = .flat then dL else mZ ρ ids) cs get):bK P w I (if kd = .flat then dL else mZ ρ (ids++x)) cs get:=by
 split
 ·rename_i hk;rw [if_pos hk] at h;exact h
 ·rename_i hk;rw [if_neg hk] at h;exact eL (adg w I) (aio ρ _ _) _ _ h
theorem vD.snoc {ids : List (Nat × Nat)} {rows : List (TypeId × List AV)} (h : vD P w I ρ m ids rows) {b off : Nat} {k : eP} {cs : List AV} (hk : m.at_ b = some k) (hw : k.wr = true) (hd : bW P k.el = k.kind) (h1 : eF cs)
   (hc : ∀ g o, ρ b = some (g, o) → bK P w I (if k.kind = .flat then dL else mZ ρ ids) cs (fun j => w.cell? ⟨g, o + off + j, none⟩)) (hn : (ids.any fun i => i.1 == b) = false) : vD P w I ρ m (ids ++ [(b, off)]) (rows ++ [(k.el, cs)]) := by
 obtain ⟨e1, h2, h3⟩ := h
 have hnot : ∀ (j : Nat) (i : Nat × Nat), ids[j]? = some i → i.1 ≠ b := fun j i hj e => by
   have := List.any_eq_false.1 hn i (List.mem_of_getElem? hj)
   simp [e] at this
 have hlast : ∀ (j : Nat) (i : Nat × Nat), (ids ++ [(b, off)])[j]? = some i → (ids[j]? = some i ∧ j < ids.length) ∨ (j = ids.length ∧ i = (b, off)) := fun j i hj => by
   rcases Nat.lt_or_ge j ids.length with hl | hl
   · rw [List.getElem?_append_left hl] at hj; exact .inl ⟨hj, hl⟩
   · rw [List.getElem?_append_right hl] at hj
     have := (List.getElem?_eq_some_iff.1 hj).1
     simp at this
     have e : j = ids.length := by omega
     subst e
     simp at hj
     exact .inr ⟨rfl, hj.symm⟩
 refine ⟨by simp [e1], fun j i hj => ?_, fun j j' i i' hj hj' e => ?_⟩
 · rcases hlast j i hj with ⟨hj, hl⟩ | ⟨rfl, rfl⟩
   · obtain ⟨k', r, a1, a2, a3, a4, a5, a6, a7⟩ := h2 j i hj
     exact ⟨k', r, a1, a2, by rw [List.getElem?_append_left (by omega)]; exact a3, a4, a5, a6, fun g o hg => aip (a7 g o hg)⟩
   · exact ⟨k, (k.el, cs), hk, hw, by rw [← e1]; simp, rfl, hd, h1, fun g o hg => aip (hc g o hg)⟩
 · rcases hlast j i hj with ⟨hj, hl⟩ | ⟨rfl, rfl⟩ <;> rcases hlast j' i' hj' with ⟨hj', hl'⟩ | ⟨rfl, rfl⟩
   · exact h3 j j' i i' hj hj' e
   · exact absurd e (hnot j i hj)
   · exact absurd e.symm (hnot j' i' hj')
   · rfl
theorem aiq (hS : SR P w I ρ m) {b off len c : Nat} {f : Bool} {x : eP} {v : Value} {ids : List (Nat × Nat)} {rows : List (TypeId × List AV)} {r : AV × List (Nat × Nat) × List (TypeId × List AV)} (hx : m.at_ b = some x) (hkf : x.kind = .flat) (hv : VR P w I ρ (.sl b off len c f) v) (hE : vD P w I ρ m ids rows)
   (h : (if x.wr = true then (if ids.any (fun i => i.1 == b) = true ∨ bW P x.el ≠ .flat then none else some (.sl rows.length 0 len c f, ids ++ [(b, off)], rows ++ [(x.el, x.cells.drop off)])) else some (.tree len c (x.cells.drop off) f, ids, rows)) = some r) :
   vD P w I ρ m r.2.1 r.2.2 ∧ (∃ x, r.2.1 = ids ++ x) ∧ VR P w I (mZ ρ r.2.1) r.1 v ∧ (dF (.sl b off len c f) = dF r.1) := by
 simp only [VR] at hv
 obtain ⟨g, o, cap, ty, n, s, hg, rfl, hlc, hf, hsh, hss, hroom⟩ := hv
 have hB := hS.blk b x g o hx hg
 split at h
 · rename_i hw
   split at h
   · cases h
   · rename_i hn
     obtain ⟨hn1, hn2⟩ := not_or.1 hn
     have hn2' : bW P x.el = .flat := Decidable.not_not.1 hn2
     simp only [Option.some.injEq] at h; subst h
     refine ⟨hE.snoc hx hw (by rw [hn2', hkf]) (kJ hB.one _) (fun g' o' hg' => ?_) ((Bool.not_eq_true _).mp hn1), ⟨_, rfl⟩, ?_, rfl⟩
     · rw [hg, Option.some.injEq, Prod.mk.injEq] at hg'
       obtain ⟨rfl, rfl⟩ := hg'
       rw [if_pos hkf]
       exact iB (kX (hB.flatAt hkf) off) fun j _ => by rw [Nat.add_assoc]
     · simp only [VR]
       refine ⟨g, o + off, cap, ty, n, s, ?_, rfl, hlc, hf, hsh, hss, by omega⟩
       unfold mZ
       rw [hE.1, List.getElem?_append_right (Nat.le_refl _)]
       simp [hg]
 · rename_i hw
   simp only [Option.some.injEq] at h; subst h
   refine ⟨hE, ⟨[], by simp⟩, ?_, rfl⟩
   simp only [VR]
   refine ⟨g, o + off, cap, rfl, hB.im (by simpa using hw), hlc, hf, kJ hB.one _, ?_⟩
   exact iB (kX (hB.flatAt hkf) off) fun j _ => by rw [Nat.add_assoc]
mutual
theorem air (hS : SR P w I ρ m) : ∀ (d : Nat) (av : AV) (v : Value) (ids : List (Nat × Nat)) (rows : List (TypeId × List AV)) (r : AV × List (Nat × Nat) × List (TypeId × List AV)), canon P m d ids rows av = some r → VR P w I ρ av v → vD P w I ρ m ids rows →
   vD P w I ρ m r.2.1 r.2.2 ∧ (∃ x, r.2.1 = ids ++ x) ∧ VR P w I (mZ ρ r.2.1) r.1 v ∧ (dF av = dF r.1)
 | d, .val x, v, ids, rows, r, h, hv, hE => by
   unfold canon at h
   simp only [Option.some.injEq] at h; subst h
   exact ⟨hE, ⟨[], by simp⟩, by simpa only [VR] using hv, rfl⟩
 | d, .tree _ _ _ _, v, ids, rows, r, h, hv, hE => by
   unfold canon at h
   simp only [Option.some.injEq] at h; subst h
   exact ⟨hE, ⟨[], by simp⟩, by simpa only [VR] using hv, rfl⟩
 | d, .tptr _ _, v, ids, rows, r, h, hv, hE => by
   unfold canon at h
   simp only [Option.some.injEq] at h; subst h
   exact ⟨hE, ⟨[], by simp⟩, by simpa only [VR] using hv, rfl⟩
 | d, .emp _ _, v, ids, rows, r, h, hv, hE => by
   unfold canon at h
   simp only [Option.some.injEq] at h; subst h
   exact ⟨hE, ⟨[], by simp⟩, by simpa only [VR] using hv, rfl⟩
 | d, .agg cs, v, ids, rows, r, h, hv, hE => by
   unfold canon at h
   obtain ⟨s, hs, rfl⟩ := awD h
   simp only [VR] at hv
   obtain ⟨vs, rfl, h2, h3, h4⟩ := hv
   obtain ⟨e1, e2, e3, e4, e5⟩ := adu hS d cs _ ids rows s hs h4 hE
   refine ⟨e1, e2, ?_, rfl⟩
   simp only [VR]
   exact ⟨vs, rfl, by rw [h2, e4], e5 h3, e3⟩
 | d, .tup cs, v, ids, rows, r, h, hv, hE => by
   unfold canon at h
   obtain ⟨s, hs, rfl⟩ := awD h
   simp only [VR] at hv
   obtain ⟨vs, rfl, h2, h4⟩ := hv
   obtain ⟨e1, e2, e3, e4, e5⟩ := adu hS d cs _ ids rows s hs h4 hE
   refine ⟨e1, e2, ?_, rfl⟩
   simp only [VR]
   exact ⟨vs, rfl, by rw [h2, e4], e3⟩
 | 0, .sl b off len c f, v, ids, rows, r, h, hv, hE => by
   unfold canon at h
   obtain ⟨x, hx, h⟩ := awC h
   split at h
   · rename_i hkf
     exact aiq hS hx hkf hv hE h
   · cases h
 | d + 1, .sl b off len c f, v, ids, rows, r, h, hv, hE => by
   unfold canon at h
   obtain ⟨x, hx, h⟩ := awC h
   split at h
   · rename_i hkf
     exact aiq hS hx hkf hv hE h
   · rename_i hkv
     split at h
     case isFalse => cases h
     rename_i hw
     obtain ⟨s, hs, h⟩ := awC h
     split at h
     · cases h
     · rename_i hn
       simp only [Option.some.injEq] at h; subst h
       simp only [VR] at hv
       obtain ⟨g, o, cap, ty, n, sz, hg, rfl, hlc, hf, hsh, hss, hroom⟩ := hv
       have hB := hS.blk b x g o hx hg
       obtain ⟨e1, ⟨y, e2⟩, e3, e4, e5⟩ := adu hS d _ _ ids rows s hs (kX hB.cellsAt off) hE
       refine ⟨e1.snoc hx hw.1 (by rw [hw.2, hkv]) (e5 (kJ hB.one _)) (fun g' o' hg' => ?_) ((Bool.not_eq_true _).mp hn), ⟨y ++ [(b, off)], by rw [e2, List.append_assoc]⟩, ?_, rfl⟩
       · rw [hg, Option.some.injEq, Prod.mk.injEq] at hg'
         obtain ⟨rfl, rfl⟩ := hg'
         rw [if_neg (by rw [hkv]; decide)]
         exact iB e3 fun j _ => by rw [Nat.add_assoc]
       · simp only [VR]
         refine ⟨g, o + off, cap, ty, n, sz, ?_, rfl, hlc, hf, hsh, hss, by omega⟩
         unfold mZ
         rw [e1.1, List.getElem?_append_right (Nat.le_refl _)]
         simp [hg]
   · cases h
 | d, .ptr _ _, v, ids, rows, r, h, hv, hE => by unfold canon at h; cases h
 | d, .clo f [], v, ids, rows, r, h, hv, hE => by
   unfold canon at h
   simp only [Option.some.injEq] at h; subst h
   exact ⟨hE, ⟨[], by simp⟩, by simp only [VR, bK] at hv ⊢; exact hv, rfl⟩
 | d, .clo f (_ :: _), v, ids, rows, r, h, hv, hE => by unfold canon at h; cases h
 termination_by d av => (d, SizeOf.sizeOf av)
theorem adu (hS : SR P w I ρ m) : ∀ (d : Nat) (cs : List AV) (get : Nat → Option Value) (ids : List (Nat × Nat)) (rows : List (TypeId × List AV)) (r : List AV × List (Nat × Nat) × List (TypeId × List AV)), f9 P m d ids rows cs = some r → bK P w I ρ cs get → vD P w I ρ m ids rows →
   vD P w I ρ m r.2.1 r.2.2 ∧ (∃ x, r.2.1 = ids ++ x) ∧ bK P w I (mZ ρ r.2.1) r.1 get ∧ r.1.length = cs.length ∧ (eF cs → eF r.1)
 | d, [], get, ids, rows, r, h, hv, hE => by
   unfold f9 at h
   simp only [Option.some.injEq] at h; subst h
   exact ⟨hE, ⟨[], by simp⟩, by simp only [bK], rfl, fun h => h⟩
 | d, c :: cs, get, ids, rows, r, h, hv, hE => by
   unfold f9 at h
   obtain ⟨s, hs, h⟩ := awC h
   obtain ⟨t, ht, rfl⟩ := awD h
   simp only [bK] at hv
   obtain ⟨⟨v, h1, h2⟩, h3⟩ := hv
   obtain ⟨e1, ⟨x, e2⟩, e3, e4⟩ := air hS d c v ids rows s hs h2 hE
   obtain ⟨f1, ⟨y, f2⟩, f3, f4, f5⟩ := adu hS d cs _ s.2.1 s.2.2 t ht h3 e1
   refine ⟨f1, ⟨x ++ y, by simp only; rw [f2, e2, List.append_assoc]⟩, ?_, by simp [f4], fun h z hz => ?_⟩
   · simp only [bK]
     refine ⟨⟨v, h1, ?_⟩, f3⟩
     refine pP (adg w I) ?_ _ _ e3
     rw [f2]
     exact aio ρ _ _
   · rcases List.mem_cons.1 hz with rfl | hz
     · rw [← e4]; exact h c (by simp)
     · exact f5 (fun a ha => h a (by simp [ha])) z hz
 termination_by d cs => (d, SizeOf.sizeOf cs)
end
theorem ais {w0 : World} {I0 : Nat → Prop} (hS : SR P w I ρ m) (hst : cP w0 I0 dL aF.empty w I ρ m) {av : AV} {v : Value} (hv : VR P w I ρ av v) {r : gJ} (h : iT P m av = some r) :
   ∃ ρ', VR P w I ρ' r.v v ∧ SR P w I ρ' (d8 P aF.empty r.rows) ∧ cP w0 I0 dL aF.empty w I ρ' (d8 P aF.empty r.rows) := by
 unfold iT at h
 obtain ⟨s, hs, rfl⟩ := awD h
 obtain ⟨⟨e1, e2, e3⟩, _, e4, _⟩ := air hS 3 av v [] [] s hs hv ⟨rfl, fun j i h => by simp at h, fun j j' i i' h => by simp at h⟩
 have hat : ∀ b x, (d8 P aF.empty s.2.2).at_ b = some x → ∀ g o, mZ ρ s.2.1 b = some (g, o) → ∃ (i : Nat × Nat) (k : eP) (r : TypeId × List AV) (o' : Nat), s.2.1[b]? = some i ∧ m.at_ i.1 = some k ∧ k.wr = true ∧ ρ i.1 = some (g, o') ∧ o = o' + i.2 ∧ r.1 = k.el ∧ bW P r.1 = k.kind ∧ eF r.2 ∧
     bK P w I (if k.kind = .flat then dL else mZ ρ s.2.1) r.2 (fun j => w.cell? ⟨g, o' + i.2 + j, none⟩) ∧ x = ⟨r.2, r.1, bW P r.1, true⟩ := by
   intro b x hx g o hg
   unfold mZ at hg
   obtain ⟨i, hi, hg⟩ := awC hg
   obtain ⟨y, hy, hyy⟩ := awD hg
   simp only [Prod.mk.injEq] at hyy
   obtain ⟨rfl, rfl⟩ := hyy
   obtain ⟨k, r, k1, k3, k4, k5, k6, k7, k8⟩ := e2 b i hi
   rw [aat] at hx
   split at hx
   · simp only [aF.empty, Nat.sub_zero, k4, Option.map_some, Option.some.injEq] at hx
     rw [afv] at hx
     exact ⟨i, k, r, y.2, hi, k1, k3, hy, rfl, k5, k6, k7, k8 _ _ hy, hx.symm⟩
   · simp [aF.empty] at hx
 refine ⟨mZ ρ s.2.1, e4, ⟨fun b x g o h1 h2 => ?_, fun b1 b2 k1 k2 g o1 o2 h1 h2 h3 h4 h5 => ?_, hS.lt, by rw [adq]; exact j3.none⟩, ⟨hst.os, hst.tape, hst.output, hst.size, hst.same, hst.shape, hst.imm, hst.back, fun b x h => by simp [dL] at h, fun b h1 h2 => ?_, fun g hg => ?_, by simp [aF.empty]⟩⟩
 · obtain ⟨i, k, r, o', q1, q2, q4, q5, rfl, u1, u2, u3, u4, rfl⟩ := hat b x h1 g o h2
   have hB := hS.blk i.1 k g o' q2 q5
   obtain ⟨arr, fr, f1, f2⟩ := hB.cells
   refine ⟨u3, ⟨arr, fr, by simp only [u1]; exact f1, ?_⟩, fun _ => hB.wr q4, (fun h => by cases h), fun _ => hB.all1 q4, fun _ h => hB.nostr q4 (by simpa only [u1] using h)⟩
   simp only [u2]
   refine iB u4 fun j _ => ?_
   simp [World.cell?, f1]
 · obtain ⟨i, k, r, o', q1, q2, q4, q5, rfl, _, _, _, _, rfl⟩ := hat b1 k1 h1 g o1 h3
   obtain ⟨i', k', r', o'', p1, p2, p4, p5, rfl, _, _, _, _, rfl⟩ := hat b2 k2 h2 g o2 h4
   exact e3 b1 b2 i i' q1 p1 (hS.inj _ _ _ _ _ _ _ q2 p2 q5 p5 q4)
 · unfold mZ at h2
   cases hb : s.2.1[b]? with
   | none => rw [hb] at h2; simp at h2
   | some i =>
     have := (List.getElem?_eq_some_iff.1 hb).1
     rw [yT]
     simp [aF.empty]
     omega
 · rcases hg with ⟨b, x, o, h1, h2, h3⟩ | hg
   · obtain ⟨i, k, r, o', q1, q2, q4, q5, rfl, _⟩ := hat b x h1 g o h3
     exact hst.own g (.inl ⟨i.1, k, o', q2, q4, q5⟩)
   · rw [adq] at hg
     exact (wS hg).elim
end
end Go.Tw