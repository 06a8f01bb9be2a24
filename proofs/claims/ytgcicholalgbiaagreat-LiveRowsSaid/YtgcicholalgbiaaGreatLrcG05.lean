import Derived.Test.YtgcicholalgbiaaGreatLrcG04
import Derived.Laws.Append
set_option linter.unusedVariables false
set_option linter.unusedSimpArgs false
namespace Go.Tw
open Go
section
variable {P:Program} {w:World} {I:Nat→Prop} {ρ:Real} {m:Mem}
def Does {α:Type} (P:Program) (w:World) (I:Nat→Prop) (ρ:Real) (m:Mem) (r:Result α) (val:α→Value) (out:Out) (addr:Value):Prop :=
 ∃ x w' I' ρ',r = .ok x w'∧VR P w' I' ρ' out.v (val x)∧SR P w' I' ρ' out.m∧Step w I ρ m w' I' ρ' out.m∧∀ d y,out.wb=some (d,y)→VR P w' I' ρ' y addr
theorem noneOr {k:Blk} {cs:List AV} {get:Nat→Option Value} (h:VRs P w I noneR cs get):VRs P w I (if k.kind = .flat then noneR else ρ) cs get:=by
 split
 ·exact h
 ·exact VRs_lift h
theorem news_of_alloc {w w1:World} {arr:Array Value} {ty:TypeId} (h:w1.heap=w.heap∧w1.os=w.os∧w1.tape=w.tape∧w1.output=w.output):News w (w1.alloc (.cells arr ty)) arr ty:=by
 obtain ⟨h1,h2,h3,h4⟩:=h
 have:=News.alloc w1 arr ty
 exact ⟨this.os.trans h2,this.tape.trans h3,this.output.trans h4,by rw [this.size,h1],fun g hg=>by rw [this.same g (by rw [h1];exact hg),h1],by rw [←h1];exact this.blk,fun j hj=>by rw [←h1];exact this.free j hj⟩
theorem run_zero {t:TypeId} {z:List Value} (h:zeroE P t=some z):∃ v,(zeroValue t).run P w = .ok v w∧v.cells.toList=z∧(∀ x∈z,oneV x=true)∧(∃ i,P.info? t=some i∧i.zero=some v):=by
 unfold zeroE at h
 obtain ⟨v,hv,h⟩:=Option.bind_eq_some_iff.1 h
 obtain ⟨i,hi,hz⟩:=Option.bind_eq_some_iff.1 hv
 split at h
 ·rename_i ha
  simp only [Option.some.injEq] at h
  refine ⟨v,by simp [zeroValue,typeInfo,hi,hz],h,fun x hx => ?_,i,hi,hz⟩
  rw [h] at ha
  exact List.all_eq_true.1 ha x hx
 ·cases h
theorem oneA_val {x:Value} (h:oneV x=true):oneA (.val x)=true:=by cases x <;> simp_all [oneA,oneV]
theorem oneV_one {x:Value} (h:oneV x=true):x.oneCell'=true:=by cases x <;> simp_all [oneV,Value.oneCell']
theorem VRs_vals (z:List Value):VRs P w I ρ (z.map .val) (fun j=>z[j]?):=VRs_iff.2 fun j c hj=>by
 rw [List.getElem?_map] at hj
 obtain ⟨v,hv,rfl⟩:=Option.map_eq_some_iff.1 hj
 exact ⟨v,hv,by simp only [VR]⟩
theorem allocE_sound (hS:SR P w I ρ m) (hfree:ρ m.next=none) {once:Bool} {t:TypeId} {out:Out} (h:allocE P once m t=some out) (old addr:Value):Does P w I ρ m ((Instr.alloc t true old).run P w) id out addr:=by
 unfold allocE at h
 obtain ⟨z,hz,h⟩:=Option.bind_eq_some_iff.1 h
 simp only [outV,Option.some.injEq] at h
 subst h
 obtain ⟨v,h1,h2,h3,_⟩:=run_zero (w:=w) hz
 have hA:=News.alloc w v.cells t
 obtain ⟨a,b⟩:=SR_push (k:=⟨z.map .val,t,if once then .hole else .var,true⟩) hA hS hfree rfl (fun c hc=>by
  obtain ⟨x,hx,rfl⟩:=List.mem_map.1 hc
  exact oneA_val (h3 x hx)) (noneOr (by
   have:=VRs_vals (P:=P) (w:=w) (I:=I) (ρ:=noneR) z
   rw [←h2] at this ⊢
   simpa using this)) (fun x hx=>oneV_one (h3 x (by rw [←h2];exact hx))) (fun _=>alloc_free _ _)
 refine ⟨.pointer (some ⟨w.heap.size,0,none⟩),_,_,_, ?_, ?_,a,b,fun d y h=>by cases h⟩
 ·simp [Instr.alloc,h1,newVar,newRow]
 ·simp only [id,VR]
  exact ⟨_,_,setR_same _ _ _,rfl⟩
theorem boxE_sound (hS : SR P w I ρ m) {once : Bool} {t : TypeId} {x : AV} {out : Out} (h : boxE P once m t x = some out) (hfree : ∀ b, m.next ≤ b → b < out.m.next → ρ b = none) {v : Value} (hv : VR P w I ρ x v) (addr : Value) :
   Does P w I ρ m ((Instr.box t v).run P w) id out addr := by
 unfold boxE at h
 obtain ⟨n, hn, h⟩ := Option.bind_eq_some_iff.1 h
 split at h
 · rename_i hc
   obtain ⟨g1, g2, g3⟩ := AV_cells_VRs hc.2 hv
   have hrun : (Instr.box t v).run P w = .ok (.pointer (some ⟨w.heap.size, 0, none⟩)) (w.alloc (.cells v.cells t)) := by simp [Instr.box, newVar, newRow]
   split at h
   · obtain ⟨r, hr, h⟩ := Option.bind_eq_some_iff.1 h
     simp only [outV, Option.some.injEq] at h
     subst h
     obtain ⟨I1, a1, b1, c1, d1, d2, d3⟩ := fzs_sound x.cells m r.2 I r.1 _ hr hS g3
     have hA := News.alloc w v.cells t
     obtain ⟨a2, b2⟩ := SR_pushI hA a1
     refine ⟨_, _, _, _, hrun, ?_, a2, b1.trans b2, fun d y h => by cases h⟩
     simp only [id, VR]
     refine ⟨w.heap.size, 0, rfl, .inr rfl, d3 g2, ?_⟩
     obtain ⟨fr, hfr⟩ := hA.blk
     exact VRs_congr (VRs_keep (b2.keeps a1) (fun _ _ h => h) _ _ d1) fun j _ => by rw [cell_of_row _ _ _ _ _ _ hfr, Nat.zero_add]
   · simp only [outV, Option.some.injEq] at h
     subst h
     have hf : ρ m.next = none := hfree m.next (Nat.le_refl _) (by simp [Mem.push])
     obtain ⟨a, b⟩ := SR_push (k := ⟨x.cells, t, .var, true⟩) (News.alloc w v.cells t) hS hf rfl g2 (by simpa using g3) (VRs_one (P := P) (w := w) (I := I) (ρ := ρ) g2 (by simpa using g1) (by simpa using g3)) (fun _ => alloc_free _ _)
     refine ⟨_, _, _, _, hrun, ?_, a, b, fun d y h => by cases h⟩
     simp only [id, VR]
     exact ⟨_, _, setR_same _ _ _, rfl⟩
 · cases h
theorem zerosE_spec {el : TypeId} {n : Nat} {z : List AV} (h : zerosE P el n = some z) : ∃ sz, szE P el = some sz ∧ ∃ arr : Array Value,
   (∀ w, (do let zero ← (if n * sz = 0 then pure #[] else do pure (← zeroValue el).cells : Sem (Array Value)); pure ((Array.range (n * sz)).map (zero[· % zero.size]!)) : Sem (Array Value)).run P w = .ok arr w) ∧ arr.size = n * sz ∧ z.length = n * sz ∧ AllOne z ∧ ∀ w I ρ, VRs P w I ρ z (fun j => arr[j]?) := by
 unfold zerosE at h
 obtain ⟨sz, hsz, h⟩ := Option.bind_eq_some_iff.1 h
 refine ⟨sz, hsz, ?_⟩
 split at h
 · rename_i h0
   simp only [Option.some.injEq] at h
   subst h
   exact ⟨#[], fun w => by simp [h0], by simp [h0], by simp [h0], fun c hc => by simp at hc, fun _ _ _ => by simp only [VRs]⟩
 · rename_i h0
   obtain ⟨zs, hz, h⟩ := Option.bind_eq_some_iff.1 h
   split at h
   · rename_i hl
     simp only [Option.some.injEq] at h
     subst h
     obtain ⟨v, h1, h2, h3, h5⟩ := run_zero (w := default) hz
     have h1' : ∀ w, (zeroValue el).run P w = .ok v w := fun w => by
       obtain ⟨v', q1, _, _, i, q4, q5⟩ := run_zero (P := P) (w := w) hz
       have e : v' = v := by
         obtain ⟨i3, h6, h7⟩ := h5
         rw [q4] at h6
         simp only [Option.some.injEq] at h6
         subst h6
         rw [q5] at h7
         exact Option.some.inj h7
       rw [← e]; exact q1
     have hvs : v.cells.size = sz := by rw [← hl, ← h2]; simp
     refine ⟨(Array.range (n * sz)).map (v.cells[· % v.cells.size]!), fun w => by simp [h0, h1' w], by simp, by simp, fun c hc => ?_, fun w I ρ => VRs_iff.2 fun j c hj => ?_⟩
     · obtain ⟨i, hi, rfl⟩ := List.mem_map.1 hc
       have hpos : 0 < sz := by
         rcases Nat.eq_zero_or_pos sz with e | e
         · subst e; simp at h0
         · exact e
       refine oneA_val (h3 _ ?_)
       rw [List.getD_eq_getElem?_getD, List.getElem?_eq_getElem (by rw [hl]; exact Nat.mod_lt _ hpos)]
       exact List.getElem_mem _
     · rw [List.getElem?_map] at hj
       obtain ⟨i, hi, rfl⟩ := Option.map_eq_some_iff.1 hj
       have hlt : j < n * sz := by have := (List.getElem?_eq_some_iff.1 hi).1; simpa using this
       have hij : i = j := by simp [hlt] at hi; exact hi.symm
       subst hij
       have hpos : 0 < sz := by
         rcases Nat.eq_zero_or_pos sz with e | e
         · subst e; simp at h0
         · exact e
       refine ⟨v.cells[i % v.cells.size]!, by simp [hlt], ?_⟩
       simp only [VR]
       have hm : i % sz < v.cells.size := by rw [hvs]; exact Nat.mod_lt _ hpos
       rw [hvs, getElem!_pos v.cells _ hm, List.getD_eq_getElem?_getD, ← h2]
       simp [hm]
   · cases h
theorem buildSliceE_sound (hS : SR P w I ρ m) {t : TypeId} {len : Nat} {parts : List (Nat × AV)} {out : Out} (h : buildSliceE P m t len parts = some out) (hfree : ∀ b, m.next ≤ b → b < out.m.next → ρ b = none)
   {vparts : List (Nat × Value)} (hl : vparts.length = parts.length) (hv : ∀ (j i : Nat) (av : AV) (i' : Nat) (v : Value), parts[j]? = some (i, av) → vparts[j]? = some (i', v) → i = i' ∧ VR P w I ρ av v) (addr : Value) :
   Does P w I ρ m ((Instr.buildSlice t len vparts.toArray).run P w) id out addr := by
 unfold buildSliceE at h
 obtain ⟨el, hel, h⟩ := Option.bind_eq_some_iff.1 h
 obtain ⟨n, hn, h⟩ := Option.bind_eq_some_iff.1 h
 obtain ⟨z, hz, h⟩ := Option.bind_eq_some_iff.1 h
 split at h
 · rename_i hle
   obtain ⟨cs, hcs, h⟩ := Option.bind_eq_some_iff.1 h
   obtain ⟨sz, hsz, arr, q1, q2, q3, q4, q5⟩ := zerosE_spec hz
   rw [hn, Option.some.injEq] at hsz
   subst hsz
   obtain ⟨arr', f1, f2, f3, f4, f5⟩ := fillE_sound (P := P) (w := w) (I := I) (ρ := ρ) (place := fun i => some (i * n, n)) (placeE := fun i => some (i * n, n)) (fun _ _ h => h) parts vparts z cs arr hcs hl hv (by rw [q2, q3]) q4 (q5 w I ρ)
   obtain ⟨m2, cs2, kd, I1, rfl, a1, b1, c1, d1, d3⟩ : ∃ (m2 : Mem) (cs2 : List AV) (kd : Kind) (I1 : Nat → Prop), out = ⟨.sl m2.next 0 len len true, m2.push ⟨cs2, el, kd, true⟩, none⟩ ∧ SR P w I1 ρ m2 ∧ Step w I ρ m w I1 ρ m2 ∧ m2.next = m.next ∧ VRs P w I1 (if kd = .flat then noneR else ρ) cs2 (fun j => arr'[j]?) ∧ AllOne cs2 := by
     cases hk : kindT P el with
     | flat =>
       rw [hk] at h
       obtain ⟨r, hr, h⟩ := Option.bind_eq_some_iff.1 h
       simp only [outV, Option.some.injEq] at h
       subst h
       obtain ⟨I1, a1, b1, c1, d1, d2, d3⟩ := fzs_sound cs m r.2 I r.1 _ hr hS f5
       exact ⟨_, _, _, _, rfl, a1, b1, c1, by simpa using d1, d3 f4⟩
     | var =>
       rw [hk] at h
       simp only [outV, Option.some.injEq] at h
       subst h
       exact ⟨_, _, _, _, rfl, hS, Step.refl _ _ _ _, rfl, by simpa using f5, f4⟩
     | hole =>
       rw [hk] at h
       simp only [outV, Option.some.injEq] at h
       subst h
       exact ⟨_, _, _, _, rfl, hS, Step.refl _ _ _ _, rfl, by simpa using f5, f4⟩
   have hA := News.alloc w arr' el
   have hf : ρ m2.next = none := hfree _ (by rw [c1]; exact Nat.le_refl _) (by simp [Mem.push])
   obtain ⟨a, b⟩ := SR_push (k := ⟨cs2, el, kd, true⟩) hA a1 hf rfl d3 d1 (VRs_one (P := P) (w := w) (I := I) (ρ := ρ) f4 (by rw [Array.length_toList, f2]) (by simpa using f5)) (fun _ => alloc_free _ _)
   refine ⟨.slice (some ⟨w.heap.size, 0, none⟩) len len, _, _, _, ?_, ?_, a, b1.trans b, fun d y h => by cases h⟩
   · have q1' := q1 w
     simp only [Sem.run_bind, Sem.run_ite, Sem.run_pure] at q1'
     by_cases h0 : len * n = 0
     · simp [h0] at q1'
       simp [Instr.buildSlice, run_und (und_el hel), run_sz hn, h0, f1, q1', newRow]
     · simp only [h0, if_false] at q1'
       have hnot : ¬ (16777216 < len * n) := by omega
       cases hzv : (zeroValue el).run P w with
       | halt x y => rw [hzv] at q1'; simp at q1'
       | ok x y =>
         rw [hzv] at q1'
         simp at q1'
         obtain ⟨q6, q7⟩ := q1'
         subst q7
         simp [Instr.buildSlice, run_und (und_el hel), run_sz hn, h0, hnot, hzv, q6, f1, newRow]
   · simp only [id, VR]
     obtain ⟨fr, hfr⟩ := hA.blk
     have hsh := shape_of_heap hfr
     refine ⟨_, _, len, el, _, n, setR_same _ _ _, rfl, ⟨Nat.le_refl _, Nat.le_refl _⟩, fun _ => rfl, hsh, hn, ?_⟩
     rw [f2, f3, q3]
     omega
 · cases h
theorem makeE_sound (hS : SR P w I ρ m) {t : TypeId} {n k : Nat} {out : Out} (h : makeE P m t n k = some out) (hfree : ρ m.next = none) (kn kk : IntKind) (addr : Value) :
   Does P w I ρ m ((Instr.makeSlice t (.int kn n) (.int kk k)).run P w) id out addr := by
 unfold makeE at h
 obtain ⟨el, hel, h⟩ := Option.bind_eq_some_iff.1 h
 obtain ⟨sz, hsz, h⟩ := Option.bind_eq_some_iff.1 h
 obtain ⟨y, hy, h⟩ := Option.bind_eq_some_iff.1 h
 obtain ⟨z, hz, h⟩ := Option.bind_eq_some_iff.1 h
 split at h
 · rename_i hc
   obtain ⟨c1, c2, c3⟩ := hc
   simp only [outV, Option.some.injEq] at h
   subst h
   obtain ⟨i, hi, rfl⟩ := run_info hy
   obtain ⟨sz', hsz', arr, q1, q2, q3, q4, q5⟩ := zerosE_spec hz
   rw [hsz, Option.some.injEq] at hsz'
   subst hsz'
   have hA := News.alloc w arr el
   obtain ⟨a, b⟩ := SR_push (k := ⟨z.take (n * sz), el, kindT P el, true⟩) hA hS hfree rfl (AllOne_take q4 _) (noneOr (VRs_take (q5 w I noneR) _)) (VRs_one (P := P) (w := w) (I := I) (ρ := ρ) q4 (by rw [Array.length_toList, q2, q3]) (by simpa using q5 w I ρ)) (fun _ => alloc_free _ _)
   have hwn : IntKind.i64.wrap (n : Int) = n := by rw [IntKind.wrap_i64]; omega
   have hwk : IntKind.i64.wrap (k : Int) = k := by rw [IntKind.wrap_i64]; omega
   have hb : ((i.bytes : Int) * (k : Int)) ≤ 281474976710656 := by
     have : ((k * i.bytes : Nat) : Int) ≤ 281474976710656 := by omega
     rw [Int.natCast_mul, Int.mul_comm] at this
     exact this
   refine ⟨.slice (some ⟨w.heap.size, 0, none⟩) n k, _, _, _, ?_, ?_, a, b, fun d y h => by cases h⟩
   · have q1' := q1 w
     have hnot : ¬ ((k : Int) < 0) := by omega
     have hnot2 : ¬ ((n : Int) < 0) := by omega
     have hnot3 : ¬ ((k : Int) < (n : Int)) := by omega
     have hnot4 : ¬ ((281474976710656 : Int) < (i.bytes : Int) * (k : Int)) := by omega
     unfold Instr.makeSlice
     simp only [Sem.run_bind, run_und (und_el hel), Result.andThen_ok, asInt, asIntOf, Sem.run_pure, Sem.run_map, typeInfo, run_program, hi, hwn, hwk, run_askRoom, Int.toNat_natCast, run_sz hsz, Sem.run_ite]
     simp only [hnot, hnot2, hnot3, decide_false, Bool.false_or, gt_iff_lt, Bool.or_self, Bool.or_false, Nat.reducePow, Int.reducePow, hnot4, if_false, Bool.false_eq_true]
     simp only [Sem.run_bind, Sem.run_ite, Sem.run_pure] at q1'
     by_cases h0 : k * sz = 0
     · simp [h0] at q1'
       simp [h0, newRow, q1']
     · simp only [h0, if_false] at q1' ⊢
       cases hzv : (zeroValue el).run P w with
       | halt x y => rw [hzv] at q1'; simp at q1'
       | ok x y =>
         rw [hzv] at q1'
         simp at q1'
         obtain ⟨q6, q7⟩ := q1'
         subst q7
         simp [q6, newRow]
   · simp only [id, VR]
     obtain ⟨fr, hfr⟩ := hA.blk
     refine ⟨_, _, k, el, _, sz, setR_same _ _ _, rfl, ⟨c1, Nat.le_refl _⟩, fun _ => rfl, shape_of_heap hfr, hsz, ?_⟩
     rw [q2]
     omega
 · cases h
end
section
variable {P:Program} {w:World} {I:Nat→Prop} {ρ:Real} {m:Mem}
theorem cells_list (v:Value):v.cells.toList.length=v.cells.size:=by simp
theorem run_storeVar {t:TypeId} {n:Nat} (hn:szE P t=some n) {a:Addr} {v:Value} (hs:v.cells.size=n) {r:Result Unit} (h:(storeCells a v.cells.toList).run P w=r):(storeVar t a v).run P w=r:=by
 simp [storeVar,run_sz hn,hs,h]
theorem frozen_of_wr {k:Blk} {g o:Nat} (h:BR P w I ρ k g o) (hw:k.wr=true) {arr:Array Value} {ty:TypeId} {fr:Nat×Nat} (hh:w.heap[g]? = some (.cells arr ty fr)):∀ j,w.frozen? ⟨g,j,none⟩=true→arr.size≤j :=
 fun j hj=>(h.wr hw).2 j hj arr.size ty (shape_of_heap hh)
theorem splice_VRs {cs xs : List AV} {off o p : Nat} (hp : p = o + off) (hle : off + xs.length ≤ cs.length) {arr arr' : Array Value} {vs : List Value} (hvs : vs.length = xs.length)
   (hc : VRs P w I ρ cs (fun j => arr[o + j]?)) (hx : VRs P w I ρ xs (fun j => vs[j]?)) (ha : ∀ i, arr'[i]? = if p ≤ i ∧ i < p + vs.length ∧ i < arr.size then vs[i - p]? else arr[i]?) : VRs P w I ρ (splice cs off xs) (fun j => arr'[o + j]?) := by
 subst hp
 refine VRs_iff.2 fun j c hj => ?_
 rw [splice_get _ _ _ hle] at hj
 simp only [ha]
 split at hj
 · rename_i hr
   have hjc : j < cs.length := by omega
   obtain ⟨u, hu⟩ := VRs_len hc hjc
   have hlt : o + j < arr.size := (Array.getElem?_eq_some_iff.1 hu).1
   rw [if_pos (by omega)]
   obtain ⟨v, h1, h2⟩ := VRs_at hx hj
   exact ⟨v, by rw [show o + j - (o + off) = j - off by omega]; exact h1, h2⟩
 · rename_i hr
   rw [if_neg (by omega)]
   exact VRs_at hc hj
theorem blk_self (x : Option Blk) : (match x with
   | some k => ∃ wr, x = some ⟨k.cells, k.el, k.kind, wr⟩ ∧ (wr = true → k.wr = true)
   | none => x = none) := by
 cases x with
 | none => rfl
 | some k => exact ⟨k.wr, rfl, fun h => h⟩
mutual
theorem fz_blk : ∀ (av : AV) (m m' : Mem) (av' : AV), fz m av = some (av', m') → ∀ b, match m.at_ b with
   | some k => ∃ wr, m'.at_ b = some ⟨k.cells, k.el, k.kind, wr⟩ ∧ (wr = true → k.wr = true)
   | none => m'.at_ b = none
 | .val x, m, m', av', h, b => by
   simp only [fz, Option.some.injEq, Prod.mk.injEq] at h; obtain ⟨rfl, rfl⟩ := h; exact blk_self _
 | .tree n c cs f, m, m', av', h, b => by
   simp only [fz, Option.some.injEq, Prod.mk.injEq] at h; obtain ⟨rfl, rfl⟩ := h; exact blk_self _
 | .tptr o cs, m, m', av', h, b => by
   simp only [fz, Option.some.injEq, Prod.mk.injEq] at h; obtain ⟨rfl, rfl⟩ := h; exact blk_self _
 | .emp c f, m, m', av', h, b => by
   simp only [fz, Option.some.injEq, Prod.mk.injEq] at h; obtain ⟨rfl, rfl⟩ := h; exact blk_self _
 | .agg cs, m, m', av', h, b => by
   simp only [fz] at h
   obtain ⟨r, hr, h⟩ := Option.map_eq_some_iff.1 h
   simp only [Prod.mk.injEq] at h
   obtain ⟨rfl, rfl⟩ := h
   exact fzs_blk cs m r.2 r.1 hr b
 | .sl c off len cc full, m, m', av', h, b => by
   simp only [fz] at h
   split at h
   · rename_i cells el wr hb
     simp only [Option.some.injEq, Prod.mk.injEq] at h
     obtain ⟨rfl, rfl⟩ := h
     by_cases e : b = c
     · subst e; rw [hb]; exact ⟨false, by simp [Mem.put], fun h => by cases h⟩
     · have : (m.put c (some ⟨cells, el, .flat, false⟩)).at_ b = m.at_ b := by simp [Mem.put, e]
       rw [this]
       exact blk_self _
   · rename_i cells el wr hb
     split at h
     · cases h
     simp only [Option.some.injEq, Prod.mk.injEq] at h
     obtain ⟨rfl, rfl⟩ := h
     by_cases e : b = c
     · subst e; rw [hb]; exact ⟨false, by simp [Mem.put], fun h => by cases h⟩
     · have : (m.put c (some ⟨cells, el, .var, false⟩)).at_ b = m.at_ b := by simp [Mem.put, e]
       rw [this]
       exact blk_self _
   · cases h
 | .ptr _ _, m, m', av', h, b => by simp [fz] at h
 | .tup _, m, m', av', h, b => by simp [fz] at h
 | .clo f [], m, m', av', h, b => by
   simp only [fz, Option.some.injEq, Prod.mk.injEq] at h; obtain ⟨rfl, rfl⟩ := h; exact blk_self _
 | .clo f (c :: cs), m, m', av', h, b => by simp [fz] at h
theorem fzs_blk : ∀ (cs : List AV) (m m' : Mem) (cs' : List AV), fzs m cs = some (cs', m') → ∀ b, match m.at_ b with
   | some k => ∃ wr, m'.at_ b = some ⟨k.cells, k.el, k.kind, wr⟩ ∧ (wr = true → k.wr = true)
   | none => m'.at_ b = none
 | [], m, m', cs', h, b => by
   simp only [fzs, Option.some.injEq, Prod.mk.injEq] at h; obtain ⟨rfl, rfl⟩ := h; exact blk_self _
 | c :: cs, m, m', cs', h, b => by
   simp only [fzs] at h
   obtain ⟨r, hr, h⟩ := Option.bind_eq_some_iff.1 h
   obtain ⟨s, hs, h⟩ := Option.map_eq_some_iff.1 h
   simp only [Prod.mk.injEq] at h
   obtain ⟨rfl, rfl⟩ := h
   have h1 := fz_blk c m r.2 r.1 hr b
   have h2 := fzs_blk cs r.2 s.2 s.1 hs b
   cases hq : m.at_ b with
   | none => rw [hq] at h1; simp only at h1; rw [h1] at h2; exact h2
   | some k =>
     rw [hq] at h1
     simp only at h1
     obtain ⟨wr, h3, h4⟩ := h1
     rw [h3] at h2
     simp only at h2
     obtain ⟨wr', h5, h6⟩ := h2
     exact ⟨wr', h5, fun h => h4 (h6 h)⟩
end
theorem storeE_sound (hS : SR P w I ρ m) {t : TypeId} {slot : Option Nat} {x a : AV} {out : Out} (h : storeE P m t slot x a = some out) {v va : Value} (hv : VR P w I ρ x v) (ha : VR P w I ρ a va) :
   Does P w I ρ m ((Instr.storeAt t va v).run P w) (fun _ => undef) out va := by
 unfold storeE at h
 split at h
 · rename_i b off
   obtain ⟨n, hn, h⟩ := Option.bind_eq_some_iff.1 h
   obtain ⟨k, hk, h⟩ := Option.bind_eq_some_iff.1 h
   split at h
   · rename_i hc
     obtain ⟨c1, c2, c3, c4, c0⟩ := hc
     simp only [VR] at ha
     obtain ⟨g, o, hb, rfl⟩ := ha
     have hB := hS.blk b k g o hk hb
     obtain ⟨arr, fr, hh, hcells⟩ := hB.cells
     obtain ⟨g1, g2, g3⟩ := AV_cells_VRs c4 hv
     have hvl : v.cells.toList.length = x.cells.length := by rw [cells_list, g1]
     have hsz : o + off + v.cells.toList.length ≤ arr.size := by
       obtain ⟨u, hu⟩ := VRs_len hcells (j := off + n - 1) (by omega)
       have := (Array.getElem?_eq_some_iff.1 hu).1
       omega
     have hone := VRs_one (P := P) (w := w) (I := I) (ρ := ρ) g2 hvl (by simpa using g3)
     have hrun : (Instr.storeAt t (.pointer (some ⟨g, o + off, none⟩)) v).run P w = .ok () (w.setCells g (o + off) v.cells.toList) := by
       have := run_write (P := P) (w := w) hh (frozen_of_wr hB c3 hh) hsz hone
       simp [Instr.storeAt, Instr.sureAddr, run_storeVar hn (by rw [g1, c1]) this]
     split at h
     · -- a hole: written once, immutable from now on
       rename_i hkind
       obtain ⟨d, hd, h⟩ := Option.bind_eq_some_iff.1 h
       split at h
       · rename_i hc2
         obtain ⟨c5, c6⟩ := hc2
         obtain ⟨r, hr, h⟩ := Option.bind_eq_some_iff.1 h
         simp only [Option.some.injEq] at h
         subst h
         obtain ⟨e1, e2⟩ := SR_drop hS b
         obtain ⟨I1, a1, b1, f1, d1, d2, d3⟩ := fzs_sound x.cells (m.put b none) r.2 I r.1 _ hr e1 g3
         have s12 := e2.trans b1
         have hng : ¬ I g := (hB.wr c3).1
         have hdom : ∀ b' k' x' o', r.2.at_ b' = some k' → ρ b' = some (x', o') → x' ≠ g := by
           rintro b' k' x' o' q1 q2 rfl
           have := fzs_blk x.cells (m.put b none) r.2 r.1 hr b'
           by_cases e : b' = b
           · have h0 : (m.put b none).at_ b' = none := by simp [Mem.put, e]
             rw [h0] at this
             rw [this] at q1
             cases q1
           · have h0 : (m.put b none).at_ b' = m.at_ b' := by simp [Mem.put, e]
             rw [h0] at this
             cases hq : m.at_ b' with
             | none => rw [hq] at this; rw [this] at q1; cases q1
             | some k2 => exact e (hS.inj b b' k k2 _ o o' hk hq hb q2 c3).symm
         have hng1 : ¬ I1 g := by
           intro hI
           rcases b1.back g hI with h1 | (⟨b', k', o', h1, h2, h3⟩ | h1) | h1
           · exact hng h1
           · by_cases e : b' = b
             · simp [Mem.put, e] at h1
             · have h0 : (m.put b none).at_ b' = m.at_ b' := by simp [Mem.put, e]
               rw [h0] at h1
               exact e (hS.inj b b' k k' _ o o' hk h1 hb h3 c3).symm
           · exact (hS.mms.not_cells h1 hh).elim
           · have := heap_lt hh; omega
         obtain ⟨arr', h1, h2, h3⟩ := setCells_heap g v.cells.toList (o + off) w arr k.el fr hh
         obtain ⟨r1, r2, r3, r4⟩ := setCells_rest g v.cells.toList (o + off) w
         have hsh : ∀ x y, w.shape? x = some y → (w.setCells g (o + off) v.cells.toList).shape? x = some y := by
           intro x y hx
           by_cases e : x = g
           · subst e
             rw [shape_of_heap h1, h2, ← shape_of_heap hh]; exact hx
           · rw [shape_same (setCells_other g _ _ w x e)]; exact hx
         have hkp : Keeps w (w.setCells g (o + off) v.cells.toList) I1 (fun y => I1 y ∨ y = g) := ⟨fun _ h => .inl h, fun y hy => setCells_other g _ _ w y (fun e => hng1 (e ▸ hy)), hsh⟩
         refine ⟨(), _, (fun y => I1 y ∨ y = g), ρ, hrun, by simp only [undefA, undef, VR], ⟨fun b' k' x' o' q1 q2 => ?_, a1.inj, fun y hy => ?_, a1.mms.keep hkp (fun _ _ h => h) (fun y hy => ⟨setCells_other g _ _ w y (fun e => by subst e; exact (a1.mms.not_cells hy hh).elim), fun h => h.elim id fun h => by subst h; exact (a1.mms.not_cells hy hh).elim⟩)⟩, ⟨r1, r2, r3, by rw [r4]; exact Nat.le_refl _, fun y hy hn => setCells_other g _ _ w y (fun e => hn (.inl ⟨b, k, o, hk, c3, by rw [e]; exact hb⟩)), hsh, fun y hy => .inl (s12.imm y hy), fun y hy => ?_, fun _ _ h => h, fun b h1 h2 => absurd h1 h2, fun y hy => s12.own y hy, s12.next⟩, fun d' y hy => ?_⟩
         · refine BR_keep hkp (fun _ _ h => h) (a1.blk b' k' x' o' q1 q2) (setCells_other g _ _ w x' (hdom b' k' x' o' q1 q2)) (fun hwr hI => ?_)
           rcases hI with hI | hI
           · exact ((a1.blk b' k' x' o' q1 q2).wr hwr).1 hI
           · exact hdom b' k' x' o' q1 q2 hI
         · rw [r4]
           rcases hy with hy | rfl
           · exact a1.lt y hy
           · exact heap_lt hh
         · rcases hy with hy | rfl
           · exact s12.back y hy
           · exact .inr (.inl (.inl ⟨b, k, o, hk, c3, hb⟩))
         · simp only [Option.some.injEq, Prod.mk.injEq] at hy
           obtain ⟨rfl, rfl⟩ := hy
           simp only [VR]
           refine ⟨g, o + off, rfl, .inr rfl, d3 g2, ?_⟩
           refine VRs_congr (VRs_keep hkp (fun _ _ h => h) _ _ d1) fun j hj => ?_
           rw [cell_of_row _ _ _ _ _ _ h1, h3, if_pos (by omega)]
           simp
       · cases h
     · rename_i hkind
       simp only [outV, Option.some.injEq] at h
       subst h
       rw [hkind] at hcells
       obtain ⟨s1, s2⟩ := SR_write (k' := ⟨splice k.cells off x.cells, k.el, .var, true⟩) hS hk c3 hb (vs := v.cells.toList) (p := o + off) ⟨rfl, rfl, AllOne_splice hB.one g2 _⟩ hone (fun arr0 fr0 e0 hc0 arr' e1 e2 => by
         rw [hkind] at hc0
         simp only [reduceCtorEq, if_false] at hc0 ⊢
         exact splice_VRs rfl (by omega) hvl hc0 (by simpa using g3) e2)
       exact ⟨(), _, _, _, hrun, by simp only [undefA, undef, VR], s1, s2, fun d y h => by cases h⟩
     · rename_i hkind
       obtain ⟨r, hr, h⟩ := Option.bind_eq_some_iff.1 h
       obtain ⟨k1, hk1, h⟩ := Option.bind_eq_some_iff.1 h
       split at h
       · rename_i hw1
         simp only [outV, Option.some.injEq] at h
         subst h
         obtain ⟨I1, a1, b1, e1, d1, d2, d3⟩ := fzs_sound x.cells m r.2 I r.1 _ hr hS g3
         have hblk := fzs_blk x.cells m r.2 r.1 hr b
         rw [hk] at hblk
         obtain ⟨wr, h5, h6⟩ := hblk
         rw [hk1, Option.some.injEq] at h5
         subst h5
         simp only at hw1
         obtain ⟨s1, s2⟩ := SR_write (k' := ⟨splice k.cells off r.1, k.el, .flat, true⟩) a1 hk1 hw1 hb (vs := v.cells.toList) (p := o + off) ⟨rfl, rfl, AllOne_splice hB.one (d3 g2) _⟩ hone (fun arr0 fr0 e0 hc0 arr' e1 e2 => by
           simp only [hkind, if_true] at hc0 ⊢
           exact splice_VRs rfl (by rw [d2]; omega) (by rw [d2]; exact hvl) hc0 (by simpa using d1) e2)
         exact ⟨(), _, _, _, hrun, by simp only [undefA, undef, VR], s1, b1.trans s2, fun d y h => by cases h⟩
       · cases h
   · cases h
 · cases h
end
section
variable {P:Program} {w:World} {I:Nat→Prop} {ρ:Real} {m:Mem}
def kR (k:Kind) (ρ:Real):Real:=if k = .flat then noneR else ρ
theorem VRs_any {κ:Real} {cs:List AV} {get:Nat→Option Value} (h:VRs P w I noneR cs get):VRs P w I κ cs get :=
 VRs_keep (⟨fun _ h=>h,fun _ _=>rfl,fun _ _ h=>h⟩:Keeps w w I I) (fun b x h=>by cases h) _ _ h
def InMem (P:Program) (w:World) (I:Nat→Prop) (κ:Real) (a:Option Addr) (cs:List AV):Prop :=
 match a with
 | some ad=>(cs≠[]→ad.spot=none)∧VRs P w I κ cs (fun j=>w.cell? ⟨ad.block,ad.off+j,none⟩)
 | none=>cs=[]
theorem slView_sound (hS : SR P w I ρ m) {x : AV} {cs : List AV} {n : Nat} {f : Bool} {kd : Kind} (h : slView kd m x = some (cs, n, f)) {v : Value} (hv : VR P w I ρ x v) :
   ∃ a cap, v = .slice a n cap ∧ n ≤ cap ∧ (f = true → cap = n) ∧ InMem P w I (kR kd ρ) a cs ∧ AllOne cs ∧ (a = none → cs = [] ∧ n = 0 ∧ cap = 0) := by
 cases x with
 | val x =>
   simp only [VR] at hv
   subst hv
   unfold slView at h
   split at h
   · rename_i heq
     simp only [AV.val.injEq] at heq
     subst heq
     simp only [Option.some.injEq, Prod.mk.injEq] at h
     obtain ⟨rfl, rfl, rfl⟩ := h
     exact ⟨none, 0, rfl, Nat.le_refl _, fun _ => rfl, rfl, fun c hc => by simp at hc, fun _ => ⟨rfl, rfl, rfl⟩⟩
   · rename_i heq; cases heq
   · rename_i heq; cases heq
   · rename_i heq; cases heq
   · cases h
 | tree l c cells f' =>
   simp only [slView, Option.some.injEq, Prod.mk.injEq] at h
   obtain ⟨rfl, rfl, rfl⟩ := h
   simp only [VR] at hv
   obtain ⟨g, o, cap, rfl, hI, ⟨h1, h2⟩, h3, h4, h5⟩ := hv
   refine ⟨some ⟨g, o, none⟩, cap, rfl, by omega, fun hf => ?_, ⟨fun _ => rfl, VRs_any h5⟩, h4, fun h => by cases h⟩
   simp at hf
   rw [h3 hf.1, hf.2]
 | emp c f' =>
   simp only [slView, Option.some.injEq, Prod.mk.injEq] at h
   obtain ⟨rfl, rfl, rfl⟩ := h
   simp only [VR] at hv
   obtain ⟨ad, cap, rfl, h2, h3⟩ := hv
   refine ⟨some ad, cap, rfl, by omega, fun hf => ?_, ⟨fun h => absurd rfl h, by simp only [VRs]⟩, fun c hc => by simp at hc, fun h => by cases h⟩
   simp at hf
   rw [h3 hf.1, hf.2]
 | sl b off l c f' =>
   simp only [slView] at h
   split at h
   · rename_i x hb
     split at h
     case isFalse => cases h
     rename_i hkd
     simp only [Option.some.injEq, Prod.mk.injEq] at h
     obtain ⟨rfl, rfl, rfl⟩ := h
     simp only [VR] at hv
     obtain ⟨g, o, cap, ty, n', s, hg, rfl, ⟨h1, h2⟩, h3, _⟩ := hv
     have hB := hS.blk b _ g o hb hg
     refine ⟨some ⟨g, o + off, none⟩, cap, rfl, by omega, fun hf => ?_, ⟨fun _ => rfl, ?_⟩, AllOne_drop hB.one _, fun h => by cases h⟩
     · simp at hf
       rw [h3 hf.1, hf.2]
     · obtain ⟨arr, fr, e1, e2⟩ := hB.cells
       have e3 : VRs P w I (kR kd ρ) x.cells (fun j => arr[o + j]?) := by unfold kR; rw [← hkd]; exact e2
       refine VRs_congr (VRs_drop e3 off) fun j _ => ?_
       simp [World.cell?, e1, Nat.add_assoc]
   · cases h
 | agg _ => simp [slView] at h
 | tup _ => simp [slView] at h
 | tptr _ _ => simp [slView] at h
 | ptr _ _ => simp [slView] at h
 | clo _ _ => simp [slView] at h
theorem InMem_list {κ : Real} {a : Option Addr} {cs : List AV} (h : InMem P w I κ a cs) {sz n : Nat} (hl : n * sz ≤ cs.length) {len cap : Nat} (ha : a = none → n = 0) :
   ∃ news : List Value, news.length = n * sz ∧ (Builtin.firstCells sz n (.slice a len cap)).run P w = .ok news.toArray w ∧ VRs P w I κ (cs.take (n * sz)) (fun j => news[j]?) := by
 cases a with
 | none =>
   simp only [InMem] at h
   subst h
   have : n = 0 := ha rfl
   subst this
   exact ⟨[], by simp, by simp [Builtin.firstCells], by simp [VRs]⟩
 | some ad =>
   obtain ⟨h0, h⟩ := h
   obtain ⟨vs, l, f, r⟩ := VRs_list (VRs_take h (n * sz))
   have hl' : vs.length = n * sz := by rw [l, List.length_take]; omega
   have hr := run_loadCells_list (P := P) (w := w) ad vs (fun j v hj => by
     have := f j v hj
     have e : ad.add j = ⟨ad.block, ad.off + j, none⟩ := by
       have hne : cs ≠ [] := fun e => by
         subst e
         simp at l
         subst l
         simp at hj
       obtain ⟨x, y, z⟩ := ad
       have h0 := h0 hne
       simp only at h0
       subst h0
       exact Addr.add_lit x y j
     rw [e]; exact this)
   rw [hl'] at hr
   exact ⟨vs, hl', by simp [Builtin.firstCells, hr], r⟩
theorem bytes_VRs (b:ByteArray):VRs P w I ρ (bytesV b) (fun j=>(b.data.toList.map fun x=>Value.int .u8 x.toNat)[j]?):=VRs_iff.2 fun j c hj=>by
 unfold bytesV at hj
 rw [List.getElem?_map] at hj
 obtain ⟨x,hx,rfl⟩:=Option.map_eq_some_iff.1 hj
 exact ⟨.int .u8 x.toNat,by rw [List.getElem?_map,hx];rfl,by simp only [byteV,VR]⟩
theorem bytes_one (b:ByteArray):AllOne (bytesV b):=fun c hc=>by
 obtain ⟨x,_,rfl⟩:=List.mem_map.1 hc
 rfl
theorem bytesV_length (b:ByteArray):(bytesV b).length=b.size:=by simp [bytesV]
theorem srcE_sound (hS : SR P w I ρ m) {el : TypeId} {sz : Nat} {x : AV} {new : List AV} {n : Nat} (h : srcE P el sz m x = some (new, n)) {v : Value} (hv : VR P w I ρ x v) :
   (Builtin.lenOf v).run P w = .ok n w ∧ new.length = n * sz ∧ AllOne new ∧ ∀ n', n' ≤ n → ∃ news : List Value, news.length = n' * sz ∧ (Builtin.firstCells sz n' v).run P w = .ok news.toArray w ∧ VRs P w I (kR (kindT P el) ρ) (new.take (n' * sz)) (fun j => news[j]?) := by
 have key : ∀ r, slView (kindT P el) m x = some r → (if r.2.1 * sz ≤ r.1.length then some (r.1.take (r.2.1 * sz), r.2.1) else none) = some (new, n) →
     (Builtin.lenOf v).run P w = .ok n w ∧ new.length = n * sz ∧ AllOne new ∧ ∀ n', n' ≤ n → ∃ news : List Value, news.length = n' * sz ∧ (Builtin.firstCells sz n' v).run P w = .ok news.toArray w ∧ VRs P w I (kR (kindT P el) ρ) (new.take (n' * sz)) (fun j => news[j]?) := by
   rintro ⟨cs, l, f⟩ hr h
   split at h
   · rename_i hle
     simp only [Option.some.injEq, Prod.mk.injEq] at h
     obtain ⟨rfl, rfl⟩ := h
     obtain ⟨a, cap, rfl, _, _, h4, h5, h6⟩ := slView_sound hS hr hv
     refine ⟨by simp [Builtin.lenOf], by rw [List.length_take]; exact Nat.min_eq_left hle, AllOne_take h5 _, fun n' hn' => ?_⟩
     have hle' : n' * sz ≤ l * sz := Nat.mul_le_mul_right _ hn'
     obtain ⟨news, q1, q2, q3⟩ := InMem_list (P := P) (n := n') (len := l) (cap := cap) h4 (Nat.le_trans hle' hle) (fun e => by have := (h6 e).2.1; omega)
     refine ⟨news, q1, q2, ?_⟩
     rw [List.take_take, Nat.min_eq_left hle']
     exact q3
   · cases h
 unfold srcE at h
 split at h
 · rename_i b
   split at h
   · rename_i hc
     obtain ⟨c1, rfl⟩ := hc
     simp only [Option.some.injEq, Prod.mk.injEq] at h
     obtain ⟨rfl, rfl⟩ := h
     simp only [VR] at hv
     subst hv
     refine ⟨by simp [Builtin.lenOf], by rw [bytesV_length, Nat.mul_one], bytes_one b, fun n' hn' => ⟨(b.data.toList.map fun x => Value.int .u8 x.toNat).take n', ?_, ?_, ?_⟩⟩
     · simp; omega
     · simp only [Builtin.firstCells, Sem.run_pure]
       congr 1
       apply Array.ext'
       simp [ByteArray.data_extract]
     · rw [Nat.mul_one]
       refine VRs_iff.2 fun j c hj => ?_
       rw [List.getElem?_take] at hj
       split at hj
       · rename_i hlt
         obtain ⟨u, h1, h2⟩ := VRs_at (bytes_VRs (P := P) (w := w) (I := I) (ρ := kR (kindT P el) ρ) b) hj
         exact ⟨u, by rw [List.getElem?_take, if_pos hlt]; exact h1, h2⟩
       · cases hj
   · cases h
 · obtain ⟨r, hr, h⟩ := Option.bind_eq_some_iff.1 h
   exact key r hr h
theorem news_of_freeze {w1 : World} {arr : Array Value} {ty : TypeId} (h : w1.heap = w.heap ∧ w1.os = w.os ∧ w1.tape = w.tape ∧ w1.output = w.output) :
   News w ((w1.alloc (.cells arr ty)).freeze ⟨w.heap.size, arr.size, none⟩ 1) arr ty := by
 have hA := news_of_alloc (arr := arr) (ty := ty) h
 have hh : ((w1.alloc (.cells arr ty)).freeze ⟨w.heap.size, arr.size, none⟩ 1).heap[w.heap.size]? = some (.cells arr ty (arr.size, arr.size + 1)) := by
   have h2 : (w1.alloc (.cells arr ty)).heap[w.heap.size]? = some (.cells arr ty (0, 0)) := by rw [← h.1]; exact heap_alloc_new w1 _
   simp [World.freeze, Array.getElem?_modify, h2]
 refine ⟨hA.os, hA.tape, hA.output, ?_, fun g hg => ?_, ⟨_, hh⟩, fun j hj => ?_⟩
 · rw [← hA.size]; simp [World.freeze]
 · rw [← hA.same g hg]
   simp only [World.freeze, Nat.one_ne_zero, if_false]
   rw [Array.getElem?_modify, if_neg (by omega)]
 · unfold World.frozen?
   rw [hh]
   simp
   omega
theorem run_stringToBytes (el : TypeId) (s : ByteArray) : ∃ cap arr w', (Conv.stringToBytes el s).run P w = .ok (.slice (some ⟨w.heap.size, 0, none⟩) s.size cap) w' ∧ s.size ≤ cap ∧ News w w' arr el ∧ arr.size = cap ∧
   (∀ j, j < s.size → arr[j]? = (s.data.toList.map fun x => Value.int .u8 x.toNat)[j]?) ∧ ∀ v ∈ arr.toList, v.oneCell' = true := by
 obtain ⟨c, hc⟩ : ∃ c, c = (Question.appendCap s.size 0 el).cut (w.tape w.drawn (.appendCap s.size 0 el)) := ⟨_, rfl⟩
 have hge : s.size ≤ c := by rw [hc]; simp only [Question.cut]; omega
 refine ⟨c, (s.data.map fun b => Value.int .u8 b.toNat) ++ Array.replicate (c - s.size) (.int .u8 0), _, ?_, hge, news_of_freeze (w := w) (w1 := w.drew) ⟨rfl, rfl, rfl, rfl⟩, ?_, ?_, ?_⟩
 · have hsz : ((s.data.map fun (b : UInt8) => Value.int .u8 (b.toNat : Int)) ++ Array.replicate (c - s.size) (Value.int .u8 0)).size = c := by simp; omega
   have hsh := shape_of_heap (heap_alloc_new w.drew (.cells ((s.data.map fun (b : UInt8) => Value.int .u8 (b.toNat : Int)) ++ Array.replicate (c - s.size) (Value.int .u8 0)) el))
   rw [hsz] at hsh
   unfold Conv.stringToBytes
   simp only [Sem.run_bind, run_choose, Question.forced, Bool.false_eq_true, if_false, Result.andThen_ok, ← hc, newRow, run_newObj, Sem.run_map, Sem.run_pure, World.drew_eq, World.alloc_eq, World.size_drew, markStringish, run_shape, hsz, run_freeze]
   simp only [World.size_drew] at hsh
   rw [hsh]
   simp only [Sem.run_bind, run_freeze, Result.andThen_ok, Sem.run_pure]
 · simp; omega
 · intro j hj
   rw [Array.getElem?_append_left (by simpa using hj)]
   simp
 · intro v hv
   rw [Array.mem_toList_iff] at hv
   rcases Array.mem_append.1 hv with hv | hv
   · obtain ⟨b, _, rfl⟩ := Array.mem_map.1 hv
     rfl
   · rw [(Array.mem_replicate.1 hv).2]
     rfl
theorem run_bytesToString {a : Addr} {l : List Value} {n cap : Nat} (hl : (loadCells a n).run P w = .ok l.toArray w) {ns : List Int} (hb : l = ns.map fun n => Value.int .u8 n) : (Conv.bytesToString (.slice (some a) n cap)).run P w = .ok (.string ⟨(ns.map fun n => UInt8.ofNat n.toNat).toArray⟩) w := by
 have key : ∀ (ns : List Int) (s : ByteArray), (forIn (ns.map fun n => Value.int .u8 n).toArray s (fun c (r : ByteArray) => (match c with
     | .int .u8 n => pure (ForInStep.yield (r.push (UInt8.ofNat n.toNat)))
     | _ => (do
       stuck "bytesToString: byte expected"
       pure (ForInStep.yield r)) : Sem (ForInStep ByteArray)))).run P w = .ok ⟨s.data ++ (ns.map fun n => UInt8.ofNat n.toNat).toArray⟩ w := by
   intro ns
   induction ns with
   | nil => intro s; simp
   | cons b ns ih =>
     intro s
     simp only [List.map_cons, List.forIn_toArray, List.forIn_cons, Sem.run_bind, Sem.run_pure, Result.andThen_ok]
     have := ih (s.push (UInt8.ofNat b.toNat))
     simp only [List.forIn_toArray] at this
     rw [this]
     congr 1
     simp [ByteArray.push]
 subst hb
 unfold Conv.bytesToString
 simp only [Sem.run_bind, hl, Result.andThen_ok]
 refine Eq.trans (congrArg (fun r : Result ByteArray => r.andThen fun a w' => Sem.run P (pure (Value.string a)) w') (key ns ByteArray.empty)) ?_
 simp only [Result.andThen_ok, Sem.run_pure]
 congr 3
 simp [ByteArray.empty, ByteArray.emptyWithCapacity]
 rfl
theorem bytesOf_spec:∀ (cs:List AV) (bs:List UInt8) (get:Nat→Option Value),bytesOf cs=some bs→VRs P w I ρ cs get→∃ ns:List Int,ns.length=cs.length∧bs=ns.map (fun n=>UInt8.ofNat n.toNat)∧∀ j,j < cs.length→get j=(ns[j]?).map fun n => .int .u8 n
 | [],bs,get,h,hv=>by
  simp only [bytesOf,Option.some.injEq] at h
  subst h
  exact ⟨[],rfl,rfl,fun j hj=>by simp at hj⟩
 | c::cs,bs,get,h,hv=>by
  simp only [bytesOf] at h
  obtain ⟨b,hb,h⟩:=Option.bind_eq_some_iff.1 h
  obtain ⟨bs',h',rfl⟩:=Option.map_eq_some_iff.1 h
  simp only [VRs] at hv
  obtain ⟨⟨v,h0,h1⟩,h2⟩:=hv
  obtain ⟨ns,e0,e1,e2⟩:=bytesOf_spec cs bs' _ h' h2
  unfold asB at hb
  split at hb
  ·rename_i n
   simp only [Option.some.injEq] at hb
   simp only [VR] at h1
   subst h1
   refine ⟨n::ns,by simp [e0],by simp [e1,hb],fun j hj => ?_⟩
   cases j with
   | zero=>simpa using h0
   | succ j=>simpa using e2 j (by simpa using hj)
  ·cases hb
end
section
variable {P:Program} {w:World} {I:Nat→Prop} {ρ:Real} {m:Mem}
theorem Does.pur {s:Sem Value} {av:AV} {addr:Value} (hS:SR P w I ρ m) (h:Pur P w I ρ s av):Does P w I ρ m (s.run P w) id ⟨av,m,none⟩ addr:=by
 obtain ⟨v,h1,h2⟩:=h
 exact ⟨v,w,I,ρ,h1,h2,hS,Step.refl _ _ _ _,fun d y h=>by cases h⟩
theorem convE_sound (hS : SR P w I ρ m) {src dst : TypeId} {x : AV} {out : Out} (h : convE P m src dst x = some out) (hfree : ∀ b, m.next ≤ b → b < out.m.next → ρ b = none) {v : Value} (hv : VR P w I ρ x v) (addr : Value) :
   Does P w I ρ m ((Go.convert src dst v).run P w) id out addr := by
 unfold convE at h
 split at h
 · rename_i el hel
   split at h
   · rename_i s
     split at h
     · rename_i hc
       obtain ⟨hu, hss, hsz1⟩ := hc
       have hds := und_str hss
       simp only [outV, Option.some.injEq] at h
       subst h
       simp only [VR] at hv
       subst hv
       obtain ⟨cap, arr, w', h1, h2, h3, h4, h5, h6⟩ := run_stringToBytes (P := P) (w := w) el s
       have hf : ρ m.next = none := hfree m.next (Nat.le_refl _) (by simp [Mem.push])
       obtain ⟨a, b⟩ := SR_push (k := ⟨bytesV s, el, .flat, true⟩) h3 hS hf rfl (bytes_one s) (by
         simp only [if_true]
         exact VRs_congr (bytes_VRs s) fun j hj => h5 j (by rw [bytesV_length] at hj; exact hj)) h6 (fun h => by simp only at h; rw [hu] at h; cases h)
       refine ⟨.slice (some ⟨w.heap.size, 0, none⟩) s.size cap, w', I, _, ?_, ?_, a, b, fun d y h => by cases h⟩
       · simp [Go.convert, run_und hds, run_und (und_el hel), run_und (und_u8 hu), h1]
       · simp only [id, VR]
         obtain ⟨fr, hfr⟩ := h3.blk
         exact ⟨_, _, cap, el, _, 1, setR_same _ _ _, rfl, ⟨Nat.le_refl _, h2⟩, (fun h => by cases h), shape_of_heap hfr, hsz1, by omega⟩
     · cases h
   · cases h
 · rename_i hel
   have pure_case : ∀ u : Value, x = .val u → outO ((pureR P (Go.convert src dst u)).map .val) m = some out → Does P w I ρ m ((Go.convert src dst v).run P w) id out addr := by
     rintro u rfl h
     simp only [outO] at h
     obtain ⟨av, hav, rfl⟩ := Option.map_eq_some_iff.1 h
     obtain ⟨z, hz, rfl⟩ := Option.map_eq_some_iff.1 hav
     simp only [VR] at hv
     subst hv
     exact Does.pur hS ⟨z, pureR_run P _ _ hz w, by simp only [VR]⟩
   split at h
   · rename_i el hstr hsl
     split at h
     · rename_i hu
       obtain ⟨⟨cs, n, f⟩, hr, h⟩ := Option.bind_eq_some_iff.1 h
       simp only at h
       split at h
       · rename_i hle
         obtain ⟨bs, hbs, h⟩ := Option.bind_eq_some_iff.1 h
         simp only [outV, Option.some.injEq] at h
         subst h
         obtain ⟨a, cap, rfl, h1, h2, h3, h4, h5⟩ := slView_sound hS hr hv
         refine ⟨.string ⟨bs.toArray⟩, w, I, ρ, ?_, by simp only [id, VR], hS, Step.refl _ _ _ _, fun d y h => by cases h⟩
         have hsrc := und_el hsl
         have hdst := und_str hstr
         simp only [Go.convert, Sem.run_bind, run_und hsrc, run_und hdst, Result.andThen_ok, run_und (und_u8 hu)]
         cases a with
         | none =>
           obtain ⟨e1, e2, e3⟩ := h5 rfl
           subst e1; subst e2
           simp [bytesOf] at hbs
           subst hbs
           simp [Conv.bytesToString]
           rfl
         | some ad =>
           obtain ⟨news, q1, q2, q3⟩ := InMem_list (P := P) (sz := 1) (n := n) (len := n) (cap := cap) h3 (by rw [Nat.mul_one]; exact hle) (fun e => by cases e)
           rw [Nat.mul_one] at q1 q3
           have q2' : (loadCells ad n).run P w = .ok news.toArray w := by simpa [Builtin.firstCells] using q2
           obtain ⟨ns, e1, rfl, e2⟩ := bytesOf_spec _ bs _ hbs q3
           refine run_bytesToString q2' ?_
           apply List.ext_getElem?
           intro j
           have hln : (cs.take n).length = n := by simp; omega
           by_cases hj : j < n
           · rw [List.getElem?_map]
             exact e2 j (by omega)
           · rw [List.getElem?_eq_none (by omega), List.getElem?_eq_none (by simp [e1]; omega)]
       · cases h
     · cases h
   · split at h
     · exact pure_case _ rfl h
     · cases h
theorem run_zeroV {t:TypeId} {z:List Value} (h:zeroE P t=some z):∃ v,(v.cells.size=z.length∧∀ x∈v.cells,x.oneCell'=true)∧∀ w,(zeroValue t).run P w = .ok v w:=by
 obtain ⟨v,h1,h2,h3,i,h4,h5⟩:=run_zero (w:=default) h
 exact ⟨v,⟨by rw [←h2];simp,fun x hx=>oneV_one (h3 x (by rw [←h2];simpa using hx))⟩,fun w=>by simp [zeroValue,typeInfo,h4,h5]⟩
theorem SR_move (hS : SR P w I ρ m) {b : Nat} {k : Blk} (hb : m.at_ b = some k) (hw : k.wr = true) {g o : Nat} (hg : ρ b = some (g, o)) (hfree : ρ m.next = none) (off : Nat) :
   SR P w I (setR ρ m.next (g, o + off)) ((m.put b none).push ⟨k.cells.drop off, k.el, k.kind, true⟩) ∧ Step w I ρ m w I (setR ρ m.next (g, o + off)) ((m.put b none).push ⟨k.cells.drop off, k.el, k.kind, true⟩) := by
 have hext := setR_ext (ρ := ρ) (b := m.next) (x := (g, o + off)) hfree
 have hk := keeps_refl w I
 have hB := hS.blk b k g o hb hg
 have hold : ∀ b' k' x y, ((m.put b none).push ⟨k.cells.drop off, k.el, k.kind, true⟩).at_ b' = some k' → setR ρ m.next (g, o + off) b' = some (x, y) →
     (b' = m.next ∧ k' = ⟨k.cells.drop off, k.el, k.kind, true⟩ ∧ x = g ∧ y = o + off) ∨ (b' ≠ m.next ∧ b' ≠ b ∧ m.at_ b' = some k' ∧ ρ b' = some (x, y)) := by
   intro b' k' x y h1 h2
   by_cases e : b' = m.next
   · subst e
     simp [Mem.push, Mem.put] at h1
     simp [setR] at h2
     exact .inl ⟨rfl, h1.symm, h2.1.symm, h2.2.symm⟩
   · simp [Mem.push, Mem.put, e] at h1
     simp [setR, e] at h2
     exact .inr ⟨e, h1.1, h1.2, h2⟩
 refine ⟨⟨fun b' k' x y h1 h2 => ?_, fun b1 b2 k1 k2 x o1 o2 h1 h2 h3 h4 h5 => ?_, hS.lt, hS.mms.keep hk hext (fun _ _ => ⟨rfl, fun h => h⟩)⟩, ⟨rfl, rfl, rfl, Nat.le_refl _, fun _ _ _ => rfl, fun _ _ h => h, fun _ h => h, fun _ h => .inl h, hext, fun b' h1 h2 => ?_, fun x hx => ?_, by simp [Mem.push, Mem.put]⟩⟩
 · rcases hold b' k' x y h1 h2 with ⟨rfl, rfl, rfl, rfl⟩ | ⟨_, _, h3, h4⟩
   · obtain ⟨arr, fr, hh, hc⟩ := hB.cells
     refine ⟨AllOne_drop hB.one _, ⟨arr, fr, hh, ?_⟩, fun _ => hB.wr hw, (fun h => by cases h), fun _ => hB.all1 hw, fun _ => hB.nostr hw⟩
     simp only at hc ⊢
     split at hc
     · rename_i hf; rw [if_pos hf]; exact VRs_congr (VRs_drop hc off) fun j _ => by rw [Nat.add_assoc]
     · rename_i hf; rw [if_neg hf]; exact VRs_congr (VRs_drop (VRs_keep hk hext _ _ hc) off) fun j _ => by rw [Nat.add_assoc]
   · exact BR_keep hk hext (hS.blk b' k' x y h3 h4) rfl (fun hwr => ((hS.blk b' k' x y h3 h4).wr hwr).1)
 · rcases hold b1 k1 x o1 h1 h3 with ⟨rfl, rfl, rfl, rfl⟩ | ⟨n1, n2, q1, q2⟩
   · rcases hold b2 k2 _ o2 h2 h4 with ⟨rfl, _⟩ | ⟨_, n3, q3, q4⟩
     · rfl
     · exact absurd (hS.inj b b2 k k2 _ o o2 hb q3 hg q4 hw).symm n3
   · rcases hold b2 k2 x o2 h2 h4 with ⟨rfl, rfl, rfl, rfl⟩ | ⟨_, n3, q3, q4⟩
     · exact absurd (hS.inj b1 b k1 k _ o1 o q1 hb q2 hg h5) n2
     · exact hS.inj b1 b2 k1 k2 x o1 o2 q1 q3 q2 q4 h5
 · unfold setR at h2
   split at h2
   · rename_i e; subst e; simp [Mem.push, Mem.put]
   · exact absurd h1 h2
 · rcases hx with ⟨b', k', y, h1, h2, h3⟩ | hx
   · rcases hold b' k' x y h1 h3 with ⟨rfl, rfl, rfl, rfl⟩ | ⟨_, _, q3, q4⟩
     · exact .inl (.inl ⟨b, k, o, hb, hw, hg⟩)
     · exact .inl (.inl ⟨b', k', y, q3, h2, q4⟩)
   · exact .inl (.inr hx)
theorem notInt_und {t2:TypeId} (h2:notInt P t2=true):∃ d,P.underlying t2=some d∧∀ k,d ≠ .int k:=by
 unfold notInt at h2
 split at h2
 ·cases h2
 ·rename_i d hne hd
  exact ⟨d,hd,hne⟩
 ·cases h2
theorem matches_false {d:TypeDesc} (h:∀ k,d ≠ .int k):(match (generalizing:=false) d with | .int _=>true | _=>false)=false:=by
 cases d <;> first | rfl | exact absurd rfl (h _)
theorem run_append_grows {t t2 ty el : TypeId} {sz y : Nat} (hel : elE P t = some el) (h2 : notInt P t2 = true) (hsz : szE P el = some sz) (hy : byE P el = some y) {z : Value} (hz : ∀ w, (zeroValue el).run P w = .ok z w)
   {base : Option Addr} {len cap n : Nat} {xv : Value} (hlen : (Builtin.lenOf xv).run P w = .ok n w) {old news : List Value} (hnews : (Builtin.firstCells sz n xv).run P w.drew = .ok news.toArray w.drew)
   (hold : (Builtin.firstCells sz len (.slice base len cap)).run P w.drew = .ok old.toArray w.drew) (hroom : (len + n) * y ≤ 140737488355328) (hroom2 : len + n ≤ 140737488355328) (hg : cap < len + n) :
   ∃ c, len + n ≤ c ∧ (Builtin.append_ #[t, t2] ty #[.slice base len cap, xv]).run P w = .ok (.slice (some ⟨w.heap.size, 0, none⟩) (len + n) c) (w.drew.alloc (.cells (old.toArray ++ news.toArray ++ Builtin.zeroCells z.cells (c - (len + n))) el)) := by
 obtain ⟨d2, hd2, hnz⟩ := notInt_und h2
 obtain ⟨i, hi, rfl⟩ := run_info hy
 obtain ⟨c, hc⟩ : ∃ c, c = (Question.appendCap (len + n) cap el).cut (w.tape w.drawn (.appendCap (len + n) cap el)) := ⟨_, rfl⟩
 refine ⟨c, by rw [hc]; simp only [Question.cut]; omega, ?_⟩
 have hns := growslice_fits (bytes := i.bytes) hg hroom
 have hn1 : ¬ (len + n ≤ cap) := by omega
 have hn2 : ¬ (281474976710656 < Builtin.nextslicecap (len + n) cap * i.bytes) := by omega
 have hn3 : ¬ ((9223372036854775807 : Int) < (len : Int) + (n : Int)) := by omega
 have hti : ∀ w, (typeInfo el).run P w = .ok i w := fun w => by simp [typeInfo, hi]
 have hm := matches_false hnz
 simp [Builtin.append_, run_und (und_el hel), run_und hd2, run_sz hsz, hti, hlen, hn1, hn2, hn3, Question.forced, hz, hnews, hold, newRow, hm, ← hc, Array.append_assoc]
 congr 2
 apply Array.ext'
 simp [List.append_assoc]
theorem run_append_fits {t t2 ty el : TypeId} {sz : Nat} (hel : elE P t = some el) (h2 : notInt P t2 = true) (hsz : szE P el = some sz)
   {base : Option Addr} {len cap n : Nat} {xv : Value} (hlen : (Builtin.lenOf xv).run P w = .ok n w) {news : List Value} (hnews : (Builtin.firstCells sz n xv).run P w = .ok news.toArray w)
   (hfit : len + n ≤ cap) {w' : World} (hr : (match base with | some a => storeCells (a.add (len * sz)) news | none => pure () : Sem Unit).run P w = .ok () w') : (Builtin.append_ #[t, t2] ty #[.slice base len cap, xv]).run P w = .ok (.slice base (len + n) cap) w' := by
 obtain ⟨d2, hd2, hnz⟩ := notInt_und h2
 have hm := matches_false hnz
 cases base with
 | none =>
   simp at hr
   subst hr
   simp [Builtin.append_, run_und (und_el hel), run_und hd2, run_sz hsz, hlen, hfit, hnews, hm]
 | some a =>
   simp only at hr
   simp [Builtin.append_, run_und (und_el hel), run_und hd2, run_sz hsz, hlen, hfit, hnews, hm, hr]
theorem keeps_drew (w:World) (I:Nat→Prop):Keeps w w.drew I I:=⟨fun _ h=>h,fun _ _=>rfl,fun _ _ h=>h⟩
theorem VR_drew {av:AV} {v:Value} (h:VR P w I ρ av v):VR P w.drew I ρ av v:=VR_keep (keeps_drew w I) (fun _ _ h=>h) av v h
theorem SR_drew (hS:SR P w I ρ m):SR P w.drew I ρ m :=
 ⟨fun b k g o h1 h2=>BR_keep (keeps_drew w I) (fun _ _ h=>h) (hS.blk b k g o h1 h2) rfl (fun hw=>((hS.blk b k g o h1 h2).wr hw).1),hS.inj,hS.lt,hS.mms.keep (keeps_drew w I) (fun _ _ h=>h) (fun _ _=>⟨rfl,fun h=>h⟩)⟩
theorem zeroCells_size (z:Array Value) (n:Nat):(Builtin.zeroCells z n).size=n*z.size:=by simp [Builtin.zeroCells]
theorem zeroCells_one {z:Array Value} (h:∀ x∈z,x.oneCell'=true) (n:Nat):∀ x∈Builtin.zeroCells z n,x.oneCell'=true:=by
 intro x hx
 simp only [Builtin.zeroCells,Array.mem_map,Array.mem_range] at hx
 obtain ⟨i,hi,rfl⟩:=hx
 have hpos:0 < z.size:=by
  rcases Nat.eq_zero_or_pos z.size with e | e
  ·rw [e] at hi;simp at hi
  ·exact e
 rw [getElem!_pos z _ (Nat.mod_lt _ hpos)]
 exact h _ (Array.getElem_mem _)
theorem VRs_cat {as bs : List AV} {xs ys : List Value} {arr : Array Value} (hl : xs.length = as.length) (ha : VRs P w I ρ as (fun j => xs[j]?)) (hb : VRs P w I ρ bs (fun j => ys[j]?)) (hy : ys.length = bs.length) :
   VRs P w I ρ (as ++ bs) (fun j => (xs.toArray ++ ys.toArray ++ arr)[j]?) := VRs_iff.2 fun j c hj => by
 rcases Nat.lt_or_ge j as.length with h | h
 · rw [List.getElem?_append_left h] at hj
   obtain ⟨u, h1, h2⟩ := VRs_at ha hj
   exact ⟨u, by rw [Array.append_assoc, Array.getElem?_append_left (by simp; omega)]; simpa using h1, h2⟩
 · rw [List.getElem?_append_right h] at hj
   have hjb := (List.getElem?_eq_some_iff.1 hj).1
   obtain ⟨u, h1, h2⟩ := VRs_at hb hj
   refine ⟨u, ?_, h2⟩
   rw [Array.getElem?_append_left (by simp; omega), Array.getElem?_append_right (by simp; omega)]
   simp only [List.size_toArray, List.getElem?_toArray, hl]
   exact h1
theorem appE_sound (hS : SR P w I ρ m) {t t2 ty el : TypeId} (hel : elE P t = some el) (h2 : notInt P t2 = true) {s x : AV} {out : Out} (h : appE P el m s x = some out) (hfree : ∀ b, m.next ≤ b → b < out.m.next → ρ b = none)
   {sv xv : Value} (hs : VR P w I ρ s sv) (hx : VR P w I ρ x xv) (addr : Value) : Does P w I ρ m ((Builtin.append_ #[t, t2] ty #[sv, xv]).run P w) id out addr := by
 unfold appE at h
 obtain ⟨sz, hsz, h⟩ := Option.bind_eq_some_iff.1 h
 obtain ⟨y, hy, h⟩ := Option.bind_eq_some_iff.1 h
 obtain ⟨zl, hzl, h⟩ := Option.bind_eq_some_iff.1 h
 obtain ⟨⟨new, n⟩, hnew, h⟩ := Option.bind_eq_some_iff.1 h
 obtain ⟨⟨cs, len, f⟩, hsv, h⟩ := Option.bind_eq_some_iff.1 h
 simp only at h
 split at h
 · rename_i hc
   obtain ⟨c1, c2, c3⟩ := hc
   obtain ⟨z, ⟨hz0, hz1⟩, hz⟩ := run_zeroV hzl
   obtain ⟨l1, l2, l3, l4⟩ := srcE_sound hS hnew hx
   obtain ⟨_, _, _, l4'⟩ := srcE_sound (SR_drew hS) hnew (VR_drew hx)
   obtain ⟨base, cap, rfl, b1, b2, b3, b4, b5⟩ := slView_sound hS hsv hs
   have hnewt : new.take (n * sz) = new := by rw [← l2]; exact List.take_length
   -- growing
   have grow : cap < len + n → len * sz ≤ cs.length → ∀ (m1 : Mem), m1.next = m.next → SR P w I ρ m1 → Step w I ρ m w I ρ m1 → ρ m.next = none →
       Does P w I ρ m ((Builtin.append_ #[t, t2] ty #[.slice base len cap, xv]).run P w) id ⟨.sl m1.next 0 (len + n) (len + n) false, m1.push ⟨cs.take (len * sz) ++ new, el, kindT P el, true⟩, none⟩ addr := by
     intro hg hlc m1 hm1 hS1 hst hf
     obtain ⟨news, n1, n2, n3⟩ := l4' n (Nat.le_refl _)
     have hin : InMem P w.drew I (kR (kindT P el) ρ) base cs := by
       cases base with
       | none => exact b3
       | some ad => exact ⟨b3.1, VRs_keep (keeps_drew w I) (fun _ _ h => h) _ _ b3.2⟩
     obtain ⟨old, o1, o2, o3⟩ := InMem_list (P := P) (sz := sz) (n := len) (len := len) (cap := cap) hin hlc (fun e => (b5 e).2.1)
     obtain ⟨c, hc1, hrun⟩ := run_append_grows (ty := ty) hel h2 hsz hy hz l1 n2 o2 c1 c2 hg
     have hA := news_of_alloc (w := w) (w1 := w.drew) (arr := old.toArray ++ news.toArray ++ Builtin.zeroCells z.cells (c - (len + n))) (ty := el) ⟨rfl, rfl, rfl, rfl⟩
     have hlt : (cs.take (len * sz)).length = len * sz := by simp; omega
     rw [hnewt] at n3
     obtain ⟨a, b⟩ := SR_push (k := ⟨cs.take (len * sz) ++ new, el, kindT P el, true⟩) hA hS1 (by rw [hm1]; exact hf) rfl (AllOne_append (AllOne_take b4 _) l3) (by
       exact VRs_keep (⟨fun _ h => h, fun _ _ => rfl, fun _ _ h => h⟩ : Keeps w.drew w I I) (fun _ _ h => h) _ _ (VRs_cat (by rw [o1, hlt]) o3 n3 (by rw [n1, l2]))) (fun x hx => by
       rw [Array.mem_toList_iff] at hx
       rcases Array.mem_append.1 hx with hx | hx
       · rcases Array.mem_append.1 hx with hx | hx
         · exact VRs_one (P := P) (w := w.drew) (I := I) (ρ := kR (kindT P el) ρ) (AllOne_take b4 (len * sz)) (by rw [o1, hlt]) o3 x (by simpa using hx)
         · exact VRs_one (P := P) (w := w.drew) (I := I) (ρ := kR (kindT P el) ρ) l3 (by rw [n1, l2]) n3 x (by simpa using hx)
       · exact zeroCells_one hz1 _ x hx) (fun _ => alloc_free (w1 := w.drew) _ _)
     refine ⟨_, _, _, _, hrun, ?_, a, hst.trans b, fun d y h => by cases h⟩
     simp only [id, VR]
     obtain ⟨fr, hfr⟩ := hA.blk
     refine ⟨_, _, c, el, _, sz, setR_same _ _ _, rfl, ⟨Nat.le_refl _, hc1⟩, (fun h => by cases h), shape_of_heap hfr, hsz, ?_⟩
     simp only [Array.size_append, List.size_toArray, zeroCells_size, o1, n1, hz0, c3]
     rw [← Nat.add_mul, ← Nat.add_mul]
     have : len + n + (c - (len + n)) = c := by omega
     rw [this]
     omega
   split at h
   · rename_i hf
     have hcap : cap = len := b2 hf
     split at h
     · rename_i hn0
       simp only [outV, Option.some.injEq] at h
       subst h
       subst hn0
       obtain ⟨news, n1, n2, n3⟩ := l4 0 (Nat.le_refl _)
       have hnil : news = [] := List.eq_nil_of_length_eq_zero (by rw [n1, Nat.zero_mul])
       subst hnil
       have hrun := run_append_fits (P := P) (w := w) (ty := ty) hel h2 hsz l1 n2 (base := base) (len := len) (cap := cap) (by omega) (w' := w) (by cases base <;> rfl)
       exact ⟨_, w, I, ρ, hrun, hs, hS, Step.refl _ _ _ _, fun d y h => by cases h⟩
     · rename_i hn0
       split at h
       · rename_i hlc
         simp only [outV, Option.some.injEq] at h
         subst h
         exact grow (by omega) hlc m rfl hS (Step.refl _ _ _ _) (hfree m.next (Nat.le_refl _) (by simp [Mem.push]))
       · cases h
   · split at h
     · rename_i htight
       split at h
       · rename_i hlc
         simp only [outV, Option.some.injEq] at h
         subst h
         refine grow ?_ hlc m rfl hS (Step.refl _ _ _ _) (hfree m.next (Nat.le_refl _) (by simp [Mem.push]))
         unfold tight at htight
         split at htight
         · simp only [VR] at hs
           obtain ⟨g, o, cap', ty', n', s', hb, heq, ⟨hl1, hl2⟩, hl3, hrest⟩ := hs
           simp only [Value.slice.injEq] at heq
           simp only [decide_eq_true_eq] at htight
           have := hl3 trivial
           omega
         · cases htight
       · cases h
     cases s with
     | sl b off len' c' f' =>
       simp only at h
       obtain ⟨k, hk, h⟩ := Option.bind_eq_some_iff.1 h
       split at h
       · rename_i hc'
         obtain ⟨d1, d2, d3⟩ := hc'
         simp only [outV, Option.some.injEq] at h
         subst h
         simp only [slView, hk] at hsv
         obtain ⟨kc, ke, kk, kw⟩ := k
         simp only at d1 d2 d3 hsv
         subst d1; subst d2
         split at hsv
         case isFalse => cases hsv
         case isTrue hkk =>
           subst hkk
           simp only [Option.some.injEq, Prod.mk.injEq] at hsv
           obtain ⟨rfl, rfl, rfl⟩ := hsv
           have hcl : (kc.drop off).length = len' * sz := by simp; omega
           have htk : (kc.drop off).take (len' * sz) = kc.drop off := by rw [← hcl]; exact List.take_length
           have hfr : ρ m.next = none := hfree m.next (Nat.le_refl _) (by simp [Mem.push, Mem.put])
           rcases Nat.lt_or_ge cap (len' + n) with hg | hfit
           · obtain ⟨e1, e2⟩ := SR_drop hS b
             have := grow hg (by omega) (m.put b none) rfl e1 e2 hfr
             rw [htk] at this
             exact this
           · simp only [VR] at hs
             obtain ⟨g, o, cap', ty', n', s', hb, heq, ⟨hl1, hl2⟩, hl3, hsh, hss, hroom⟩ := hs
             simp only [Value.slice.injEq] at heq
             obtain ⟨rfl, _, rfl⟩ := heq
             have hB := hS.blk b _ g o hk hb
             obtain ⟨arr, fr, hh, hcells⟩ := hB.cells
             have hty := shape_of_heap hh
             rw [hsh] at hty
             simp only [Option.some.injEq, Prod.mk.injEq] at hty
             obtain ⟨ht1, ht2⟩ := hty
             rw [ht1] at hss hsh
             rw [ht2] at hsh hroom
             rw [hsz, Option.some.injEq] at hss
             subst hss
             obtain ⟨news, n1, n2, n3⟩ := l4 n (Nat.le_refl _)
             rw [hnewt] at n3
             have hle : (len' + n) * sz ≤ cap * sz := Nat.mul_le_mul_right _ hfit
             rw [Nat.add_mul] at hle
             have hone := VRs_one (P := P) (w := w) (I := I) (ρ := kR (kindT P ke) ρ) l3 (by rw [n1, l2]) n3
             have hw1 := run_write (P := P) (w := w) (o := o + off + len' * sz) (vs := news) hh (frozen_of_wr hB rfl hh) (by rw [n1]; omega) hone
             have hrun := run_append_fits (P := P) (w := w) (ty := ty) hel h2 hsz l1 n2 (base := some ⟨g, o + off, none⟩) (len := len') (cap := cap) hfit (by simpa only [Addr.add_lit] using hw1)
             obtain ⟨s1, s2⟩ := SR_write (k' := ⟨kc ++ new, ke, kindT P ke, true⟩) hS hk rfl hb (vs := news) (p := o + off + len' * sz) ⟨rfl, rfl, AllOne_append hB.one l3⟩ hone (fun arr0 fr0 e0 hc0 arr' e1 e2 => by
               simp only at hc0 ⊢
               rw [hh] at e0
               simp only [Option.some.injEq, Obj.cells.injEq] at e0
               obtain ⟨rfl, _, _⟩ := e0
               refine VRs_iff.2 fun j c hj => ?_
               simp only [e2]
               rcases Nat.lt_or_ge j kc.length with hlt | hge
               · rw [List.getElem?_append_left hlt] at hj
                 rw [if_neg (by omega)]
                 exact VRs_at hc0 hj
               · rw [List.getElem?_append_right hge] at hj
                 have hjb := (List.getElem?_eq_some_iff.1 hj).1
                 obtain ⟨u, h1, h2⟩ := VRs_at n3 hj
                 rw [if_pos (by omega)]
                 exact ⟨u, by rw [show o + j - (o + off + len' * sz) = j - kc.length by omega]; exact h1, h2⟩)
             obtain ⟨s3, s4⟩ := SR_move s1 (b := b) (k := ⟨kc ++ new, ke, kindT P ke, true⟩) (by simp [Mem.put]) rfl hb hfr off
             have hmem : ((m.put b (some ⟨kc ++ new, ke, kindT P ke, true⟩)).put b none).push ⟨(kc ++ new).drop off, ke, kindT P ke, true⟩ = (m.put b none).push ⟨kc.drop off ++ new, ke, kindT P ke, true⟩ := by
               have e1 : (m.put b (some ⟨kc ++ new, ke, kindT P ke, true⟩)).put b none = m.put b none := by
                 simp only [Mem.put, Mem.mk.injEq, true_and, and_true]
                 funext j
                 by_cases e : j = b <;> simp [e]
               rw [e1, List.drop_append_of_le_length (by omega)]
             simp only at s3 s4
             rw [hmem] at s3 s4
             refine ⟨_, _, _, _, hrun, ?_, s3, s2.trans s4, fun d y h => by cases h⟩
             simp only [id, VR]
             refine ⟨g, o + off, cap, ke, arr.size, sz, setR_same _ _ _, rfl, ⟨Nat.le_refl _, hfit⟩, (fun h => by cases h), ?_, hsz, by omega⟩
             exact s2.shape _ _ hsh
       · split at h
         · rename_i hc2
           obtain ⟨d1, d2, d3, d4⟩ := hc2
           simp only [outV, Option.some.injEq] at h
           subst h
           simp only [slView, hk] at hsv
           obtain ⟨kc, ke, kk, kw⟩ := k
           simp only at d1 d2 d4 hsv
           subst d1; subst d2
           split at hsv
           case isFalse => cases hsv
           case isTrue hkk =>
             subst hkk
             simp only [Option.some.injEq, Prod.mk.injEq] at hsv
             obtain ⟨rfl, rfl, rfl⟩ := hsv
             simp only [VR] at hs
             obtain ⟨g, o, cap', ty', n', s', hb, heq, ⟨hl1, hl2⟩, hl3, hsh, hss, hroom⟩ := hs
             simp only [Value.slice.injEq] at heq
             obtain ⟨rfl, _, rfl⟩ := heq
             have hfit : len' + n ≤ cap := Nat.le_trans d3 hl2
             have hB := hS.blk b _ g o hk hb
             obtain ⟨arr, fr, hh, hcells⟩ := hB.cells
             obtain ⟨news, n1, n2, n3⟩ := l4 n (Nat.le_refl _)
             rw [hnewt] at n3
             have hone := VRs_one (P := P) (w := w) (I := I) (ρ := kR (kindT P ke) ρ) l3 (by rw [n1, l2]) n3
             have hcells' : VRs P w I (kR (kindT P ke) ρ) kc (fun j => arr[o + j]?) := hcells
             have hsz' : o + off + len' * sz + news.length ≤ arr.size := by
               rw [n1]
               rw [Nat.add_mul] at d4
               have hty := shape_of_heap hh
               rw [hsh] at hty
               simp only [Option.some.injEq, Prod.mk.injEq] at hty
               rcases Nat.eq_zero_or_pos (n * sz) with h0 | h0
               · rcases Nat.eq_zero_or_pos (len' * sz) with h1 | h1
                 · omega
                 · obtain ⟨u, hu⟩ := VRs_len hcells' (j := off + len' * sz - 1) (by omega)
                   have := (Array.getElem?_eq_some_iff.1 hu).1
                   omega
               · obtain ⟨u, hu⟩ := VRs_len hcells' (j := off + len' * sz + n * sz - 1) (by omega)
                 have := (Array.getElem?_eq_some_iff.1 hu).1
                 omega
             have hw1 := run_write (P := P) (w := w) (o := o + off + len' * sz) (vs := news) hh (frozen_of_wr hB rfl hh) hsz' hone
             have hrun := run_append_fits (P := P) (w := w) (ty := ty) hel h2 hsz l1 n2 (base := some ⟨g, o + off, none⟩) (len := len') (cap := cap) hfit (by simpa only [Addr.add_lit] using hw1)
             obtain ⟨s1, s2⟩ := SR_write (k' := ⟨splice kc (off + len' * sz) new, ke, kindT P ke, true⟩) hS hk rfl hb (vs := news) (p := o + off + len' * sz) ⟨rfl, rfl, AllOne_splice hB.one l3 _⟩ hone (fun arr0 fr0 e0 hc0 arr' e1 e2 => by
               simp only at hc0 ⊢
               exact splice_VRs (by omega) (by rw [l2]; rw [Nat.add_mul] at d4; omega) (by rw [n1, l2]) hc0 n3 e2)
             refine ⟨_, _, _, _, hrun, ?_, s1, s2, fun d y h => by cases h⟩
             simp only [id, VR]
             exact ⟨g, o, cap, ty', n', s', hb, rfl, ⟨d3, hl2⟩, hl3, s2.shape _ _ hsh, hss, hroom⟩
         · cases h
     | _ => simp at h
 · cases h
theorem zcells_spec {el : TypeId} {zl : List Value} (hz : zeroE P el = some zl) {sz : Nat} (hl : zl.length = sz) (n : Nat) : ∃ v, v.cells.size = sz ∧ (∀ w, (zeroValue el).run P w = .ok v w) ∧
   (zcells zl (n * sz)).length = n * sz ∧ (Builtin.zeroCells v.cells n).size = n * sz ∧ AllOne (zcells zl (n * sz)) ∧ (∀ x ∈ Builtin.zeroCells v.cells n, x.oneCell' = true) ∧ ∀ w I ρ, VRs P w I ρ (zcells zl (n * sz)) (fun j => (Builtin.zeroCells v.cells n)[j]?) := by
 obtain ⟨v, h1, h2, h3, i, h4, h5⟩ := run_zero (w := default) hz
 have hv : v.cells.size = sz := by rw [← hl, ← h2]; simp
 refine ⟨v, hv, fun w => by simp [zeroValue, typeInfo, h4, h5], by simp [zcells], by rw [zeroCells_size, hv], fun c hc => ?_, zeroCells_one (fun x hx => oneV_one (h3 x (by rw [← h2]; simpa using hx))) n, fun w I ρ => VRs_iff.2 fun j c hj => ?_⟩
 · obtain ⟨i, hi, rfl⟩ := List.mem_map.1 hc
   have hpos : 0 < zl.length := by
     rcases Nat.eq_zero_or_pos zl.length with e | e
     · rw [hl] at e; subst e; simp at hi
     · exact e
   refine oneA_val (h3 _ ?_)
   rw [List.getD_eq_getElem?_getD, List.getElem?_eq_getElem (Nat.mod_lt _ hpos)]
   exact List.getElem_mem _
 · unfold zcells at hj
   rw [List.getElem?_map] at hj
   obtain ⟨i, hi, rfl⟩ := Option.map_eq_some_iff.1 hj
   have hlt : j < n * sz := by have := (List.getElem?_eq_some_iff.1 hi).1; simpa using this
   have hij : i = j := by simp [hlt] at hi; exact hi.symm
   subst hij
   have hpos : 0 < sz := by
     rcases Nat.eq_zero_or_pos sz with e | e
     · subst e; simp at hlt
     · exact e
   refine ⟨v.cells[i % v.cells.size]!, by simp [Builtin.zeroCells, hv, hlt], ?_⟩
   simp only [VR]
   have hm : i % sz < v.cells.size := by rw [hv]; exact Nat.mod_lt _ hpos
   rw [hv, getElem!_pos v.cells _ hm, List.getD_eq_getElem?_getD, hl, ← h2]
   simp [hm]
theorem isInt_und {t2:TypeId} (h2:isInt P t2=true):∃ k,P.underlying t2=some (.int k):=by
 unfold isInt at h2
 split at h2
 ·rename_i k hk;exact ⟨k,hk⟩
 ·cases h2
theorem run_append_zeros {t t2 ty el : TypeId} {sz y : Nat} (hel : elE P t = some el) (h2 : isInt P t2 = true) (hsz : szE P el = some sz) (hy : byE P el = some y) {z : Value} (hz : ∀ w, (zeroValue el).run P w = .ok z w) (hzs : z.cells.size = sz)
   {base : Option Addr} {len cap n : Nat} {k : IntKind} {old : List Value} (hn0 : n ≠ 0)
   (hold : (Builtin.firstCells sz len (.slice base len cap)).run P w.drew = .ok old.toArray w.drew) (hroom : (len + n) * y ≤ 140737488355328) (hroom2 : len + n ≤ 140737488355328) (hg : cap < len + n) :
   ∃ c, len + n ≤ c ∧ (Builtin.append_ #[t, t2] ty #[.slice base len cap, .int k n]).run P w = .ok (.slice (some ⟨w.heap.size, 0, none⟩) (len + n) c) (w.drew.alloc (.cells (old.toArray ++ Builtin.zeroCells z.cells n ++ Builtin.zeroCells z.cells (c - (len + n))) el)) := by
 obtain ⟨k2, hd2⟩ := isInt_und h2
 obtain ⟨i, hi, rfl⟩ := run_info hy
 obtain ⟨c, hc⟩ : ∃ c, c = (Question.appendCap (len + n) cap el).cut (w.tape w.drawn (.appendCap (len + n) cap el)) := ⟨_, rfl⟩
 refine ⟨c, by rw [hc]; simp only [Question.cut]; omega, ?_⟩
 have hns := growslice_fits (bytes := i.bytes) hg hroom
 have hn1 : ¬ (len + n ≤ cap) := by omega
 have hn2 : ¬ (281474976710656 < Builtin.nextslicecap (len + n) cap * i.bytes) := by omega
 have hn3 : ¬ ((9223372036854775807 : Int) < (len : Int) + (n : Int)) := by omega
 have hti : ∀ w, (typeInfo el).run P w = .ok i w := fun w => by simp [typeInfo, hi]
 have hw : IntKind.i64.wrap (n : Int) = n := by rw [IntKind.wrap_i64]; omega
 have hn4 : ¬ ((n : Int) < 0) := by omega
 have hnb : n * i.bytes ≤ 140737488355328 := Nat.le_trans (Nat.mul_le_mul_right _ (Nat.le_add_left n len)) hroom
 have hn5 : ¬ ((281474976710656 : Int) < (n : Int) * (i.bytes : Int)) := by
   have : ((n * i.bytes : Nat) : Int) ≤ 140737488355328 := by omega
   rw [Int.natCast_mul] at this
   omega
 by_cases h0 : n * sz = 0
 · have hsz0 : sz = 0 := by
     rcases Nat.mul_eq_zero.1 h0 with e | e
     · exact absurd e hn0
     · exact e
   have hzc : ∀ k, Builtin.zeroCells z.cells k = #[] := fun k => by simp [Builtin.zeroCells, hzs, hsz0]
   simp [Builtin.append_, run_und (und_el hel), run_und hd2, run_sz hsz, hti, hn1, hn2, hn3, hn4, hn5, Question.forced, hz, hold, newRow, ← hc, Array.append_assoc, asInt, asIntOf, hw, h0, hzc]
 · have h0' : ¬ (n = 0 ∨ sz = 0) := fun h => h0 (Nat.mul_eq_zero.2 h)
   simp [Builtin.append_, run_und (und_el hel), run_und hd2, run_sz hsz, hti, hn1, hn2, hn3, hn4, hn5, Question.forced, hz, hold, newRow, ← hc, Array.append_assoc, asInt, asIntOf, hw, h0']
   exact fun h => absurd h h0
theorem appZ_sound (hS : SR P w I ρ m) {t t2 ty el : TypeId} (hel : elE P t = some el) (h2 : isInt P t2 = true) {s : AV} {n : Nat} {k : IntKind} {out : Out} (h : appZ P el m s n = some out) (hfree : ∀ b, m.next ≤ b → b < out.m.next → ρ b = none)
   {sv : Value} (hs : VR P w I ρ s sv) (addr : Value) : Does P w I ρ m ((Builtin.append_ #[t, t2] ty #[sv, .int k n]).run P w) id out addr := by
 unfold appZ at h
 obtain ⟨sz, hsz, h⟩ := Option.bind_eq_some_iff.1 h
 obtain ⟨y, hy, h⟩ := Option.bind_eq_some_iff.1 h
 obtain ⟨zl, hzl, h⟩ := Option.bind_eq_some_iff.1 h
 obtain ⟨⟨cs, len, f⟩, hsv, h⟩ := Option.bind_eq_some_iff.1 h
 simp only at h
 split at h
 · rename_i hc
   obtain ⟨c1, c2, c3, c4, c5, hlc⟩ := hc
   simp only [outV, Option.some.injEq] at h
   subst h
   obtain ⟨z, hz0, hz, q1, q2, q3, q4, q5⟩ := zcells_spec hzl c3 n
   obtain ⟨base, cap, rfl, b1, b2, b3, b4, b5⟩ := slView_sound hS hsv hs
   have hg : cap < len + n := by
     rcases c5 with c5 | c5
     · have := b2 c5; omega
     · unfold tight at c5
       split at c5
       · simp only [VR] at hs
         obtain ⟨g, o, cap', ty', n', s', hb, heq, ⟨hl1, hl2⟩, hl3, hrest⟩ := hs
         simp only [Value.slice.injEq] at heq
         simp only [decide_eq_true_eq] at c5
         have := hl3 trivial
         omega
       · cases c5
   have hin : InMem P w.drew I (kR (kindT P el) ρ) base cs := by
     cases base with
     | none => exact b3
     | some ad => exact ⟨b3.1, VRs_keep (keeps_drew w I) (fun _ _ h => h) _ _ b3.2⟩
   obtain ⟨old, o1, o2, o3⟩ := InMem_list (P := P) (sz := sz) (n := len) (len := len) (cap := cap) hin hlc (fun e => (b5 e).2.1)
   obtain ⟨c, hc1, hrun⟩ := run_append_zeros (k := k) (ty := ty) hel h2 hsz hy hz hz0 c4 o2 c1 c2 hg
   have hA := news_of_alloc (w := w) (w1 := w.drew) (arr := old.toArray ++ Builtin.zeroCells z.cells n ++ Builtin.zeroCells z.cells (c - (len + n))) (ty := el) ⟨rfl, rfl, rfl, rfl⟩
   have hlt : (cs.take (len * sz)).length = len * sz := by simp; omega
   have hzl' : (Builtin.zeroCells z.cells n).toList.toArray = Builtin.zeroCells z.cells n := by simp
   obtain ⟨a, b⟩ := SR_push (k := ⟨cs.take (len * sz) ++ zcells zl (n * sz), el, kindT P el, true⟩) hA hS (hfree m.next (Nat.le_refl _) (by simp [Mem.push])) rfl (AllOne_append (AllOne_take b4 _) q3) (by
     simp only [if_true]
     have := VRs_cat (P := P) (w := w.drew) (I := I) (ρ := (kR (kindT P el) ρ)) (arr := Builtin.zeroCells z.cells (c - (len + n))) (ys := (Builtin.zeroCells z.cells n).toList) (by rw [o1, hlt]) o3 (by simpa using q5 w.drew I (kR (kindT P el) ρ)) (by rw [Array.length_toList, q2, q1])
     rw [hzl'] at this
     exact VRs_keep (⟨fun _ h => h, fun _ _ => rfl, fun _ _ h => h⟩ : Keeps w.drew w I I) (fun _ _ h => h) _ _ this) (fun x hx => by
     rw [Array.mem_toList_iff] at hx
     rcases Array.mem_append.1 hx with hx | hx
     · rcases Array.mem_append.1 hx with hx | hx
       · exact VRs_one (P := P) (w := w.drew) (I := I) (ρ := kR (kindT P el) ρ) (AllOne_take b4 (len * sz)) (by rw [o1, hlt]) o3 x (by simpa using hx)
       · exact q4 x hx
     · refine zeroCells_one (fun x hx => ?_) _ x hx
       obtain ⟨v', e1, e2⟩ := run_zeroV hzl
       have : v' = z := by have h1 := e2 w; have h2 := hz w; rw [h1] at h2; simp at h2; exact h2
       subst this
       exact e1.2 x hx) (fun _ => alloc_free (w1 := w.drew) _ _)
   refine ⟨_, _, _, _, hrun, ?_, a, b, fun d y h => by cases h⟩
   simp only [id, VR]
   obtain ⟨fr, hfr⟩ := hA.blk
   refine ⟨_, _, c, el, _, sz, setR_same _ _ _, rfl, ⟨Nat.le_refl _, hc1⟩, (fun h => by cases h), shape_of_heap hfr, hsz, ?_⟩
   simp only [Array.size_append, List.size_toArray, zeroCells_size, o1, hz0]
   rw [← Nat.add_mul, ← Nat.add_mul]
   have : len + n + (c - (len + n)) = c := by omega
   rw [this]
   omega
 · cases h
end
section
variable {P:Program} {w:World} {I:Nat→Prop} {ρ:Real} {m:Mem}
theorem run_copy {t : TypeId} {ts : List TypeId} {ty el : TypeId} {sz n len cap : Nat} {base : Option Addr} {xv : Value} (hel : elE P t = some el) (hsz : szE P el = some sz) (hlen : (Builtin.lenOf xv).run P w = .ok n w) {news : List Value}
   (hnews : (Builtin.firstCells sz (min n len) xv).run P w = .ok news.toArray w) {w' : World} (hr : (match base with | some a => storeCells a news | none => pure () : Sem Unit).run P w = .ok () w') :
   (Builtin.copy_ (t :: ts).toArray ty #[.slice base len cap, xv]).run P w = .ok (.int .i64 ((min n len : Nat) : Int)) w' := by
 have h0 : (t :: ts).toArray[0]? = some t := by simp
 unfold Builtin.copy_
 simp only [h0]
 cases base with
 | none =>
   simp only [Sem.run_pure, Result.ok.injEq, true_and] at hr
   subst hr
   simp [run_und (und_el hel), hlen, run_sz hsz, hnews, goInt]
 | some a =>
   simp only at hr
   simp [run_und (und_el hel), hlen, run_sz hsz, hnews, hr, goInt]
theorem capE_sound (hS : SR P w I ρ m) {t ty el : TypeId} (hel : elE P t = some el) {x av : AV} (h : capE x = some av) {v : Value} (hv : VR P w I ρ x v) (addr : Value) :
   Does P w I ρ m ((Builtin.cap_ #[t] ty #[v]).run P w) id ⟨av, m, none⟩ addr := by
 have fin : ∀ {a : Option Addr} {n c : Nat}, v = .slice a n c → av = intV c → Does P w I ρ m ((Builtin.cap_ #[t] ty #[v]).run P w) id ⟨av, m, none⟩ addr := by
   rintro a n c rfl rfl
   exact ⟨.int .i64 c, w, I, ρ, by simp [Builtin.cap_, run_und (und_el hel), goInt], by simp only [id, intV, VR], hS, Step.refl _ _ _ _, fun d y h => by cases h⟩
 unfold capE at h
 split at h
 · simp only [Option.some.injEq] at h; subst h
   simp only [VR] at hv
   exact fin hv rfl
 · simp only [Option.some.injEq] at h; subst h
   simp only [VR] at hv
   obtain ⟨g, o, cap, rfl, _, _, hf, _⟩ := hv
   exact fin rfl (by rw [hf trivial])
 · simp only [Option.some.injEq] at h; subst h
   simp only [VR] at hv
   obtain ⟨ad, cap, rfl, _, hf⟩ := hv
   exact fin rfl (by rw [hf trivial])
 · simp only [Option.some.injEq] at h; subst h
   simp only [VR] at hv
   obtain ⟨g, o, cap, ty, n, s, _, rfl, _, hf, _⟩ := hv
   exact fin rfl (by rw [hf trivial])
 · cases h
theorem clearE_sound (hS : SR P w I ρ m) {t ty el : TypeId} (hel : elE P t = some el) {x : AV} {out : Out} (h : clearE P el m x = some out) {v : Value} (hv : VR P w I ρ x v) (addr : Value) :
   Does P w I ρ m ((Builtin.clear_ #[t] ty #[v]).run P w) id out addr := by
 have none : ∀ {a : Option Addr} {c : Nat}, v = .slice a 0 c → outV undefA m = some out → Does P w I ρ m ((Builtin.clear_ #[t] ty #[v]).run P w) id out addr := by
   rintro a c rfl h
   simp only [outV, Option.some.injEq] at h; subst h
   exact ⟨.tuple #[], w, I, ρ, by cases a <;> simp [Builtin.clear_, run_und (und_el hel)], by simp only [id, undefA, VR], hS, Step.refl _ _ _ _, fun d y h => by cases h⟩
 unfold clearE at h
 split at h
 · simp only [VR] at hv
   exact none hv h
 · simp only [VR] at hv
   obtain ⟨ad, cap, rfl, _⟩ := hv
   exact none rfl h
 · rename_i b off len c f
   split at h
   · rename_i h0
     subst h0
     simp only [VR] at hv
     obtain ⟨g, o, cap, ty, n, s, _, rfl, _⟩ := hv
     exact none rfl h
   · rename_i h0
     obtain ⟨sz, hsz, h⟩ := Option.bind_eq_some_iff.1 h
     obtain ⟨zl, hzl, h⟩ := Option.bind_eq_some_iff.1 h
     obtain ⟨k, hk, h⟩ := Option.bind_eq_some_iff.1 h
     split at h
     · rename_i hc
       obtain ⟨c1, c2, c3, c4⟩ := hc
       simp only [outV, Option.some.injEq] at h
       subst h
       simp only [VR] at hv
       obtain ⟨g, o, cap, ty', n', s', hb, rfl, hl, hf, hsh, hss, hroom⟩ := hv
       have hB := hS.blk b k g o hk hb
       obtain ⟨arr, fr, hh, hcells⟩ := hB.cells
       obtain ⟨z, hz0, hz, q1, q2, q3, q4, q5⟩ := zcells_spec hzl c3 len
       have hvl : (Builtin.zeroCells z.cells len).toList.length = (zcells zl (len * sz)).length := by rw [Array.length_toList, q2, q1]
       have hone : ∀ x ∈ (Builtin.zeroCells z.cells len).toList, x.oneCell' = true := fun x hx => q4 x (by simpa using hx)
       have hsz' : o + off + (Builtin.zeroCells z.cells len).toList.length ≤ arr.size := by
         rw [hvl, q1]
         rcases Nat.eq_zero_or_pos (len * sz) with e | e
         · rw [e]
           have hty := shape_of_heap hh
           rw [hsh] at hty
           simp only [Option.some.injEq, Prod.mk.injEq] at hty
           omega
         · obtain ⟨u, hu⟩ := VRs_len hcells (j := off + len * sz - 1) (by omega)
           have := (Array.getElem?_eq_some_iff.1 hu).1
           omega
       have hw1 := run_write (P := P) (w := w) (o := o + off) (vs := (Builtin.zeroCells z.cells len).toList) hh (frozen_of_wr hB c2 hh) hsz' hone
       obtain ⟨s1, s2⟩ := SR_write (k' := ⟨splice k.cells off (zcells zl (len * sz)), k.el, k.kind, true⟩) hS hk c2 hb (vs := (Builtin.zeroCells z.cells len).toList) (p := o + off) ⟨rfl, rfl, AllOne_splice hB.one q3 _⟩ hone (fun arr0 fr0 e0 hc0 arr' e1 e2 => by
         simp only at hc0 ⊢
         exact splice_VRs rfl (by rw [q1]; omega) hvl hc0 (by simpa using q5 w I _) e2)
       refine ⟨.tuple #[], _, _, _, ?_, by simp only [id, undefA, VR], s1, s2, fun d y h => by cases h⟩
       match len, h0, hw1 with
       | len + 1, _, hw1 => simp [Builtin.clear_, run_und (und_el hel), hz, hw1]
     · cases h
 · cases h
theorem copyE_sound (hS : SR P w I ρ m) {t : TypeId} {ts : List TypeId} {ty el : TypeId} (hel : elE P t = some el) {d x : AV} {out : Out} (h : copyE P el m d x = some out) {dv xv : Value} (hd : VR P w I ρ d dv) (hx : VR P w I ρ x xv) (addr : Value) :
   Does P w I ρ m ((Builtin.copy_ (t :: ts).toArray ty #[dv, xv]).run P w) id out addr := by
 unfold copyE at h
 obtain ⟨sz, hsz, h⟩ := Option.bind_eq_some_iff.1 h
 obtain ⟨⟨new, n⟩, hnew, h⟩ := Option.bind_eq_some_iff.1 h
 obtain ⟨l1, l2, l3, l4⟩ := srcE_sound hS hnew hx
 have zero : ∀ {base : Option Addr} {len cap : Nat}, min n len = 0 → Does P w I ρ m ((Builtin.copy_ (t :: ts).toArray ty #[.slice base len cap, xv]).run P w) id ⟨intV 0, m, none⟩ addr := by
   intro base len cap h0
   obtain ⟨news, n1, n2, n3⟩ := l4 0 (Nat.zero_le _)
   have hnil : news = [] := List.eq_nil_of_length_eq_zero (by rw [n1, Nat.zero_mul])
   subst hnil
   have := run_copy (P := P) (w := w) (t := t) (ts := ts) (ty := ty) (base := base) (len := len) (cap := cap) hel hsz l1 (by rw [h0]; exact n2) (w' := w) (by cases base <;> rfl)
   rw [h0] at this
   exact ⟨_, w, I, ρ, this, by simp only [id, intV, VR]; rfl, hS, Step.refl _ _ _ _, fun d y h => by cases h⟩
 have other : ((slView (kindT P el) m d).bind fun r => if min n r.2.1 = 0 then outV (intV 0) m else none) = some out → Does P w I ρ m ((Builtin.copy_ (t :: ts).toArray ty #[dv, xv]).run P w) id out addr := by
   intro h
   obtain ⟨⟨cs, len, f⟩, hr, h⟩ := Option.bind_eq_some_iff.1 h
   simp only at h
   split at h
   · rename_i h0
     simp only [outV, Option.some.injEq] at h
     subst h
     obtain ⟨a, cap, rfl, _⟩ := slView_sound hS hr hd
     exact zero h0
   · cases h
 cases d with
 | sl b off len c f =>
   simp only at h
   obtain ⟨k, hk, h⟩ := Option.bind_eq_some_iff.1 h
   split at h
   · rename_i hc
     obtain ⟨c1, c2, c3⟩ := hc
     simp only [outV, Option.some.injEq] at h
     subst h
     simp only [VR] at hd
     obtain ⟨g, o, cap, ty', n', s', hb, rfl, hl, hf, hsh, hss, hroom⟩ := hd
     have hB := hS.blk b k g o hk hb
     obtain ⟨arr, fr, hh, hcells⟩ := hB.cells
     have hmn : min n len ≤ n := Nat.min_le_left _ _
     have hml : min n len * sz ≤ len * sz := Nat.mul_le_mul_right _ (Nat.min_le_right _ _)
     have hmn' : min n len * sz ≤ n * sz := Nat.mul_le_mul_right _ hmn
     obtain ⟨news, n1, n2, n3⟩ := l4 (min n len) hmn
     have hxl : (new.take (min n len * sz)).length = min n len * sz := by simp; omega
     have hone := VRs_one (P := P) (w := w) (I := I) (ρ := kR (kindT P el) ρ) (AllOne_take l3 _) (by rw [n1, hxl]) n3
     have hsz' : o + off + news.length ≤ arr.size := by
       rw [n1]
       rcases Nat.eq_zero_or_pos (min n len * sz) with h0 | h0
       · rw [h0]
         have hty := shape_of_heap hh
         rw [hsh] at hty
         simp only [Option.some.injEq, Prod.mk.injEq] at hty
         omega
       · obtain ⟨u, hu⟩ := VRs_len hcells (j := off + min n len * sz - 1) (by omega)
         have := (Array.getElem?_eq_some_iff.1 hu).1
         omega
     have hw1 := run_write (P := P) (w := w) (o := o + off) (vs := news) hh (frozen_of_wr hB c2 hh) hsz' hone
     have hrun := run_copy (P := P) (w := w) (t := t) (ts := ts) (ty := ty) (base := some ⟨g, o + off, none⟩) (len := len) (cap := cap) hel hsz l1 n2 hw1
     obtain ⟨s1, s2⟩ := SR_write (k' := ⟨splice k.cells off (new.take (min n len * sz)), k.el, k.kind, true⟩) hS hk c2 hb (vs := news) (p := o + off) ⟨rfl, rfl, AllOne_splice hB.one (AllOne_take l3 _) _⟩ hone (fun arr0 fr0 e0 hc0 arr' e1 e2 => by
       simp only [c1] at hc0 ⊢
       exact splice_VRs rfl (by omega) (by rw [n1, hxl]) hc0 n3 e2)
     exact ⟨_, _, _, _, hrun, by simp only [id, intV, VR], s1, s2, fun d y h => by cases h⟩
   · cases h
 | val _ => exact other h
 | emp _ _ => exact other h
 | tree _ _ _ _ => exact other h
 | agg _ => exact other h
 | tup _ => exact other h
 | tptr _ _ => exact other h
 | ptr _ _ => exact other h
 | clo _ _ => exact other h
theorem slLen_sound {x:AV} {n:Nat} (h:slLen x=some n) {v:Value} (hv:VR P w I ρ x v):∃ a cap,v = .slice a n cap:=by
 unfold slLen at h
 split at h
 ·simp only [Option.some.injEq] at h;subst h;simp only [VR] at hv;exact ⟨none,0,hv⟩
 ·simp only [Option.some.injEq] at h;subst h;simp only [VR] at hv;obtain ⟨g,o,cap,rfl,_⟩:=hv;exact ⟨_,_,rfl⟩
 ·simp only [Option.some.injEq] at h;subst h;simp only [VR] at hv;obtain ⟨ad,cap,rfl,_⟩:=hv;exact ⟨_,_,rfl⟩
 ·simp only [Option.some.injEq] at h;subst h;simp only [VR] at hv;obtain ⟨g,o,cap,ty,n',s,_,rfl,_⟩:=hv;exact ⟨_,_,rfl⟩
 ·cases h
theorem und_par {t:TypeId} {a:Nat×TypeId} (h:parE P t=some a):∃ ar,P.underlying t=some (.pointer ar)∧arrE P ar=some a:=by
 unfold parE at h;split at h
 ·exact ⟨_,by assumption,h⟩
 ·cases h
theorem lenE_sound {t ty:TypeId} {x av:AV} (h:lenE P t x=some av) {v:Value} (hv:VR P w I ρ x v):Pur P w I ρ (Builtin.len_ #[t] ty #[v]) av:=by
 unfold lenE at h
 split at h
 ·split at h
  ·rename_i s hs
   simp only [Option.some.injEq] at h
   subst h
   simp only [VR] at hv
   subst hv
   exact ⟨.int .i64 s.size,by simp [Builtin.len_,run_und (und_str hs),goInt],by simp only [intV,VR]⟩
  ·cases h
 ·split at h
  ·rename_i el hel
   obtain ⟨n,hn,rfl⟩:=Option.map_eq_some_iff.1 h
   obtain ⟨a,cap,rfl⟩:=slLen_sound hn hv
   exact ⟨.int .i64 n,by simp [Builtin.len_,run_und (und_el hel),goInt],by simp only [intV,VR]⟩
  ·split at h
   ·rename_i a ha
    simp only [Option.some.injEq] at h
    subst h
    exact ⟨.int .i64 a.1,by simp [Builtin.len_,run_und (und_arr ha),goInt],by simp only [intV,VR]⟩
   ·rename_i a _ ha
    simp only [Option.some.injEq] at h
    subst h
    obtain ⟨ar,h1,h2⟩:=und_par ha
    exact ⟨.int .i64 a.1,by simp [Builtin.len_,run_und h1,run_und (und_arr h2),goInt],by simp only [intV,VR]⟩
   ·cases h
theorem und_struct {t:TypeId} (h:structE P t=true):∃ fs:Array Field,P.underlying t=some (.struct fs)∧∀ f∈fs.toList,∃ n,szE P f.type=some n:=by
 unfold structE at h;split at h
 ·rename_i fs hfs
  refine ⟨fs,hfs,fun f hf => ?_⟩
  exact Option.isSome_iff_exists.1 (List.all_eq_true.1 h f hf)
 ·cases h
theorem run_places:∀ (l:List Field),(∀ f∈l,∃ n,szE P f.type=some n)→∃ pl:List (Nat×Nat),(l.mapM fun f=>(do pure (f.offset,←sizeOf f.type):Sem (Nat×Nat))).run P w = .ok pl w∧pl.length=l.length∧∀ (i:Nat) (f:Field),l[i]? = some f→∃ n,szE P f.type=some n∧pl[i]? = some (f.offset,n)
 | [],_=>⟨[],by simp,rfl,fun i f h=>by simp at h⟩
 | f::l,h=>by
  obtain ⟨n,hn⟩:=h f (by simp)
  obtain ⟨pl,h1,h2,h3⟩:=run_places l (fun g hg=>h g (by simp [hg]))
  refine ⟨(f.offset,n)::pl,by simp [List.mapM_cons,run_sz hn] at h1 ⊢;simp [h1],by simp [h2],fun i g hi => ?_⟩
  cases i with
  | zero=>simp at hi;subst hi;exact ⟨n,hn,rfl⟩
  | succ i=>simpa using h3 i g (by simpa using hi)
theorem buildE_sound {t : TypeId} {parts : List (Nat × AV)} {av : AV} (h : buildE P t parts = some av) {vparts : List (Nat × Value)} (hl : vparts.length = parts.length)
   (hv : ∀ (j i : Nat) (av : AV) (i' : Nat) (v : Value), parts[j]? = some (i, av) → vparts[j]? = some (i', v) → i = i' ∧ VR P w I ρ av v) : Pur P w I ρ (Instr.build t vparts.toArray) av := by
 unfold buildE at h
 obtain ⟨z, hz, h⟩ := Option.bind_eq_some_iff.1 h
 obtain ⟨zv, h1, h2, h3, _⟩ := run_zero (w := w) hz
 have hcell : zv.cells.size = (z.map AV.val).length := by simp [← h2]
 have hone : AllOne (z.map AV.val) := fun c hc => by
   obtain ⟨x, hx, rfl⟩ := List.mem_map.1 hc
   exact oneA_val (h3 x hx)
 have hvr : VRs P w I ρ (z.map .val) (fun j => zv.cells[j]?) := by
   have := VRs_vals (P := P) (w := w) (I := I) (ρ := ρ) z
   rw [← h2] at this ⊢
   simpa using this
 split at h
 · rename_i hst
   obtain ⟨fs, hfs, hfz⟩ := und_struct hst
   obtain ⟨cs, hcs, rfl⟩ := Option.map_eq_some_iff.1 h
   -- the places
   obtain ⟨pl, hp1, hp2, hp3⟩ := run_places (P := P) (w := w) fs.toList hfz
   obtain ⟨places, hpp⟩ : ∃ places : Array (Nat × Nat), places = pl.toArray := ⟨_, rfl⟩
   have hp1' : (fs.mapM fun f => (do pure (f.offset, ← sizeOf f.type) : Sem (Nat × Nat))).run P w = .ok places w := by
     rw [Array.mapM_eq_mapM_toList, Sem.run_map, hp1, hpp]
     rfl
   obtain ⟨arr', f1, f2, f3, f4, f5⟩ := fillE_sound (P := P) (w := w) (I := I) (ρ := ρ) (place := fun i => places[i]?) (fun i p hp => by
     obtain ⟨fp, hfp, hp⟩ := Option.bind_eq_some_iff.1 hp
     obtain ⟨n, hn, rfl⟩ := Option.map_eq_some_iff.1 hp
     obtain ⟨fs', f, e1, e2, e3, e4⟩ := und_fld hfp
     rw [hfs] at e1
     simp only [Option.some.injEq, TypeDesc.struct.injEq] at e1
     subst e1
     obtain ⟨n', q1, q2⟩ := hp3 i f (by simpa using e2)
     rw [e4, hn, Option.some.injEq] at q1
     subst q1
     rw [hpp, List.getElem?_toArray, q2, e3]) parts vparts (z.map .val) cs zv.cells hcs hl hv hcell hone hvr
   refine ⟨.agg arr', ?_, ?_⟩
   · simp only [Instr.build, Sem.run_bind, h1, Result.andThen_ok, run_und hfs, hp1']
     simp [f1]
   · simp only [VR]
     exact ⟨arr', rfl, f2, f4, f5⟩
 · obtain ⟨a, ha, h⟩ := Option.bind_eq_some_iff.1 h
   obtain ⟨n, hn, h⟩ := Option.bind_eq_some_iff.1 h
   obtain ⟨cs, hcs, rfl⟩ := Option.map_eq_some_iff.1 h
   obtain ⟨arr', f1, f2, f3, f4, f5⟩ := fillE_sound (P := P) (w := w) (I := I) (ρ := ρ) (place := fun i => some (i * n, n)) (placeE := fun i => some (i * n, n)) (fun _ _ h => h) parts vparts (z.map .val) cs zv.cells hcs hl hv hcell hone hvr
   refine ⟨.agg arr', ?_, ?_⟩
   · simp [Instr.build, h1, run_und (und_arr ha), run_sz hn, f1]
   · simp only [VR]
     exact ⟨arr', rfl, f2, f4, f5⟩
end
section
variable {P:Program} {w:World} {I:Nat→Prop} {ρ:Real} {m:Mem}
def Yields (P:Program) (w:World) (I:Nat→Prop) (ρ:Real) (m:Mem) (a:Act) (r:Result Next) (out:Out):Prop :=
 ∃ v w' I' ρ',(r = .ok (.value v) w'∨(r = .ok .skip w'∧v=undef))∧VR P w' I' ρ' out.v v∧SR P w' I' ρ' out.m∧Step w I ρ m w' I' ρ' out.m∧∀ d y,out.wb=some (d,y)→VR P w' I' ρ' y (a.tmps.getD d undef)
theorem Yields.of_does {a:Act} {s:Sem Value} {out:Out} {addr:Value} (h:Does P w I ρ m (s.run P w) id out addr) (hw:∀ d y,out.wb=some (d,y)→addr=a.tmps.getD d undef):Yields P w I ρ m a ((do pure (.value (←s)):Sem Next).run P w) out:=by
 obtain ⟨x,w',I',ρ',h1,h2,h3,h4,h5⟩:=h
 exact ⟨x,w',I',ρ',.inl (by simp [h1]),h2,h3,h4,fun d y h=>by rw [←hw d y h];exact h5 d y h⟩
theorem Yields.of_pur {a:Act} {s:Sem Value} {v:Option AV} {out:Out} (hS:SR P w I ρ m) (h:outO v m=some out) (hp:∀ av,v=some av→Pur P w I ρ s av):Yields P w I ρ m a ((do pure (.value (←s)):Sem Next).run P w) out:=by
 unfold outO at h
 obtain ⟨av,hav,rfl⟩:=Option.map_eq_some_iff.1 h
 obtain ⟨x,h1,h2⟩:=hp av hav
 exact ⟨x,w,I,ρ,.inl (by simp [h1]),h2,hS,Step.refl _ _ _ _,fun d y h=>by cases h⟩
theorem parts_len {e:Env} {a:Act} (parts:Array (Nat×Operand)):(parts.map fun p=>(p.1,a.eval p.2)).toList.length=(parts.toList.map fun p=>(p.1,opd e p.2)).length:=by simp
theorem parts_rel {e:Env} {a:Act} (he:ER P w I ρ e a) (parts:Array (Nat×Operand)):∀ (j i:Nat) (av:AV) (i':Nat) (v:Value),(parts.toList.map fun p=>(p.1,opd e p.2))[j]? = some (i,av)→(parts.map fun p=>(p.1,a.eval p.2)).toList[j]? = some (i',v)→i=i'∧VR P w I ρ av v:=by
 intro j i av i' v h1 h2
 rw [List.getElem?_map] at h1
 rw [Array.toList_map,List.getElem?_map] at h2
 obtain ⟨p,hp,h1⟩:=Option.map_eq_some_iff.1 h1
 rw [hp] at h2
 simp only [Option.map_some,Option.some.injEq,Prod.mk.injEq] at h1 h2
 obtain ⟨rfl,rfl⟩:=h1
 obtain ⟨rfl,rfl⟩:=h2
 exact ⟨rfl,opd_eval he p.2⟩
theorem parts_eq {a:Act} (parts:Array (Nat×Operand)):(parts.map fun (i,x)=>(i,a.eval x))=(parts.map fun p=>(p.1,a.eval p.2)).toList.toArray:=by
 rw [Array.toArray_toList]
theorem opE_sound (hS : SR P w I ρ m) {once : Bool} {e : Env} {a : Act} (he : ER P w I ρ e a) {o : Oper} {out : Out} (h : opE P once e m o.op = some out) (hfree : ∀ b, m.next ≤ b → b < out.m.next → ρ b = none) :
   Yields P w I ρ m a ((execOp a.eval o).run P w) out := by
 obtain ⟨dst, op, type, pos, after, guard⟩ := o
 simp only at h
 cases op <;> simp only [opE] at h <;> try (cases h; done)
 case move x =>
   simp only [outV, Option.some.injEq] at h; subst h
   exact ⟨a.eval x, w, I, ρ, .inl (by simp [execOp]), opd_eval he x, hS, Step.refl _ _ _ _, fun d y h => by cases h⟩
 case assign x =>
   simp only [outV, Option.some.injEq] at h; subst h
   exact ⟨a.eval x, w, I, ρ, .inl (by simp [execOp]), opd_eval he x, hS, Step.refl _ _ _ _, fun d y h => by cases h⟩
 case pick c x y =>
   obtain ⟨av, hav, rfl⟩ := Option.map_eq_some_iff.1 h
   obtain ⟨v, h1, h2⟩ := pickE_sound hav (opd_eval he x) (opd_eval he y) (opd_eval he c)
   refine ⟨v, w, I, ρ, .inl ?_, h2, hS, Step.refl _ _ _ _, fun d y h => by cases h⟩
   simp only [Sem.run_bind] at h1
   cases hb : (asBool (a.eval c)).run P w with
   | halt x y => rw [hb] at h1; simp at h1
   | ok b w1 =>
     rw [hb] at h1
     simp only [Result.andThen_ok, Sem.run_pure, Result.ok.injEq] at h1
     obtain ⟨rfl, rfl⟩ := h1
     simp [execOp, hb]
 case alloc t =>
   have hf : ρ m.next = none := hfree m.next (Nat.le_refl _) (by
     unfold allocE at h
     obtain ⟨z, hz, h⟩ := Option.bind_eq_some_iff.1 h
     simp only [outV, Option.some.injEq] at h
     subst h
     simp [Mem.push])
   have := allocE_sound (addr := undef) hS hf h (.tuple #[])
   refine Yields.of_does this (fun d y hw => ?_)
   unfold allocE at h
   obtain ⟨z, hz, h⟩ := Option.bind_eq_some_iff.1 h
   simp only [outV, Option.some.injEq] at h
   subst h
   cases hw
 case box t x =>
   refine Yields.of_does (boxE_sound hS h hfree (opd_eval he x) undef) (fun d y hw => ?_)
   unfold boxE at h
   obtain ⟨n, hn, h⟩ := Option.bind_eq_some_iff.1 h
   split at h
   · split at h
     · obtain ⟨r, hr, h⟩ := Option.bind_eq_some_iff.1 h
       simp only [outV, Option.some.injEq] at h; subst h; cases hw
     · simp only [outV, Option.some.injEq] at h; subst h; cases hw
   · cases h
 case build t parts =>
   refine Yields.of_pur hS h fun av hav => ?_
   ·
     have := buildE_sound (P := P) (w := w) (I := I) (ρ := ρ) hav (parts_len (e := e) (a := a) parts) (parts_rel he parts)
     rw [← parts_eq] at this
     exact this
 case buildSlice t len parts =>
   have := buildSliceE_sound hS h hfree (parts_len (e := e) (a := a) parts) (parts_rel he parts) undef
   rw [← parts_eq] at this
   refine Yields.of_does this (fun d y hw => ?_)
   unfold buildSliceE at h
   obtain ⟨_, _, h⟩ := Option.bind_eq_some_iff.1 h
   obtain ⟨_, _, h⟩ := Option.bind_eq_some_iff.1 h
   obtain ⟨_, _, h⟩ := Option.bind_eq_some_iff.1 h
   split at h
   · obtain ⟨_, _, h⟩ := Option.bind_eq_some_iff.1 h
     split at h
     · obtain ⟨_, _, h⟩ := Option.bind_eq_some_iff.1 h
       simp only [outV, Option.some.injEq] at h; subst h; cases hw
     · simp only [outV, Option.some.injEq] at h; subst h; cases hw
   · cases h
 case load t x => exact Yields.of_pur hS h fun av hav => loadE_sound hS hav (opd_eval he x)
 case store t x y =>
   obtain ⟨u, w', I', ρ', h1, h2, h3, h4, h5⟩ := storeE_sound hS h (opd_eval he y) (opd_eval he x)
   refine ⟨undef, w', I', ρ', .inr ⟨by simp [execOp, h1], rfl⟩, h2, h3, h4, fun d z hw => ?_⟩
   have hz := h5 d z hw
   have hd : opTmp x = some d := by
     unfold storeE at h
     split at h
     · obtain ⟨n, hn, h⟩ := Option.bind_eq_some_iff.1 h
       obtain ⟨k, hk, h⟩ := Option.bind_eq_some_iff.1 h
       split at h
       · split at h
         · obtain ⟨d', hd', h⟩ := Option.bind_eq_some_iff.1 h
           split at h
           · obtain ⟨r, hr, h⟩ := Option.bind_eq_some_iff.1 h
             simp only [Option.some.injEq] at h
             subst h
             simp only [Option.some.injEq, Prod.mk.injEq] at hw
             rw [hd', hw.1]
           · cases h
         · simp only [outV, Option.some.injEq] at h; subst h; cases hw
         · obtain ⟨r, hr, h⟩ := Option.bind_eq_some_iff.1 h
           obtain ⟨r2, hr2, h⟩ := Option.bind_eq_some_iff.1 h
           split at h
           · simp only [outV, Option.some.injEq] at h; subst h; cases hw
           · cases h
       · cases h
     · cases h
   cases x <;> simp only [opTmp] at hd
   · simp only [Option.some.injEq] at hd
     subst hd
     exact hz
   all_goals cases hd
 case nilCheck x =>
   obtain ⟨av, hav, rfl⟩ := Option.map_eq_some_iff.1 h
   have hx := opd_eval he x
   refine ⟨a.eval x, w, I, ρ, .inl ?_, ?_, hS, Step.refl _ _ _ _, fun d y h => by cases h⟩
   · unfold checkE at hav
     split at hav
     · rename_i heq; rw [heq] at hx; simp only [VR] at hx; obtain ⟨g, o, _, hx⟩ := hx; simp [execOp, hx]
     · rename_i heq; rw [heq] at hx; simp only [VR] at hx; obtain ⟨g, o, hx, _⟩ := hx; simp [execOp, hx]
     · rename_i heq; rw [heq] at hx; simp only [VR] at hx; obtain ⟨vs, hx, _⟩ := hx; simp [execOp, hx]
     · cases hav
   · unfold checkE at hav
     split at hav
     · rename_i heq; simp only [Option.some.injEq] at hav; subst hav; rw [← heq]; exact hx
     · rename_i heq; simp only [Option.some.injEq] at hav; subst hav; rw [← heq]; exact hx
     · rename_i heq; simp only [Option.some.injEq] at hav; subst hav; rw [← heq]; exact hx
     · cases hav
 case binOp op t x y ty => exact Yields.of_pur hS h fun av hav => binE_sound hav (opd_eval he x) (opd_eval he y)
 case unOp op t x => exact Yields.of_pur hS h fun av hav => unE_sound hav (opd_eval he x)
 case convert s d x =>
   refine Yields.of_does (convE_sound hS h hfree (opd_eval he x) undef) (fun d' y hw => ?_)
   unfold convE at h
   split at h
   · split at h
     · split at h
       · simp only [outV, Option.some.injEq] at h; subst h; cases hw
       · cases h
     · cases h
   · split at h
     · split at h
       · obtain ⟨_, _, h⟩ := Option.bind_eq_some_iff.1 h
         split at h
         · obtain ⟨_, _, h⟩ := Option.bind_eq_some_iff.1 h
           simp only [outV, Option.some.injEq] at h; subst h; cases hw
         · cases h
       · cases h
     · split at h
       · simp only [outO] at h
         obtain ⟨_, _, rfl⟩ := Option.map_eq_some_iff.1 h
         cases hw
       · cases h
 case slice t x lo hi mx =>
   split at h
   case isFalse => cases h
   rename_i hok
   have hsl : ∀ b off n c f el sz, opd e x = .sl b off n c f → elE P t = some el → szE P el = some sz → ∀ g o', ρ b = some (g, o') → ∀ ty n', w.shape? g = some (ty, n') → szE P ty = some sz := by
     intro b off n c f el sz e1 e2 e3 g o' e4 ty n' e5
     rw [e1] at hok
     simp only [slOk, e2] at hok
     cases hb : m.at_ b with
     | none => rw [hb] at hok; simp at hok
     | some k =>
       rw [hb] at hok
       simp only [beq_iff_eq] at hok
       obtain ⟨arr, fr, q1, _⟩ := (hS.blk b k g o' hb e4).cells
       rw [shape_of_heap q1] at e5
       simp only [Option.some.injEq, Prod.mk.injEq] at e5
       rw [← e5.1, hok, e3]
   obtain ⟨l, hl, h⟩ := Option.bind_eq_some_iff.1 h
   obtain ⟨hh, hhh, h⟩ := Option.bind_eq_some_iff.1 h
   obtain ⟨mm, hmm, h⟩ := Option.bind_eq_some_iff.1 h
   exact Yields.of_pur hS h fun av hav => sliceE_sound hav (opd_eval he x) (fun b off n c f el sz e1 e2 e3 => hsl b off n c f el sz e1 e2 e3) (optNat_rel he hl) (optNat_rel he hhh) (optNat_rel he hmm)
 case fieldAddr s x f => exact Yields.of_pur hS h fun av hav => faddrE_sound hav (opd_eval he x)
 case field t x f => exact Yields.of_pur hS h fun av hav => fieldE_sound hav (opd_eval he x)
 case indexAddr t x i =>
   obtain ⟨k, hk, h⟩ := Option.bind_eq_some_iff.1 h
   obtain ⟨kd, hkd⟩ := natOf_int hk (opd_eval he i)
   exact Yields.of_pur hS h fun av hav => by rw [hkd]; exact addrE_sound hav (opd_eval he x) kd
 case index t x i =>
   obtain ⟨k, hk, h⟩ := Option.bind_eq_some_iff.1 h
   obtain ⟨kd, hkd⟩ := natOf_int hk (opd_eval he i)
   exact Yields.of_pur hS h fun av hav => by rw [hkd]; exact indexE_sound hav (opd_eval he x) kd
 case extract x i => exact Yields.of_pur hS h fun av hav => extractE_sound hav (opd_eval he x)
 case makeSlice t l c =>
   obtain ⟨n, hn, h⟩ := Option.bind_eq_some_iff.1 h
   obtain ⟨k, hk, h⟩ := Option.bind_eq_some_iff.1 h
   obtain ⟨kn, hkn⟩ := natOf_int hn (opd_eval he l)
   obtain ⟨kk, hkk⟩ := natOf_int hk (opd_eval he c)
   have hform := h
   unfold makeE at hform
   obtain ⟨_, _, hform⟩ := Option.bind_eq_some_iff.1 hform
   obtain ⟨_, _, hform⟩ := Option.bind_eq_some_iff.1 hform
   obtain ⟨_, _, hform⟩ := Option.bind_eq_some_iff.1 hform
   obtain ⟨_, _, hform⟩ := Option.bind_eq_some_iff.1 hform
   split at hform
   · simp only [outV, Option.some.injEq] at hform
     have hf : ρ m.next = none := hfree m.next (Nat.le_refl _) (by rw [← hform]; simp [Mem.push])
     have hd := makeE_sound (addr := undef) hS h hf kn kk
     rw [← hkn, ← hkk] at hd
     exact Yields.of_does hd (fun d y hw => by rw [← hform] at hw; cases hw)
   · cases hform
 case makeFunc fn first caps =>
   cases fn <;> simp only at h <;> try (cases h; done)
   rename_i f
   split at h
   · rename_i hf0
     simp only [outV, Option.some.injEq] at h; subst h
     have hfe : first = #[] := Array.eq_empty_of_size_eq_zero hf0
     subst hfe
     refine ⟨.func (.func f) #[] (caps.map a.eval), w, I, ρ, .inl (by simp [execOp, Instr.makeFunc]), ?_, hS, Step.refl _ _ _ _, fun d y h => by cases h⟩
     simp only [VR]
     refine ⟨_, rfl, by simp, VRs_iff.2 fun j c hj => ?_⟩
     rw [List.getElem?_map] at hj
     obtain ⟨x, hx, rfl⟩ := Option.map_eq_some_iff.1 hj
     exact ⟨a.eval x, by simp at hx ⊢; exact ⟨x, hx, rfl⟩, opd_eval he x⟩
   · cases h
end
def callable (P:Program) (f:FuncId):Bool:=match P.funcs[f]? with
 | some fn => fn.name != "runtime.NumGoroutine" && fn.body.isSome
 | none=>false
def FSpec (P:Program) (f:FuncId) (args:List AV) (r:Res):Prop:=callable P f=true ∧
 ∀ (w:World) (I:Nat→Prop) (vs:Array Value),(∀ g,I g→g < w.heap.size)→vs.size=args.length→VRs P w I noneR args (fun j=>vs[j]?) →
  Calls P f vs w fun en w'=>∃ v I' ρ',en = .returned v∧VR P w' I' ρ' r.v v∧SR P w' I' ρ' (pushAll P Mem.empty r.rows)∧Step w I noneR Mem.empty w' I' ρ' (pushAll P Mem.empty r.rows)
def OSpec (P:Program) (f:FuncId) (args:List AV) (m:Mem) (Q:AV→Mem→Prop):Prop:=callable P f=true ∧
 ∀ (w:World) (I:Nat→Prop) (ρ:Real) (vs:Array Value),SR P w I ρ m→vs.size=args.length→VRs P w I ρ args (fun j=>vs[j]?)→(∀ b,m.next≤b→ρ b=none) →
  Calls P f vs w fun en w'=>∃ v r m' I' ρ',en = .returned v∧Q r m'∧VR P w' I' ρ' r v∧SR P w' I' ρ' m'∧Step w I ρ m w' I' ρ' m'∧∀ b,m'.next≤b→ρ' b=none
def XSpec (P:Program) (f:FuncId) (args:List AV) (m:Mem) (r:AV):Prop :=
 ∀ (w:World) (I:Nat→Prop) (ρ:Real) (vs:Array Value),SR P w I ρ m→vs.size=args.length→VRs P w I ρ args (fun j=>vs[j]?)→∃ v,(callFunc f vs).run P w = .ok (.value v) w∧VR P w I ρ r v
section
variable {P:Program} {w w':World} {I I':Nat→Prop} {ρ ρ':Real} {m:Mem}
def rowB (P:Program) (base:Nat) (r:TypeId×List AV):Blk:=⟨if kindT P r.1 = .flat then r.2 else shifts base r.2,r.1,kindT P r.1,true⟩
theorem pushFrom_next (base:Nat):∀ (rows:List (TypeId×List AV)) (m:Mem),(pushFrom P base m rows).next=m.next+rows.length
 | [],m=>rfl
 | r::rows,m=>by rw [pushFrom,pushFrom_next base rows];simp [Mem.push];omega
theorem pushFrom_at (base:Nat):∀ (rows:List (TypeId×List AV)) (m:Mem) (b:Nat),(pushFrom P base m rows).at_ b=if m.next≤b∧b < m.next+rows.length then (rows[b - m.next]?).map (rowB P base) else m.at_ b
 | [],m,b=>by rw [pushFrom,if_neg (by simp)]
 | r::rows,m,b=>by
  have hn:(m.push (rowB P base r)).next=m.next+1:=rfl
  have ha:(m.push (rowB P base r)).at_ b=if b=m.next then some (rowB P base r) else m.at_ b:=rfl
  have he:pushFrom P base m (r::rows)=pushFrom P base (m.push (rowB P base r)) rows:=rfl
  rw [he,pushFrom_at base rows,hn,ha,List.length_cons]
  by_cases h:b=m.next
  ·subst h
   rw [if_neg (by omega),if_pos (by omega)]
   simp
  ·by_cases h2:m.next+1≤b∧b < m.next+1+rows.length
   ·rw [if_pos h2,if_pos (by omega)]
    obtain ⟨d,hd⟩:∃ d,b - m.next=d+1:=⟨b - m.next - 1,by omega⟩
    rw [hd,List.getElem?_cons_succ]
    congr 2;omega
   ·rw [if_neg h2,if_neg h,if_neg (by omega)]
theorem pushFrom_mm (base:Nat):∀ (rows:List (TypeId×List AV)) (m:Mem),(pushFrom P base m rows).mm=m.mm
 | [],m=>rfl
 | c::cs,m=>by unfold pushFrom;rw [pushFrom_mm base cs];rfl
theorem pushAll_mm (rows:List (TypeId×List AV)) (m:Mem):(pushAll P m rows).mm=m.mm:=pushFrom_mm _ _ _
theorem pushAll_next (rows:List (TypeId×List AV)) (m:Mem):(pushAll P m rows).next=m.next+rows.length:=pushFrom_next _ _ _
theorem pushAll_at (rows:List (TypeId×List AV)) (m:Mem) (b:Nat):(pushAll P m rows).at_ b=if m.next≤b∧b < m.next+rows.length then (rows[b - m.next]?).map (rowB P m.next) else m.at_ b:=pushFrom_at _ _ _ _
mutual
theorem noRef_lend:∀ (k:Nat) (av av':AV),hasRef av=false→lend k m av=some av'→av'=av
 | k,.val v,av',h,hl=>by unfold lend at hl;simp at hl;exact hl.symm
 | k,.tree _ _ _ _,av',h,hl=>by unfold lend at hl;simp at hl;exact hl.symm
 | k,.tptr _ _,av',h,hl=>by unfold lend at hl;simp at hl;exact hl.symm
 | k,.emp _ _,av',h,hl=>by unfold lend at hl;simp at hl;exact hl.symm
 | k,.agg cs,av',h,hl=>by
  simp only [hasRef] at h
  unfold lend at hl
  obtain ⟨cs',hc,rfl⟩:=Option.map_eq_some_iff.1 hl
  rw [noRef_lends k cs cs' h hc]
 | k,.clo f cs,av',h,hl=>by
  simp only [hasRef] at h
  unfold lend at hl
  obtain ⟨cs',hc,rfl⟩:=Option.map_eq_some_iff.1 hl
  rw [noRef_lends k cs cs' h hc]
 | k,.sl _ _ _ _ _,av',h,hl=>by simp [hasRef] at h
 | k,.ptr _ _,av',h,hl=>by simp [hasRef] at h
 | k,.tup cs,av',h,hl=>by unfold lend at hl;cases hl
theorem noRef_lends:∀ (k:Nat) (cs cs':List AV),hasRefs cs=false→lends k m cs=some cs'→cs'=cs
 | k,[],cs',h,hl=>by unfold lends at hl;simp at hl;exact hl
 | k,c::cs,cs',h,hl=>by
  simp only [hasRefs,Bool.or_eq_false_iff] at h
  unfold lends at hl
  obtain ⟨c',hc,hl⟩:=Option.bind_eq_some_iff.1 hl
  obtain ⟨cs'',hcs,rfl⟩:=Option.map_eq_some_iff.1 hl
  rw [noRef_lend k c c' h.1 hc,noRef_lends k cs cs'' h.2 hcs]
end
def allI (w:World):Nat→Prop:=fun g=>g < w.heap.size
theorem keeps_all (hS:SR P w I ρ m):Keeps w w I (allI w):=⟨fun g hg=>hS.lt g hg,fun _ _=>rfl,fun _ _ h=>h⟩
theorem SR.ltb (hS:SR P w I ρ m) {b:Nat} {k:Blk} {g o:Nat} (h1:m.at_ b=some k) (h2:ρ b=some (g,o)):g < w.heap.size:=by
 obtain ⟨arr,fr,h3,_⟩:=(hS.blk b k g o h1 h2).cells
 exact heap_lt h3
mutual
theorem lend_one:∀ (k:Nat) (av av':AV),lend k m av=some av'→oneA av'=oneA av
 | k,.val v,av',hl=>by unfold lend at hl;simp at hl;rw [←hl]
 | k,.tree _ _ _ _,av',hl=>by unfold lend at hl;simp at hl;rw [←hl]
 | k,.tptr _ _,av',hl=>by unfold lend at hl;simp at hl;rw [←hl]
 | k,.emp _ _,av',hl=>by unfold lend at hl;simp at hl;rw [←hl]
 | k,.agg cs,av',hl=>by unfold lend at hl;obtain ⟨cs',hc,rfl⟩:=Option.map_eq_some_iff.1 hl;rfl
 | k,.clo f cs,av',hl=>by unfold lend at hl;obtain ⟨cs',hc,rfl⟩:=Option.map_eq_some_iff.1 hl;rfl
 | 0,.sl _ _ _ _ _,av',hl=>by
  unfold lend at hl
  obtain ⟨x,hx,hl⟩:=Option.bind_eq_some_iff.1 hl
  split at hl
  ·simp at hl;rw [←hl];rfl
  ·cases hl
 | k+1,.sl _ _ _ _ _,av',hl=>by
  unfold lend at hl
  obtain ⟨x,hx,hl⟩:=Option.bind_eq_some_iff.1 hl
  split at hl
  ·simp at hl;rw [←hl];rfl
  ·obtain ⟨cs',hc,rfl⟩:=Option.map_eq_some_iff.1 hl;rfl
  ·cases hl
 | 0,.ptr _ _,av',hl=>by unfold lend at hl;cases hl
 | k+1,.ptr _ _,av',hl=>by
  unfold lend at hl
  obtain ⟨x,hx,hl⟩:=Option.bind_eq_some_iff.1 hl
  split at hl
  ·simp at hl;rw [←hl];rfl
  ·obtain ⟨cs',hc,rfl⟩:=Option.map_eq_some_iff.1 hl;rfl
  ·cases hl
 | k,.tup cs,av',hl=>by unfold lend at hl;cases hl
end
theorem lends_spec:∀ (k:Nat) (cs cs':List AV),lends k m cs=some cs'→cs'.length=cs.length∧(AllOne cs→AllOne cs')
 | k,[],cs',hl=>by unfold lends at hl;simp at hl;subst hl;exact ⟨rfl,fun h=>h⟩
 | k,c::cs,cs',hl=>by
  unfold lends at hl
  obtain ⟨c',hc,hl⟩:=Option.bind_eq_some_iff.1 hl
  obtain ⟨cs'',hcs,rfl⟩:=Option.map_eq_some_iff.1 hl
  obtain ⟨h1,h2⟩:=lends_spec k cs cs'' hcs
  refine ⟨by simp [h1],fun h x hx => ?_⟩
  rcases List.mem_cons.1 hx with rfl | hx
  ·rw [lend_one k c _ hc];exact h c (by simp)
  ·exact h2 (fun y hy=>h y (by simp [hy])) x hx
mutual
theorem lend_sound (hS:SR P w I ρ m):∀ (k:Nat) (av av':AV) (v:Value),lend k m av=some av'→VR P w I ρ av v→VR P w (allI w) noneR av' v
 | k,.val x,av',v,hl,hv=>by unfold lend at hl;simp at hl;subst hl;simpa only [VR] using hv
 | k,.tree a b c d,av',v,hl,hv=>by
  unfold lend at hl;simp at hl;subst hl
  exact VR_keep (keeps_all hS) (fun _ _ h=>h) _ _ (noRef_VR _ _ rfl hv)
 | k,.tptr a b,av',v,hl,hv=>by
  unfold lend at hl;simp at hl;subst hl
  exact VR_keep (keeps_all hS) (fun _ _ h=>h) _ _ (noRef_VR _ _ rfl hv)
 | k,.emp _ _,av',v,hl,hv=>by unfold lend at hl;simp at hl;subst hl;simpa only [VR] using hv
 | k,.agg cs,av',v,hl,hv=>by
  unfold lend at hl
  obtain ⟨cs',hc,rfl⟩:=Option.map_eq_some_iff.1 hl
  simp only [VR] at hv ⊢
  obtain ⟨vs,h1,h2,h3,h4⟩:=hv
  obtain ⟨l1,l2⟩:=lends_spec k cs cs' hc
  exact ⟨vs,h1,by rw [h2,l1],l2 h3,lends_sound hS k cs cs' _ hc h4⟩
 | k,.clo f cs,av',v,hl,hv=>by
  unfold lend at hl
  obtain ⟨cs',hc,rfl⟩:=Option.map_eq_some_iff.1 hl
  simp only [VR] at hv ⊢
  obtain ⟨vs,h1,h2,h4⟩:=hv
  obtain ⟨l1,l2⟩:=lends_spec k cs cs' hc
  exact ⟨vs,h1,by rw [h2,l1],lends_sound hS k cs cs' _ hc h4⟩
 | 0,.sl b off len c full,av',v,hl,hv=>by
  unfold lend at hl
  obtain ⟨x,hx,hl⟩:=Option.bind_eq_some_iff.1 hl
  split at hl
  ·rename_i hk
   simp at hl;subst hl
   simp only [VR] at hv ⊢
   obtain ⟨g,o,cap,ty,n,s,hg,rfl,hlc,hf,_⟩:=hv
   have hB:=hS.blk b x g o hx hg
   refine ⟨g,o+off,cap,rfl,hS.ltb hx hg,hlc,hf,AllOne_drop hB.one _, ?_⟩
   exact VRs_congr (VRs_drop (VRs_keep (keeps_all hS) (fun _ _ h=>h) _ _ (hB.flatAt hk)) off) fun j _=>by rw [Nat.add_assoc]
  ·cases hl
 | k+1,.sl b off len c full,av',v,hl,hv=>by
  unfold lend at hl
  obtain ⟨x,hx,hl⟩:=Option.bind_eq_some_iff.1 hl
  simp only [VR] at hv
  obtain ⟨g,o,cap,ty,n,s,hg,rfl,hlc,hf,_⟩:=hv
  have hB:=hS.blk b x g o hx hg
  split at hl
  ·rename_i hk
   simp at hl;subst hl
   simp only [VR]
   refine ⟨g,o+off,cap,rfl,hS.ltb hx hg,hlc,hf,AllOne_drop hB.one _, ?_⟩
   exact VRs_congr (VRs_drop (VRs_keep (keeps_all hS) (fun _ _ h=>h) _ _ (hB.flatAt hk)) off) fun j _=>by rw [Nat.add_assoc]
  ·obtain ⟨cs',hc,rfl⟩:=Option.map_eq_some_iff.1 hl
   simp only [VR]
   obtain ⟨l1,l2⟩:=lends_spec k _ cs' hc
   refine ⟨g,o+off,cap,rfl,hS.ltb hx hg,hlc,hf,l2 (AllOne_drop hB.one _), ?_⟩
   exact VRs_congr (lends_sound hS k _ cs' _ hc (VRs_drop hB.cellsAt off)) fun j _=>by rw [Nat.add_assoc]
  ·cases hl
 | 0,.ptr b off,av',v,hl,hv=>by unfold lend at hl;cases hl
 | k+1,.ptr b off,av',v,hl,hv=>by
  unfold lend at hl
  obtain ⟨x,hx,hl⟩:=Option.bind_eq_some_iff.1 hl
  simp only [VR] at hv
  obtain ⟨g,o,hg,rfl⟩:=hv
  have hB:=hS.blk b x g o hx hg
  split at hl
  ·rename_i hk
   simp at hl;subst hl
   simp only [VR]
   exact ⟨g,o,rfl,hS.ltb hx hg,hB.one,VRs_keep (keeps_all hS) (fun _ _ h=>h) _ _ (hB.flatAt hk)⟩
  ·obtain ⟨cs',hc,rfl⟩:=Option.map_eq_some_iff.1 hl
   simp only [VR]
   obtain ⟨l1,l2⟩:=lends_spec k _ cs' hc
   exact ⟨g,o,rfl,hS.ltb hx hg,l2 hB.one,lends_sound hS k _ cs' _ hc hB.cellsAt⟩
  ·cases hl
 | k,.tup cs,av',v,hl,hv=>by unfold lend at hl;cases hl
 termination_by k av=>(k,SizeOf.sizeOf av)
theorem lends_sound (hS:SR P w I ρ m):∀ (k:Nat) (cs cs':List AV) (get:Nat→Option Value),lends k m cs=some cs'→VRs P w I ρ cs get→VRs P w (allI w) noneR cs' get
 | k,[],cs',get,hl,hv=>by unfold lends at hl;simp at hl;subst hl;simp only [VRs]
 | k,c::cs,cs',get,hl,hv=>by
  unfold lends at hl
  obtain ⟨c',hc,hl⟩:=Option.bind_eq_some_iff.1 hl
  obtain ⟨cs'',hcs,rfl⟩:=Option.map_eq_some_iff.1 hl
  simp only [VRs] at hv ⊢
  obtain ⟨⟨v,h1,h2⟩,h3⟩:=hv
  exact ⟨⟨v,h1,lend_sound hS k c c' v hc h2⟩,lends_sound hS k cs cs'' _ hcs h3⟩
 termination_by k cs=>(k,SizeOf.sizeOf cs)
end
end
section
variable {P:Program} {w w':World} {I I':Nat→Prop} {ρ ρ':Real} {m:Mem}
def both (ρ ρ':Real) (n k:Nat):Real:=fun b=>if n≤b∧b < n+k then ρ' (b - n) else ρ b
theorem both_ext {n k:Nat} (hfree:∀ b,n≤b→b < n+k→ρ b=none):∀ b x,ρ b=some x→both ρ ρ' n k b=some x:=by
 intro b x h
 unfold both
 split
 ·rename_i hc;rw [hfree b hc.1 hc.2] at h;cases h
 ·exact h
theorem shifts_length (n:Nat):∀ cs:List AV,(shifts n cs).length=cs.length
 | []=>rfl
 | c::cs=>by simp [shifts,shifts_length n cs]
theorem shift_one (n:Nat) (av:AV):oneA (shift n av)=oneA av:=by cases av <;> simp [shift,oneA]
theorem shifts_one (n:Nat):∀ cs:List AV,AllOne cs→AllOne (shifts n cs)
 | [],h=>h
 | c::cs,h=>fun x hx=>by
  simp only [shifts] at hx
  rcases List.mem_cons.1 hx with rfl | hx
  ·rw [shift_one];exact h c (by simp)
  ·exact shifts_one n cs (fun y hy=>h y (by simp [hy])) x hx
mutual
theorem shift_VR {n k:Nat} (hk:∀ b x,ρ' b=some x→b < k):∀ (av:AV) (v:Value),VR P w I ρ' av v→VR P w I (both ρ ρ' n k) (shift n av) v
 | .val x,v,hv=>by simpa only [shift,VR] using hv
 | .tree _ _ _ _,v,hv=>by simpa only [shift,VR] using hv
 | .tptr _ _,v,hv=>by simpa only [shift,VR] using hv
 | .emp _ _,v,hv=>by simpa only [shift,VR] using hv
 | .agg cs,v,hv=>by
  simp only [shift,VR] at hv ⊢
  obtain ⟨vs,h1,h2,h3,h4⟩:=hv
  exact ⟨vs,h1,by rw [h2,shifts_length],shifts_one n cs h3,shifts_VR hk cs _ h4⟩
 | .tup cs,v,hv=>by
  simp only [shift,VR] at hv ⊢
  obtain ⟨vs,h1,h2,h4⟩:=hv
  exact ⟨vs,h1,by rw [h2,shifts_length],shifts_VR hk cs _ h4⟩
 | .sl b off len c f,v,hv=>by
  simp only [shift,VR] at hv ⊢
  obtain ⟨g,o,cap,ty,n',s,hg,h⟩:=hv
  exact ⟨g,o,cap,ty,n',s,by unfold both;rw [if_pos ⟨by omega,by have:=hk b _ hg;omega⟩,Nat.add_sub_cancel_left];exact hg,h⟩
 | .ptr b off,v,hv=>by
  simp only [shift,VR] at hv ⊢
  obtain ⟨g,o,hg,h⟩:=hv
  exact ⟨g,o,by unfold both;rw [if_pos ⟨by omega,by have:=hk b _ hg;omega⟩,Nat.add_sub_cancel_left];exact hg,h⟩
 | .clo f cs,v,hv=>by
  simp only [shift,VR] at hv ⊢
  obtain ⟨vs,h1,h2,h4⟩:=hv
  exact ⟨vs,h1,by rw [h2,shifts_length],shifts_VR hk cs _ h4⟩
theorem shifts_VR {n k:Nat} (hk:∀ b x,ρ' b=some x→b < k):∀ (cs:List AV) (get:Nat→Option Value),VRs P w I ρ' cs get→VRs P w I (both ρ ρ' n k) (shifts n cs) get
 | [],get,hv=>by simp only [shifts,VRs]
 | c::cs,get,hv=>by
  simp only [shifts,VRs] at hv ⊢
  obtain ⟨⟨v,h1,h2⟩,h3⟩:=hv
  exact ⟨⟨v,h1,shift_VR hk c v h2⟩,shifts_VR hk cs _ h3⟩
end
mutual
theorem noTree_VR {I1 I2:Nat→Prop}:∀ (av:AV) (v:Value),noTree av=true→VR P w I1 ρ av v→VR P w I2 ρ av v
 | .val x,v,h,hv=>by simpa only [VR] using hv
 | .agg cs,v,h,hv=>by
  simp only [noTree] at h
  simp only [VR] at hv ⊢
  obtain ⟨vs,h1,h2,h3,h4⟩:=hv
  exact ⟨vs,h1,h2,h3,noTrees_VR cs _ h h4⟩
 | .tup cs,v,h,hv=>by
  simp only [noTree] at h
  simp only [VR] at hv ⊢
  obtain ⟨vs,h1,h2,h4⟩:=hv
  exact ⟨vs,h1,h2,noTrees_VR cs _ h h4⟩
 | .tree _ _ _ _,v,h,hv=>by simp [noTree] at h
 | .tptr _ _,v,h,hv=>by simp [noTree] at h
 | .emp _ _,v,h,hv=>by simpa only [VR] using hv
 | .sl _ _ _ _ _,v,h,hv=>by simpa only [VR] using hv
 | .ptr _ _,v,h,hv=>by simp [noTree] at h
 | .clo _ _,v,h,hv=>by simp [noTree] at h
theorem noTrees_VR {I1 I2:Nat→Prop}:∀ (cs:List AV) (get:Nat→Option Value),noTrees cs=true→VRs P w I1 ρ cs get→VRs P w I2 ρ cs get
 | [],get,h,hv=>by simp only [VRs]
 | c::cs,get,h,hv=>by
  simp only [noTrees,Bool.and_eq_true] at h
  simp only [VRs] at hv ⊢
  obtain ⟨⟨v,h1,h2⟩,h3⟩:=hv
  exact ⟨⟨v,h1,noTree_VR c v h.1 h2⟩,noTrees_VR cs _ h.2 h3⟩
end
mutual
theorem shift_zero:∀ av:AV,shift 0 av=av
 | .val _=>rfl
 | .tree _ _ _ _=>rfl
 | .tptr _ _=>rfl
 | .emp _ _=>rfl
 | .agg cs=>by simp only [shift,shifts_zero cs]
 | .tup cs=>by simp only [shift,shifts_zero cs]
 | .sl b _ _ _ _=>by simp only [shift,Nat.zero_add]
 | .ptr b _=>by simp only [shift,Nat.zero_add]
 | .clo _ cs=>by simp only [shift,shifts_zero cs]
theorem shifts_zero:∀ cs:List AV,shifts 0 cs=cs
 | []=>rfl
 | c::cs=>by simp only [shifts,shift_zero c,shifts_zero cs]
end
theorem rowB_zero (r:TypeId×List AV):rowB P 0 r=⟨r.2,r.1,kindT P r.1,true⟩:=by
 unfold rowB
 rw [shifts_zero]
 split <;> rfl
theorem merge (hS : SR P w I ρ m) {Ic : Nat → Prop} (hIc : ∀ g, I g → Ic g) {rows : List (TypeId × List AV)} (hfree : ∀ b, m.next ≤ b → b < m.next + rows.length → ρ b = none)
   (hR : SR P w' I' ρ' (pushAll P Mem.empty rows)) (hst : Step w Ic noneR Mem.empty w' I' ρ' (pushAll P Mem.empty rows)) (hII : (∀ g, I' g → I g ∨ w.heap.size ≤ g) ∨ ∀ r ∈ rows, noTrees r.2 = true) :
   ∃ I'', (∀ g, I'' g ↔ I g ∨ (I' g ∧ w.heap.size ≤ g)) ∧ SR P w' I'' (both ρ ρ' m.next rows.length) (pushAll P m rows) ∧ Step w I ρ m w' I'' (both ρ ρ' m.next rows.length) (pushAll P m rows) := by
 have hnoWr : ∀ g, ¬ Wr noneR Mem.empty g := by
   rintro g (⟨b, k, o, h1, _⟩ | h1)
   · simp [Mem.empty] at h1
   · exact empty_has h1
 have hsame : ∀ g, g < w.heap.size → w'.heap[g]? = w.heap[g]? := fun g hg => hst.same g hg (hnoWr g)
 have hk : ∀ b x, ρ' b = some x → b < rows.length := fun b x h => by
   have := hst.lo b rfl (by rw [h]; simp)
   rw [pushAll_next] at this
   simp [Mem.empty] at this
   exact this
 have hnew : ∀ b g o, ρ' b = some (g, o) → w.heap.size ≤ g := fun b g o h => by
   have hb := hk b _ h
   have hat : (pushAll P Mem.empty rows).at_ b = some (rowB P 0 rows[b]) := by
     rw [pushAll_at, if_pos (by simp [Mem.empty]; exact hb)]
     simp [Mem.empty, List.getElem?_eq_getElem hb]
   rcases hst.own g (.inl ⟨b, _, o, hat, rfl, h⟩) with h | h
   · exact absurd h (hnoWr g)
   · exact h
 have hext := both_ext (ρ' := ρ') hfree
 refine ⟨fun g => I g ∨ (I' g ∧ w.heap.size ≤ g), fun g => Iff.rfl, ?_⟩
 have hkp : Keeps w w' I (fun g => I g ∨ (I' g ∧ w.heap.size ≤ g)) := ⟨fun _ h => .inl h, fun g hg => hsame g (hS.lt g hg), hst.shape⟩
 have hat : ∀ b x, (pushAll P m rows).at_ b = some x → (m.next ≤ b ∧ b < m.next + rows.length ∧ ∃ r, rows[b - m.next]? = some r ∧ (pushAll P Mem.empty rows).at_ (b - m.next) = some (rowB P 0 r) ∧ x = rowB P m.next r) ∨ (¬ (m.next ≤ b ∧ b < m.next + rows.length) ∧ m.at_ b = some x) := by
   intro b x h
   rw [pushAll_at] at h
   split at h
   · rename_i hc
     obtain ⟨r, hr, hx⟩ := Option.map_eq_some_iff.1 h
     refine .inl ⟨hc.1, hc.2, r, hr, ?_, hx.symm⟩
     rw [pushAll_at, if_pos (by simp [Mem.empty]; omega)]
     simp [Mem.empty, hr]
   · rename_i hc; exact .inr ⟨hc, h⟩
 have hρ1 : ∀ b, m.next ≤ b ∧ b < m.next + rows.length → both ρ ρ' m.next rows.length b = ρ' (b - m.next) := fun b h => by unfold both; rw [if_pos h]
 have hρ2 : ∀ b, ¬ (m.next ≤ b ∧ b < m.next + rows.length) → both ρ ρ' m.next rows.length b = ρ b := fun b h => by unfold both; rw [if_neg h]
 have hltb : ∀ b k g o, m.at_ b = some k → ρ b = some (g, o) → g < w.heap.size := fun b k g o h1 h2 => hS.ltb h1 h2
 refine ⟨⟨fun b x g o h1 h2 => ?_, fun b1 b2 k1 k2 g o1 o2 h1 h2 h3 h4 h5 => ?_, fun g hg => ?_, by rw [pushAll_mm]; exact hS.mms.keep hkp hext (fun g hg => ⟨hsame g (hS.mms.lt hg), fun h => h.elim id fun h => absurd (hS.mms.lt hg) (by omega)⟩)⟩, ⟨hst.os, hst.tape, hst.output, hst.size, fun g hg _ => hsame g hg, hst.shape, fun _ h => .inl h, fun g hg => ?_, hext, fun b h1 h2 => ?_, fun g hg => ?_, ?_⟩⟩
 · rcases hat b x h1 with ⟨q1, q2, r, hr, q3, rfl⟩ | ⟨q1, q2⟩
   · rw [hρ1 b ⟨q1, q2⟩] at h2
     have hB := hR.blk _ _ g o q3 h2
     have hge := hnew _ _ _ h2
     have hIn : ∀ (κ : Real) (cs : List AV) (get : Nat → Option Value), noTrees cs = noTrees r.2 → VRs P w' I' κ cs get → VRs P w' (fun g => I g ∨ (I' g ∧ w.heap.size ≤ g)) κ cs get := fun κ cs get hn hv => by
       rcases hII with hII | hII
       · exact VRs_keep (⟨fun g hg => (hII g hg).imp id fun h => ⟨hg, h⟩, fun _ _ => rfl, fun _ _ h => h⟩ : Keeps w' w' I' _) (fun _ _ h => h) _ _ hv
       · exact noTrees_VR cs _ (hn.trans (hII r (List.mem_of_getElem? hr))) hv
     rw [rowB_zero] at hB
     refine ⟨?_, ?_, fun _ => ⟨fun hI => ?_, (hB.wr rfl).2⟩, (fun h => by cases h), fun _ => hB.all1 rfl, fun _ => hB.nostr rfl⟩
     · unfold rowB
       simp only
       split
       · exact hB.one
       · exact shifts_one _ _ hB.one
     · obtain ⟨arr, fr, e1, e2⟩ := hB.cells
       refine ⟨arr, fr, e1, ?_⟩
       unfold rowB
       simp only at e2 ⊢
       split
       · rename_i hk0
         rw [if_pos hk0] at e2
         exact hIn _ _ _ rfl e2
       · rename_i hk0
         rw [if_neg hk0] at e2
         exact shifts_VR hk _ _ (hIn _ _ _ rfl e2)
     · rcases hI with hI | hI
       · have := hS.lt g hI; omega
       · exact (hB.wr rfl).1 hI.1
   · rw [hρ2 b q1] at h2
     have hB := hS.blk b x g o q2 h2
     refine BR_keep hkp hext hB (hsame g (hltb b x g o q2 h2)) (fun hwr hI => ?_)
     rcases hI with hI | hI
     · exact (hB.wr hwr).1 hI
     · have := hltb b x g o q2 h2; omega
 · rcases hat b1 k1 h1 with ⟨q1, q2, r1, _, q3, rfl⟩ | ⟨q1, q2⟩ <;> rcases hat b2 k2 h2 with ⟨p1, p2, r2, _, p3, rfl⟩ | ⟨p1, p2⟩
   · rw [hρ1 b1 ⟨q1, q2⟩] at h3
     rw [hρ1 b2 ⟨p1, p2⟩] at h4
     have := hR.inj _ _ _ _ _ _ _ q3 p3 h3 h4 rfl
     omega
   · rw [hρ1 b1 ⟨q1, q2⟩] at h3
     rw [hρ2 b2 p1] at h4
     have := hnew _ _ _ h3
     have := hltb _ _ _ _ p2 h4
     omega
   · rw [hρ2 b1 q1] at h3
     rw [hρ1 b2 ⟨p1, p2⟩] at h4
     have := hnew _ _ _ h4
     have := hltb _ _ _ _ q2 h3
     omega
   · rw [hρ2 b1 q1] at h3
     rw [hρ2 b2 p1] at h4
     exact hS.inj _ _ _ _ _ _ _ q2 p2 h3 h4 h5
 · rcases hg with hg | hg
   · exact Nat.lt_of_lt_of_le (hS.lt g hg) hst.size
   · exact hR.lt g hg.1
 · rcases hg with hg | hg
   · exact .inl hg
   · exact .inr (.inr hg.2)
 · unfold both at h2
   split at h2
   · rename_i hc; rw [pushAll_next]; exact hc
   · exact absurd h1 h2
 · rcases hg with ⟨b, x, o, h1, h2, h3⟩ | hg
   · rcases hat b x h1 with ⟨q1, q2, _⟩ | ⟨q1, q2⟩
     · rw [hρ1 b ⟨q1, q2⟩] at h3
       exact .inr (hnew _ _ _ h3)
     · rw [hρ2 b q1] at h3
       exact .inl (.inl ⟨b, x, o, q2, h2, h3⟩)
   · rw [pushAll_mm] at hg
     exact .inl (.inr hg)
 · rw [pushAll_next]; omega
def idR (ρ:Real) (ids:List (Nat×Nat)):Real:=fun j=>(ids[j]?).bind fun i=>(ρ i.1).map fun x=>(x.1,x.2+i.2)
theorem idR_ext (ρ:Real) (ids:List (Nat×Nat)) (x:List (Nat×Nat)):∀ b y,idR ρ ids b=some y→idR ρ (ids++x) b=some y:=by
 intro b y h
 unfold idR at h ⊢
 obtain ⟨i,hi,h⟩:=Option.bind_eq_some_iff.1 h
 rw [List.getElem?_append_left (List.getElem?_eq_some_iff.1 hi).1,hi]
 exact h
def Emits (P:Program) (w:World) (I:Nat→Prop) (ρ:Real) (m:Mem) (ids:List (Nat×Nat)) (rows:List (TypeId×List AV)):Prop :=
 rows.length=ids.length∧(∀ (j:Nat) (i:Nat×Nat),ids[j]? = some i→∃ k r,m.at_ i.1=some k∧k.wr=true∧rows[j]? = some r∧r.1=k.el∧kindT P r.1=k.kind∧AllOne r.2 ∧
  ∀ g o,ρ i.1=some (g,o)→VRs P w I (if k.kind = .flat then noneR else idR ρ ids) r.2 (fun j=>w.cell? ⟨g,o+i.2+j,none⟩))∧∀ (j j':Nat) (i i':Nat×Nat),ids[j]? = some i→ids[j']? = some i'→i.1=i'.1→j=j'
theorem emit_more {kd:Kind} {ids x:List (Nat×Nat)} {cs:List AV} {get:Nat→Option Value} (h:VRs P w I (if kd = .flat then noneR else idR ρ ids) cs get):VRs P w I (if kd = .flat then noneR else idR ρ (ids++x)) cs get:=by
 split
 ·rename_i hk;rw [if_pos hk] at h;exact h
 ·rename_i hk;rw [if_neg hk] at h;exact VRs_keep (keeps_refl w I) (idR_ext ρ _ _) _ _ h
theorem Emits.snoc {ids : List (Nat × Nat)} {rows : List (TypeId × List AV)} (h : Emits P w I ρ m ids rows) {b off : Nat} {k : Blk} {cs : List AV} (hk : m.at_ b = some k) (hw : k.wr = true) (hd : kindT P k.el = k.kind) (h1 : AllOne cs)
   (hc : ∀ g o, ρ b = some (g, o) → VRs P w I (if k.kind = .flat then noneR else idR ρ ids) cs (fun j => w.cell? ⟨g, o + off + j, none⟩)) (hn : (ids.any fun i => i.1 == b) = false) : Emits P w I ρ m (ids ++ [(b, off)]) (rows ++ [(k.el, cs)]) := by
 obtain ⟨e1, h2, h3⟩ := h
 have hnot : ∀ (j : Nat) (i : Nat × Nat), ids[j]? = some i → i.1 ≠ b := fun j i hj e => by
   have := List.any_eq_false.1 hn i (List.mem_of_getElem? hj)
   simp [e] at this
 have hlast : ∀ (j : Nat) (i : Nat × Nat), (ids ++ [(b, off)])[j]? = some i → (ids[j]? = some i ∧ j < ids.length) ∨ (j = ids.length ∧ i = (b, off)) := fun j i hj => by
   rcases Nat.lt_or_ge j ids.length with hl | hl
   · rw [List.getElem?_append_left hl] at hj; exact .inl ⟨hj, hl⟩
   · rw [List.getElem?_append_right hl] at hj
     have := (List.getElem?_eq_some_iff.1 hj).1
     simp at this
     have e : j = ids.length := by omega
     subst e
     simp at hj
     exact .inr ⟨rfl, hj.symm⟩
 refine ⟨by simp [e1], fun j i hj => ?_, fun j j' i i' hj hj' e => ?_⟩
 · rcases hlast j i hj with ⟨hj, hl⟩ | ⟨rfl, rfl⟩
   · obtain ⟨k', r, a1, a2, a3, a4, a5, a6, a7⟩ := h2 j i hj
     exact ⟨k', r, a1, a2, by rw [List.getElem?_append_left (by omega)]; exact a3, a4, a5, a6, fun g o hg => emit_more (a7 g o hg)⟩
   · exact ⟨k, (k.el, cs), hk, hw, by rw [← e1]; simp, rfl, hd, h1, fun g o hg => emit_more (hc g o hg)⟩
 · rcases hlast j i hj with ⟨hj, hl⟩ | ⟨rfl, rfl⟩ <;> rcases hlast j' i' hj' with ⟨hj', hl'⟩ | ⟨rfl, rfl⟩
   · exact h3 j j' i i' hj hj' e
   · exact absurd e (hnot j i hj)
   · exact absurd e.symm (hnot j' i' hj')
   · rfl
theorem canon_flat (hS : SR P w I ρ m) {b off len c : Nat} {f : Bool} {x : Blk} {v : Value} {ids : List (Nat × Nat)} {rows : List (TypeId × List AV)} {r : AV × List (Nat × Nat) × List (TypeId × List AV)} (hx : m.at_ b = some x) (hkf : x.kind = .flat) (hv : VR P w I ρ (.sl b off len c f) v) (hE : Emits P w I ρ m ids rows)
   (h : (if x.wr = true then (if ids.any (fun i => i.1 == b) = true ∨ kindT P x.el ≠ .flat then none else some (.sl rows.length 0 len c f, ids ++ [(b, off)], rows ++ [(x.el, x.cells.drop off)])) else some (.tree len c (x.cells.drop off) f, ids, rows)) = some r) :
   Emits P w I ρ m r.2.1 r.2.2 ∧ (∃ x, r.2.1 = ids ++ x) ∧ VR P w I (idR ρ r.2.1) r.1 v ∧ (oneA (.sl b off len c f) = oneA r.1) := by
 simp only [VR] at hv
 obtain ⟨g, o, cap, ty, n, s, hg, rfl, hlc, hf, hsh, hss, hroom⟩ := hv
 have hB := hS.blk b x g o hx hg
 split at h
 · rename_i hw
   split at h
   · cases h
   · rename_i hn
     obtain ⟨hn1, hn2⟩ := not_or.1 hn
     have hn2' : kindT P x.el = .flat := Decidable.not_not.1 hn2
     simp only [Option.some.injEq] at h; subst h
     refine ⟨hE.snoc hx hw (by rw [hn2', hkf]) (AllOne_drop hB.one _) (fun g' o' hg' => ?_) ((Bool.not_eq_true _).mp hn1), ⟨_, rfl⟩, ?_, rfl⟩
     · rw [hg, Option.some.injEq, Prod.mk.injEq] at hg'
       obtain ⟨rfl, rfl⟩ := hg'
       rw [if_pos hkf]
       exact VRs_congr (VRs_drop (hB.flatAt hkf) off) fun j _ => by rw [Nat.add_assoc]
     · simp only [VR]
       refine ⟨g, o + off, cap, ty, n, s, ?_, rfl, hlc, hf, hsh, hss, by omega⟩
       unfold idR
       rw [hE.1, List.getElem?_append_right (Nat.le_refl _)]
       simp [hg]
 · rename_i hw
   simp only [Option.some.injEq] at h; subst h
   refine ⟨hE, ⟨[], by simp⟩, ?_, rfl⟩
   simp only [VR]
   refine ⟨g, o + off, cap, rfl, hB.im (by simpa using hw), hlc, hf, AllOne_drop hB.one _, ?_⟩
   exact VRs_congr (VRs_drop (hB.flatAt hkf) off) fun j _ => by rw [Nat.add_assoc]
mutual
theorem canon_sound (hS : SR P w I ρ m) : ∀ (d : Nat) (av : AV) (v : Value) (ids : List (Nat × Nat)) (rows : List (TypeId × List AV)) (r : AV × List (Nat × Nat) × List (TypeId × List AV)), canon P m d ids rows av = some r → VR P w I ρ av v → Emits P w I ρ m ids rows →
   Emits P w I ρ m r.2.1 r.2.2 ∧ (∃ x, r.2.1 = ids ++ x) ∧ VR P w I (idR ρ r.2.1) r.1 v ∧ (oneA av = oneA r.1)
 | d, .val x, v, ids, rows, r, h, hv, hE => by
   unfold canon at h
   simp only [Option.some.injEq] at h; subst h
   exact ⟨hE, ⟨[], by simp⟩, by simpa only [VR] using hv, rfl⟩
 | d, .tree _ _ _ _, v, ids, rows, r, h, hv, hE => by
   unfold canon at h
   simp only [Option.some.injEq] at h; subst h
   exact ⟨hE, ⟨[], by simp⟩, by simpa only [VR] using hv, rfl⟩
 | d, .tptr _ _, v, ids, rows, r, h, hv, hE => by
   unfold canon at h
   simp only [Option.some.injEq] at h; subst h
   exact ⟨hE, ⟨[], by simp⟩, by simpa only [VR] using hv, rfl⟩
 | d, .emp _ _, v, ids, rows, r, h, hv, hE => by
   unfold canon at h
   simp only [Option.some.injEq] at h; subst h
   exact ⟨hE, ⟨[], by simp⟩, by simpa only [VR] using hv, rfl⟩
 | d, .agg cs, v, ids, rows, r, h, hv, hE => by
   unfold canon at h
   obtain ⟨s, hs, rfl⟩ := Option.map_eq_some_iff.1 h
   simp only [VR] at hv
   obtain ⟨vs, rfl, h2, h3, h4⟩ := hv
   obtain ⟨e1, e2, e3, e4, e5⟩ := canons_sound hS d cs _ ids rows s hs h4 hE
   refine ⟨e1, e2, ?_, rfl⟩
   simp only [VR]
   exact ⟨vs, rfl, by rw [h2, e4], e5 h3, e3⟩
 | d, .tup cs, v, ids, rows, r, h, hv, hE => by
   unfold canon at h
   obtain ⟨s, hs, rfl⟩ := Option.map_eq_some_iff.1 h
   simp only [VR] at hv
   obtain ⟨vs, rfl, h2, h4⟩ := hv
   obtain ⟨e1, e2, e3, e4, e5⟩ := canons_sound hS d cs _ ids rows s hs h4 hE
   refine ⟨e1, e2, ?_, rfl⟩
   simp only [VR]
   exact ⟨vs, rfl, by rw [h2, e4], e3⟩
 | 0, .sl b off len c f, v, ids, rows, r, h, hv, hE => by
   unfold canon at h
   obtain ⟨x, hx, h⟩ := Option.bind_eq_some_iff.1 h
   split at h
   · rename_i hkf
     exact canon_flat hS hx hkf hv hE h
   · cases h
 | d + 1, .sl b off len c f, v, ids, rows, r, h, hv, hE => by
   unfold canon at h
   obtain ⟨x, hx, h⟩ := Option.bind_eq_some_iff.1 h
   split at h
   · rename_i hkf
     exact canon_flat hS hx hkf hv hE h
   · rename_i hkv
     split at h
     case isFalse => cases h
     rename_i hw
     obtain ⟨s, hs, h⟩ := Option.bind_eq_some_iff.1 h
     split at h
     · cases h
     · rename_i hn
       simp only [Option.some.injEq] at h; subst h
       simp only [VR] at hv
       obtain ⟨g, o, cap, ty, n, sz, hg, rfl, hlc, hf, hsh, hss, hroom⟩ := hv
       have hB := hS.blk b x g o hx hg
       obtain ⟨e1, ⟨y, e2⟩, e3, e4, e5⟩ := canons_sound hS d _ _ ids rows s hs (VRs_drop hB.cellsAt off) hE
       refine ⟨e1.snoc hx hw.1 (by rw [hw.2, hkv]) (e5 (AllOne_drop hB.one _)) (fun g' o' hg' => ?_) ((Bool.not_eq_true _).mp hn), ⟨y ++ [(b, off)], by rw [e2, List.append_assoc]⟩, ?_, rfl⟩
       · rw [hg, Option.some.injEq, Prod.mk.injEq] at hg'
         obtain ⟨rfl, rfl⟩ := hg'
         rw [if_neg (by rw [hkv]; decide)]
         exact VRs_congr e3 fun j _ => by rw [Nat.add_assoc]
       · simp only [VR]
         refine ⟨g, o + off, cap, ty, n, sz, ?_, rfl, hlc, hf, hsh, hss, by omega⟩
         unfold idR
         rw [e1.1, List.getElem?_append_right (Nat.le_refl _)]
         simp [hg]
   · cases h
 | d, .ptr _ _, v, ids, rows, r, h, hv, hE => by unfold canon at h; cases h
 | d, .clo f [], v, ids, rows, r, h, hv, hE => by
   unfold canon at h
   simp only [Option.some.injEq] at h; subst h
   exact ⟨hE, ⟨[], by simp⟩, by simp only [VR, VRs] at hv ⊢; exact hv, rfl⟩
 | d, .clo f (_ :: _), v, ids, rows, r, h, hv, hE => by unfold canon at h; cases h
 termination_by d av => (d, SizeOf.sizeOf av)
theorem canons_sound (hS : SR P w I ρ m) : ∀ (d : Nat) (cs : List AV) (get : Nat → Option Value) (ids : List (Nat × Nat)) (rows : List (TypeId × List AV)) (r : List AV × List (Nat × Nat) × List (TypeId × List AV)), canons P m d ids rows cs = some r → VRs P w I ρ cs get → Emits P w I ρ m ids rows →
   Emits P w I ρ m r.2.1 r.2.2 ∧ (∃ x, r.2.1 = ids ++ x) ∧ VRs P w I (idR ρ r.2.1) r.1 get ∧ r.1.length = cs.length ∧ (AllOne cs → AllOne r.1)
 | d, [], get, ids, rows, r, h, hv, hE => by
   unfold canons at h
   simp only [Option.some.injEq] at h; subst h
   exact ⟨hE, ⟨[], by simp⟩, by simp only [VRs], rfl, fun h => h⟩
 | d, c :: cs, get, ids, rows, r, h, hv, hE => by
   unfold canons at h
   obtain ⟨s, hs, h⟩ := Option.bind_eq_some_iff.1 h
   obtain ⟨t, ht, rfl⟩ := Option.map_eq_some_iff.1 h
   simp only [VRs] at hv
   obtain ⟨⟨v, h1, h2⟩, h3⟩ := hv
   obtain ⟨e1, ⟨x, e2⟩, e3, e4⟩ := canon_sound hS d c v ids rows s hs h2 hE
   obtain ⟨f1, ⟨y, f2⟩, f3, f4, f5⟩ := canons_sound hS d cs _ s.2.1 s.2.2 t ht h3 e1
   refine ⟨f1, ⟨x ++ y, by simp only; rw [f2, e2, List.append_assoc]⟩, ?_, by simp [f4], fun h z hz => ?_⟩
   · simp only [VRs]
     refine ⟨⟨v, h1, ?_⟩, f3⟩
     refine VR_keep (keeps_refl w I) ?_ _ _ e3
     rw [f2]
     exact idR_ext ρ _ _
   · rcases List.mem_cons.1 hz with rfl | hz
     · rw [← e4]; exact h c (by simp)
     · exact f5 (fun a ha => h a (by simp [ha])) z hz
 termination_by d cs => (d, SizeOf.sizeOf cs)
end
theorem canonR_sound {w0 : World} {I0 : Nat → Prop} (hS : SR P w I ρ m) (hst : Step w0 I0 noneR Mem.empty w I ρ m) {av : AV} {v : Value} (hv : VR P w I ρ av v) {r : Res} (h : canonR P m av = some r) :
   ∃ ρ', VR P w I ρ' r.v v ∧ SR P w I ρ' (pushAll P Mem.empty r.rows) ∧ Step w0 I0 noneR Mem.empty w I ρ' (pushAll P Mem.empty r.rows) := by
 unfold canonR at h
 obtain ⟨s, hs, rfl⟩ := Option.map_eq_some_iff.1 h
 obtain ⟨⟨e1, e2, e3⟩, _, e4, _⟩ := canon_sound hS 3 av v [] [] s hs hv ⟨rfl, fun j i h => by simp at h, fun j j' i i' h => by simp at h⟩
 have hat : ∀ b x, (pushAll P Mem.empty s.2.2).at_ b = some x → ∀ g o, idR ρ s.2.1 b = some (g, o) → ∃ (i : Nat × Nat) (k : Blk) (r : TypeId × List AV) (o' : Nat), s.2.1[b]? = some i ∧ m.at_ i.1 = some k ∧ k.wr = true ∧ ρ i.1 = some (g, o') ∧ o = o' + i.2 ∧ r.1 = k.el ∧ kindT P r.1 = k.kind ∧ AllOne r.2 ∧
     VRs P w I (if k.kind = .flat then noneR else idR ρ s.2.1) r.2 (fun j => w.cell? ⟨g, o' + i.2 + j, none⟩) ∧ x = ⟨r.2, r.1, kindT P r.1, true⟩ := by
   intro b x hx g o hg
   unfold idR at hg
   obtain ⟨i, hi, hg⟩ := Option.bind_eq_some_iff.1 hg
   obtain ⟨y, hy, hyy⟩ := Option.map_eq_some_iff.1 hg
   simp only [Prod.mk.injEq] at hyy
   obtain ⟨rfl, rfl⟩ := hyy
   obtain ⟨k, r, k1, k3, k4, k5, k6, k7, k8⟩ := e2 b i hi
   rw [pushAll_at] at hx
   split at hx
   · simp only [Mem.empty, Nat.sub_zero, k4, Option.map_some, Option.some.injEq] at hx
     rw [rowB_zero] at hx
     exact ⟨i, k, r, y.2, hi, k1, k3, hy, rfl, k5, k6, k7, k8 _ _ hy, hx.symm⟩
   · simp [Mem.empty] at hx
 refine ⟨idR ρ s.2.1, e4, ⟨fun b x g o h1 h2 => ?_, fun b1 b2 k1 k2 g o1 o2 h1 h2 h3 h4 h5 => ?_, hS.lt, by rw [pushAll_mm]; exact MRs.none⟩, ⟨hst.os, hst.tape, hst.output, hst.size, hst.same, hst.shape, hst.imm, hst.back, fun b x h => by simp [noneR] at h, fun b h1 h2 => ?_, fun g hg => ?_, by simp [Mem.empty]⟩⟩
 · obtain ⟨i, k, r, o', q1, q2, q4, q5, rfl, u1, u2, u3, u4, rfl⟩ := hat b x h1 g o h2
   have hB := hS.blk i.1 k g o' q2 q5
   obtain ⟨arr, fr, f1, f2⟩ := hB.cells
   refine ⟨u3, ⟨arr, fr, by simp only [u1]; exact f1, ?_⟩, fun _ => hB.wr q4, (fun h => by cases h), fun _ => hB.all1 q4, fun _ h => hB.nostr q4 (by simpa only [u1] using h)⟩
   simp only [u2]
   refine VRs_congr u4 fun j _ => ?_
   simp [World.cell?, f1]
 · obtain ⟨i, k, r, o', q1, q2, q4, q5, rfl, _, _, _, _, rfl⟩ := hat b1 k1 h1 g o1 h3
   obtain ⟨i', k', r', o'', p1, p2, p4, p5, rfl, _, _, _, _, rfl⟩ := hat b2 k2 h2 g o2 h4
   exact e3 b1 b2 i i' q1 p1 (hS.inj _ _ _ _ _ _ _ q2 p2 q5 p5 q4)
 · unfold idR at h2
   cases hb : s.2.1[b]? with
   | none => rw [hb] at h2; simp at h2
   | some i =>
     have := (List.getElem?_eq_some_iff.1 hb).1
     rw [pushAll_next]
     simp [Mem.empty]
     omega
 · rcases hg with ⟨b, x, o, h1, h2, h3⟩ | hg
   · obtain ⟨i, k, r, o', q1, q2, q4, q5, rfl, _⟩ := hat b x h1 g o h3
     exact hst.own g (.inl ⟨i.1, k, o', q2, q4, q5⟩)
   · rw [pushAll_mm] at hg
     exact (empty_has hg).elim
end
end Go.Tw