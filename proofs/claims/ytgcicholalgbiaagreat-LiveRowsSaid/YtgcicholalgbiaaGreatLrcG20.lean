import Derived.Test.YtgcicholalgbiaaGreatLrcG19
import Derived.Test.YtgcicholalgbiaaGreatLrcG15
import Derived.Test.YtgcicholalgbiaaGreatLrcG12
import Derived.Test.YtgcicholalgbiaaGreatLrcG10
import Derived.Test.YtgcicholalgbiaaGreatLrcG18
set_option linter.unusedVariables false
set_option linter.unusedSimpArgs false
set_option maxRecDepth 10000
namespace Go.Proofs.YtgcicholalgbiaaGreat
open Go Go.Tw Go.Proofs Go.Gf
structure SlA where
 kd:Int
 ix:Int
 ce:Int
 st:Int
 vv:AV
 dv:AV
def SlA.cells (s:SlA):List AV:=[.val (.int .u8 s.kd),.val (.int .i64 s.ix),.val (.int .i64 s.ce),.val (.int .i64 s.st),s.vv,s.dv]
def SlA.v (s:SlA):AV := .agg s.cells
structure SlA.Rd (s:SlA):Prop where
 vv:∃ n cs,RdSl s.vv n cs
 dv:∃ n cs,RdSl s.dv n cs
def slA0:SlA:=⟨0,0,0,0,nilS,nilS⟩
def SlotC.sl (s:SlotC):SlA:=⟨s.kd,s.ix,s.ce,s.st,.tree s.vec.length s.vec.length (intsA s.vec) false,.tree s.data.length s.data.length (bytesA s.data) false⟩
def slA (k r c w:Int) (bs:List UInt8):SlA:=if isSlot k r c w bs=true then (slotC k r bs).sl else slA0
theorem slA_rd (k r c w:Int) (bs:List UInt8):(slA k r c w bs).Rd:=by
 unfold slA
 split
 ·exact ⟨⟨_,_,⟨.inr (.inr ⟨_,_,rfl,Nat.le_refl _⟩)⟩⟩,⟨_,_,⟨.inr (.inr ⟨_,_,rfl,Nat.le_refl _⟩)⟩⟩⟩
 ·exact ⟨⟨0,[],⟨.inl ⟨rfl,rfl⟩⟩⟩,⟨0,[],⟨.inl ⟨rfl,rfl⟩⟩⟩⟩
theorem slot_Parse_ok (k r c w:Int) (v:AV) (bs:List UInt8) (x:List AV) (hv:RdSl v bs.length (bytesA bs++x)) (hm:mayB k r c w=true) (hl:lenB k r c bs.length=true):FSpec Tryz.prog 44 [parV k r c w,v] ⟨.tup [.agg (slA k r c w bs).cells,boolV (isSlot k r c w bs),intV 0],[]⟩:=by
 have h:=slot_Parse k r c w v bs x hv
 unfold parseV at h
 unfold slA
 cases hs:isSlot k r c w bs with
 | true =>
  rw [hs,if_pos ⟨hm,rfl⟩] at h
  rw [if_pos rfl]
  exact h
 | false =>
  rw [hs,if_neg (fun h=>by cases h.2)] at h
  rw [if_neg (by decide)]
  have he:(if mayB k r c w=false then (2:Int) else if (bs.length:Int)=0 then 0 else if (bs.length:Int)=sizeI k r c then 0 else 100)=0:=by
   rw [hm,if_neg (by decide)]
   unfold lenB at hl
   by_cases h1:(bs.length:Int)=0
   ·rw [if_pos h1]
   ·rw [if_neg h1]
    rw [decide_eq_false h1,Bool.false_or] at hl
    rw [if_pos (of_decide_eq_true hl)]
  rw [he] at h
  exact h
theorem slA_ix (k r c w:Int) (bs:List UInt8) (ix:Int):(isSlot k r c w bs && decide ((slA k r c w bs).ix=ix))=isOf k r c w bs ix:=by
 unfold slA isOf
 cases h:isSlot k r c w bs with
 | true=>rw [if_pos rfl];rfl
 | false=>rfl
def heldC (s0 s1:SlA) (b0 b1:Bool):List AV:=s0.cells++(boolV b0::s1.cells)++[boolV b1]
theorem fzId_agg {cs:List AV} (h:∀ c∈cs,fzId c):fzId (.agg cs):=fun k m=>by rw [fzT_agg,fzTs_id cs h];rfl
theorem fzId_tup {cs:List AV} (h:∀ c∈cs,fzId c):fzId (.tup cs):=fun k m=>by rw [fzT_tup,fzTs_id cs h];rfl
theorem SlA.Rd.ids {s:SlA} (h:s.Rd):∀ c∈s.cells,fzId c:=by
 obtain ⟨⟨_,_,h1⟩,⟨_,_,h2⟩⟩:=h
 intro c hc
 simp only [SlA.cells,List.mem_cons,List.not_mem_nil,or_false] at hc
 rcases hc with rfl | rfl | rfl | rfl | rfl | rfl
 ·exact fzId_val _
 ·exact fzId_val _
 ·exact fzId_val _
 ·exact fzId_val _
 ·exact fzId_rd h1
 ·exact fzId_rd h2
theorem heldC_ids {s0 s1:SlA} (h0:s0.Rd) (h1:s1.Rd) (b0 b1:Bool):∀ c∈heldC s0 s1 b0 b1,fzId c:=by
 intro c hc
 simp only [heldC,List.mem_append,List.mem_cons,List.not_mem_nil,or_false] at hc
 rcases hc with (hc | rfl | hc) | rfl
 ·exact h0.ids c hc
 ·exact fzId_val _
 ·exact h1.ids c hc
 ·exact fzId_val _
theorem fzId_two {a b:AV} (ha:fzId a) (hb:fzId b):fzId (.tup [a,b]):=fzId_tup fun c hc=>by
 simp only [List.mem_cons,List.not_mem_nil,or_false] at hc
 rcases hc with rfl | rfl
 ·exact ha
 ·exact hb
theorem ww1:IntKind.i64.wrap 1=1:=by decide
theorem ww2:IntKind.i64.wrap 2=2:=by decide
def onceLk:Nat→Bool:=fun d=>d != 8
theorem cell_look (k r c w ix kd : Int) (v0 v1 : AV) (p : PairB) (x0 x1 : List AV) (h0 : RdSl v0 p.1.length (bytesA p.1 ++ x0)) (h1 : RdSl v1 p.2.length (bytesA p.2 ++ x1)) (hm : mayB k r c w = true) (hp : pairB k r c p.1.length p.2.length = true) (hk : kd = 1 ∨ kd = 2) (hix : 0 ≤ ix) (hix2 : ix < k + r) :
   FSpec Tryz.prog 157 [parV k r c w, .agg [v0, v1], .val (.int .u8 kd), intV ix] ⟨.tup [.agg (heldC (slA k r c w p.1) (slA k r c w p.2) (isOf k r c w p.1 ix) (isOf k r c w p.2 ix)), intV 0], []⟩ := by
 refine fspec_fzT ?_
 unfold pairB at hp
 rw [Bool.and_eq_true] at hp
 have hp0 := slot_Parse_ok k r c w v0 p.1 x0 h0 hm hp.1
 have hp1 := slot_Parse_ok k r c w v1 p.2 x1 h1 hm hp.2
 have hd := layout_Drives k r c w
 simp only [hm, if_true] at hd
 rw [← slA_ix, ← slA_ix]
 have hR0 := slA_rd k r c w p.1
 have hR1 := slA_rd k r c w p.2
 obtain ⟨⟨n1, y1, g1⟩, ⟨n2, y2, g2⟩⟩ := slA_rd k r c w p.1
 obtain ⟨⟨n3, y3, g3⟩, ⟨n4, y4, g4⟩⟩ := slA_rd k r c w p.2
 generalize slA k r c w p.1 = s0 at *
 generalize slA k r c w p.2 = s1 at *
 generalize isSlot k r c w p.1 = i0 at *
 generalize isSlot k r c w p.2 = i1 at *
 have f1 := rd_fz h0
 have f2 := rd_fz h1
 have o1 := rd_one h0
 have o2 := rd_one h1
 have q1 := rd_one g1
 have q2 := rd_one g2
 have q3 := rd_one g3
 have q4 := rd_one g4
 have t1 := rd_shift g1
 have t2 := rd_shift g2
 have t3 := rd_shift g3
 have t4 := rd_shift g4
 have pl0 := h0.plain
 have pl1 := h1.plain
 have z1 : ¬ ix < 0 := by omega
 have z2 : ¬ k + r ≤ ix := by omega
 unfold SlA.cells at hp0 hp1
 refine ospec_of_body follows Tryz.func157 (by unfold Tryz.f157; rfl) (by unfold Tryz.f157; simp) onceLk (by unfold Tryz.f157; simp) (by kernel_rfl) ?_; unfold Tryz.f157
 simp only [↓pre, simprocAttr, parV, sx, tys157, onceLk, bne, postU, postA, storeE, allocE, put_at, push_at, f1, f2, o1, o2, q1, q2, q3, q4, t1, t2, t3, t4, me0, ww1, ww2, Int.natCast_zero, Int.cast_ofNat_Int, Int.natCast_one, sr]
 (first | refine call_plain (hd) (by first | rfl | simp only [parV, plQ, *]) ?_ | refine call_pure (hd) (by first | rfl | simp only [parV, plQ, *]) (by intro k; first | rfl | simp only [sq, sr, *]) ?_); simp only [↓pre, simprocAttr, parV, sx, tys157, onceLk, bne, postU, postA, storeE, allocE, put_at, push_at, f1, f2, o1, o2, q1, q2, q3, q4, t1, t2, t3, t4, me0, ww1, ww2, Int.natCast_zero, Int.cast_ofNat_Int, Int.natCast_one, sr]
 rw [codeW_loop]
 refine loop_intro (fun n e m => ∃ i cs, n + i = 2 ∧ e 2 = .val (.int .u8 kd) ∧ e 3 = intV ix ∧ e 4 = .tptr 0 [intV k, intV r, intV c, intV w] ∧ e 8 = .ptr 0 0 ∧ e 10 = intV (k + r) ∧ e 22 = .agg [v0, v1] ∧ e 23 = intV (i : Nat) ∧ m.at_ 0 = some ⟨cs, 218, .var, true⟩ ∧ (i = 0 → cs = heldC slA0 slA0 false false) ∧ (i = 1 → cs = heldC s0 slA0 (i0 && decide (s0.ix = ix)) false) ∧ (i = 2 → cs = heldC s0 s1 (i0 && decide (s0.ix = ix)) (i1 && decide (s1.ix = ix)))) 2 ⟨0, _, by omega, rfl, rfl, rfl, rfl, rfl, rfl, rfl, rfl, fun _ => rfl, fun h => by omega, fun h => by omega⟩ ?_
 rintro n e m ⟨i, cs, hn, e2, e3, e4, e8, e10, e22, e23, hm0, c0, c1, c2⟩
 obtain rfl | rfl | rfl : i = 0 ∨ i = 1 ∨ i = 2 := by omega
 · obtain rfl := c0 rfl
   clear c0 c1 c2
   replace hn := Hid.mk hn
   simp only [heldC, SlA.cells, slA0, List.cons_append, List.nil_append] at hm0
   simp only [↓pre, simprocAttr, parV, sx, tys157, onceLk, bne, postU, postA, storeE, allocE, put_at, push_at, f1, f2, o1, o2, q1, q2, q3, q4, t1, t2, t3, t4, me0, ww1, ww2, Int.natCast_zero, Int.cast_ofNat_Int, Int.natCast_one, e2, e3, e4, e8, e10, e22, e23, hm0, Int.natCast_zero, Int.cast_ofNat_Int, sr]
   (first | refine call_plain (hp0) (by first | rfl | simp only [parV, plQ, *]) ?_ | refine call_pure (hp0) (by first | rfl | simp only [parV, plQ, *]) (by intro k; first | rfl | simp only [sq, sr, *]) ?_); simp only [↓pre, simprocAttr, parV, sx, tys157, onceLk, bne, postU, postA, storeE, allocE, put_at, push_at, f1, f2, o1, o2, q1, q2, q3, q4, t1, t2, t3, t4, me0, ww1, ww2, Int.natCast_zero, Int.cast_ofNat_Int, Int.natCast_one, e2, e3, e4, e8, e10, e22, e23, hm0, sr]
   cases i0 with
   | false =>
     simp only [↓pre, simprocAttr, parV, sx, tys157, onceLk, bne, postU, postA, storeE, allocE, put_at, push_at, f1, f2, o1, o2, q1, q2, q3, q4, t1, t2, t3, t4, me0, ww1, ww2, Int.natCast_zero, Int.cast_ofNat_Int, Int.natCast_one, e2, e3, e4, e8, e10, e22, e23, hm0, sr]
     refine ⟨n - 1, by have := hn.out; omega, 1, _, by have := hn.out; omega, rfl, rfl, fun h => (by cases h), fun _ => rfl, fun h => (by cases h)⟩
   | true =>
     simp only [↓pre, simprocAttr, parV, sx, tys157, onceLk, bne, postU, postA, storeE, allocE, put_at, push_at, f1, f2, o1, o2, q1, q2, q3, q4, t1, t2, t3, t4, me0, ww1, ww2, Int.natCast_zero, Int.cast_ofNat_Int, Int.natCast_one, e2, e3, e4, e8, e10, e22, e23, hm0, sr]
     refine ⟨n - 1, by have := hn.out; omega, 1, _, by have := hn.out; omega, rfl, rfl, fun h => (by cases h), fun _ => rfl, fun h => (by cases h)⟩
 · obtain rfl := c1 rfl
   clear c0 c1 c2
   replace hn := Hid.mk hn
   generalize hB : (i0 && decide (s0.ix = ix)) = B0 at *
   simp only [heldC, SlA.cells, slA0, List.cons_append, List.nil_append] at hm0
   simp only [↓pre, simprocAttr, parV, sx, tys157, onceLk, bne, postU, postA, storeE, allocE, put_at, push_at, f1, f2, o1, o2, q1, q2, q3, q4, t1, t2, t3, t4, me0, ww1, ww2, Int.natCast_zero, Int.cast_ofNat_Int, Int.natCast_one, e2, e3, e4, e8, e10, e22, e23, hm0, sr]
   (first | refine call_plain (hp1) (by first | rfl | simp only [parV, plQ, *]) ?_ | refine call_pure (hp1) (by first | rfl | simp only [parV, plQ, *]) (by intro k; first | rfl | simp only [sq, sr, *]) ?_); simp only [↓pre, simprocAttr, parV, sx, tys157, onceLk, bne, postU, postA, storeE, allocE, put_at, push_at, f1, f2, o1, o2, q1, q2, q3, q4, t1, t2, t3, t4, me0, ww1, ww2, Int.natCast_zero, Int.cast_ofNat_Int, Int.natCast_one, e2, e3, e4, e8, e10, e22, e23, hm0, sr]
   cases i1 with
   | false =>
     simp only [↓pre, simprocAttr, parV, sx, tys157, onceLk, bne, postU, postA, storeE, allocE, put_at, push_at, f1, f2, o1, o2, q1, q2, q3, q4, t1, t2, t3, t4, me0, ww1, ww2, Int.natCast_zero, Int.cast_ofNat_Int, Int.natCast_one, e2, e3, e4, e8, e10, e22, e23, hm0, sr]
     refine ⟨n - 1, by have := hn.out; omega, 2, _, by have := hn.out; omega, rfl, rfl, fun h => (by cases h), fun h => (by cases h), fun _ => rfl⟩
   | true =>
     simp only [↓pre, simprocAttr, parV, sx, tys157, onceLk, bne, postU, postA, storeE, allocE, put_at, push_at, f1, f2, o1, o2, q1, q2, q3, q4, t1, t2, t3, t4, me0, ww1, ww2, Int.natCast_zero, Int.cast_ofNat_Int, Int.natCast_one, e2, e3, e4, e8, e10, e22, e23, hm0, sr]
     refine ⟨n - 1, by have := hn.out; omega, 2, _, by have := hn.out; omega, rfl, rfl, fun h => (by cases h), fun h => (by cases h), fun _ => rfl⟩
 · obtain rfl := c2 rfl
   clear c0 c1 c2
   replace hn := Hid.mk hn
   generalize hB : (i0 && decide (s0.ix = ix)) = B0 at *
   generalize hB1 : (i1 && decide (s1.ix = ix)) = B1 at *
   simp only [heldC, SlA.cells, List.cons_append, List.nil_append] at hm0
   have hfin := fun m => fzId_two (fzId_agg (heldC_ids hR0 hR1 B0 B1)) (fzId_val (.int .i64 0)) 0 m
   replace hfin := Hid.mk hfin
   rcases hk with rfl | rfl
   · simp only [↓pre, simprocAttr, parV, sx, tys157, onceLk, bne, postU, postA, storeE, allocE, put_at, push_at, f1, f2, o1, o2, q1, q2, q3, q4, t1, t2, t3, t4, me0, ww1, ww2, Int.natCast_zero, Int.cast_ofNat_Int, Int.natCast_one, e2, e3, e4, e8, e10, e22, e23, hm0, z1, z2, sr]
     exact ⟨0, hfin.out _⟩
   · simp only [↓pre, simprocAttr, parV, sx, tys157, onceLk, bne, postU, postA, storeE, allocE, put_at, push_at, f1, f2, o1, o2, q1, q2, q3, q4, t1, t2, t3, t4, me0, ww1, ww2, Int.natCast_zero, Int.cast_ofNat_Int, Int.natCast_one, e2, e3, e4, e8, e10, e22, e23, hm0, z1, z2, sr]
     exact ⟨0, hfin.out _⟩
def hitB (s:SlA) (b:Bool) (kd ver:Int):Bool:=b && (decide (s.kd=kd) && decide (s.ce=ver))
def atI (s0 s1:SlA) (b0 b1:Bool) (kd ver:Int):Int:=if hitB s0 b0 kd ver=true then 0 else if hitB s1 b1 kd ver=true then 1 else -1
theorem heldC_fz {s0 s1:SlA} (h0:s0.Rd) (h1:s1.Rd) (b0 b1:Bool) (m:Mem):fz m (.agg (heldC s0 s1 b0 b1))=some (.agg (heldC s0 s1 b0 b1),m):=by
 obtain ⟨⟨n1,y1,g1⟩,⟨n2,y2,g2⟩⟩:=h0
 obtain ⟨⟨n3,y3,g3⟩,⟨n4,y4,g4⟩⟩:=h1
 have f1:=rd_fz g1
 have f2:=rd_fz g2
 have f3:=rd_fz g3
 have f4:=rd_fz g4
 simp [heldC,SlA.cells,fz,fzs,f1,f2,f3,f4,boolV]
theorem cell_at (s0 s1:SlA) (hr0:s0.Rd) (hr1:s1.Rd) (b0 b1:Bool) (kd ver:Int):FSpec Tryz.prog 158 [.agg (heldC s0 s1 b0 b1),.val (.int .u8 kd),intV ver] ⟨intV (atI s0 s1 b0 b1 kd ver),[]⟩:=by
 have hfz:=heldC_fz hr0 hr1 b0 b1
 obtain ⟨⟨n1,y1,g1⟩,⟨n2,y2,g2⟩⟩:=hr0
 obtain ⟨⟨n3,y3,g3⟩,⟨n4,y4,g4⟩⟩:=hr1
 have f1:=rd_fz g1
 have f2:=rd_fz g2
 have f3:=rd_fz g3
 have f4:=rd_fz g4
 have q1:=rd_one g1
 have q2:=rd_one g2
 have q3:=rd_one g3
 have q4:=rd_one g4
 simp only [heldC,SlA.cells,List.cons_append,List.nil_append]
 refine fspec_of_body follows Tryz.func158 (by unfold Tryz.f158;rfl) (by unfold Tryz.f158;simp) onceA (by unfold Tryz.f158;simp) (by kernel_rfl) ?_;unfold Tryz.f158
 simp only [↓pre,simprocAttr,parV,sx,tys158,onceA,postU,postA,storeE,allocE,put_at,push_at,f1,f2,f3,f4,q1,q2,q3,q4,me0,ww1,ww2,Int.natCast_zero,Int.cast_ofNat_Int,Int.natCast_one,sr]
 rw [codeW_loop]
 refine loop_intro (fun n e m=>∃ i,n+i=2∧e 1 = .val (.int .u8 kd)∧e 2=intV ver∧e 9 = .agg [AV.val (Value.int IntKind.u8 s0.kd),AV.val (Value.int IntKind.i64 s0.ix),AV.val (Value.int IntKind.i64 s0.ce),AV.val (Value.int IntKind.i64 s0.st),s0.vv,s0.dv,AV.val (Value.bool b0),AV.val (Value.int IntKind.u8 s1.kd),AV.val (Value.int IntKind.i64 s1.ix),AV.val (Value.int IntKind.i64 s1.ce),AV.val (Value.int IntKind.i64 s1.st),s1.vv,s1.dv,AV.val (Value.bool b1)]∧e 10=intV (i:Nat)∧(1≤i→hitB s0 b0 kd ver=false)∧(2≤i→hitB s1 b1 kd ver=false)) 2 ⟨0,by omega,rfl,rfl,rfl,rfl,fun h=>by omega,fun h=>by omega⟩ ?_
 rintro n e m ⟨i,hn,e1,e2,e9,e10,c1,c2⟩
 obtain rfl | rfl | rfl:i=0∨i=1∨i=2:=by omega
 ·replace hn:=Hid.mk hn
  clear c1 c2
  have key:∀ (B:Bool),hitB s0 b0 kd ver=B→(B=true→atI s0 s1 b0 b1 kd ver=0):=fun B h1 h2=>by unfold atI;rw [h1,h2];rfl
  replace key:=Hid.mk key
  cases b0 with
  | false =>
   simp only [↓pre,simprocAttr,parV,sx,tys158,onceA,postU,postA,storeE,allocE,put_at,push_at,f1,f2,f3,f4,q1,q2,q3,q4,me0,ww1,ww2,Int.natCast_zero,Int.cast_ofNat_Int,Int.natCast_one,e1,e2,e9,e10,sr]
   exact ⟨n - 1,by have:=hn.out;omega,1,by have:=hn.out;omega,rfl,fun _=>rfl,fun h=>by omega⟩
  | true =>
   by_cases h1:s0.kd=kd
   ·by_cases h2:s0.ce=ver
    ·have hk:=key.out true (by unfold hitB;rw [decide_eq_true h1,decide_eq_true h2];rfl) rfl
     rw [hk]
     simp only [↓pre,simprocAttr,parV,sx,tys158,onceA,postU,postA,storeE,allocE,put_at,push_at,f1,f2,f3,f4,q1,q2,q3,q4,me0,ww1,ww2,Int.natCast_zero,Int.cast_ofNat_Int,Int.natCast_one,e1,e2,e9,e10,h1,h2,sr]
    ·simp only [↓pre,simprocAttr,parV,sx,tys158,onceA,postU,postA,storeE,allocE,put_at,push_at,f1,f2,f3,f4,q1,q2,q3,q4,me0,ww1,ww2,Int.natCast_zero,Int.cast_ofNat_Int,Int.natCast_one,e1,e2,e9,e10,h1,h2,sr]
     exact ⟨n - 1,by have:=hn.out;omega,1,by have:=hn.out;omega,rfl,fun _=>by unfold hitB;rw [decide_eq_false h2];simp,fun h=>by omega⟩
   ·simp only [↓pre,simprocAttr,parV,sx,tys158,onceA,postU,postA,storeE,allocE,put_at,push_at,f1,f2,f3,f4,q1,q2,q3,q4,me0,ww1,ww2,Int.natCast_zero,Int.cast_ofNat_Int,Int.natCast_one,e1,e2,e9,e10,h1,sr]
    exact ⟨n - 1,by have:=hn.out;omega,1,by have:=hn.out;omega,rfl,fun _=>by unfold hitB;rw [decide_eq_false h1];simp,fun h=>by omega⟩
 ·replace hn:=Hid.mk hn
  have c1:=Hid.mk (c1 (by omega))
  clear c2
  have key:∀ (B:Bool),hitB s1 b1 kd ver=B→(B=true→atI s0 s1 b0 b1 kd ver=1):=fun B h1 h2=>by unfold atI;rw [c1.out,h1,h2];rfl
  replace key:=Hid.mk key
  cases b1 with
  | false =>
   simp only [↓pre,simprocAttr,parV,sx,tys158,onceA,postU,postA,storeE,allocE,put_at,push_at,f1,f2,f3,f4,q1,q2,q3,q4,me0,ww1,ww2,Int.natCast_zero,Int.cast_ofNat_Int,Int.natCast_one,e1,e2,e9,e10,sr]
   exact ⟨n - 1,by have:=hn.out;omega,2,by have:=hn.out;omega,rfl,fun _=>c1.out,fun h=>rfl⟩
  | true =>
   by_cases h1:s1.kd=kd
   ·by_cases h2:s1.ce=ver
    ·have hk:=key.out true (by unfold hitB;rw [decide_eq_true h1,decide_eq_true h2];rfl) rfl
     rw [hk]
     simp only [↓pre,simprocAttr,parV,sx,tys158,onceA,postU,postA,storeE,allocE,put_at,push_at,f1,f2,f3,f4,q1,q2,q3,q4,me0,ww1,ww2,Int.natCast_zero,Int.cast_ofNat_Int,Int.natCast_one,e1,e2,e9,e10,h1,h2,sr]
    ·simp only [↓pre,simprocAttr,parV,sx,tys158,onceA,postU,postA,storeE,allocE,put_at,push_at,f1,f2,f3,f4,q1,q2,q3,q4,me0,ww1,ww2,Int.natCast_zero,Int.cast_ofNat_Int,Int.natCast_one,e1,e2,e9,e10,h1,h2,sr]
     exact ⟨n - 1,by have:=hn.out;omega,2,by have:=hn.out;omega,rfl,fun _=>c1.out,fun _=>by unfold hitB;rw [decide_eq_false h2];simp⟩
   ·simp only [↓pre,simprocAttr,parV,sx,tys158,onceA,postU,postA,storeE,allocE,put_at,push_at,f1,f2,f3,f4,q1,q2,q3,q4,me0,ww1,ww2,Int.natCast_zero,Int.cast_ofNat_Int,Int.natCast_one,e1,e2,e9,e10,h1,sr]
    exact ⟨n - 1,by have:=hn.out;omega,2,by have:=hn.out;omega,rfl,fun _=>c1.out,fun _=>by unfold hitB;rw [decide_eq_false h1];simp⟩
 ·have c1:=c1 (by omega)
  have c2:=c2 (by omega)
  have hk:atI s0 s1 b0 b1 kd ver = -1:=by unfold atI;rw [c1,c2];rfl
  replace c1:=Hid.mk c1
  replace c2:=Hid.mk c2
  rw [hk]
  simp only [↓pre,simprocAttr,parV,sx,tys158,onceA,postU,postA,storeE,allocE,put_at,push_at,f1,f2,f3,f4,q1,q2,q3,q4,me0,ww1,ww2,Int.natCast_zero,Int.cast_ofNat_Int,Int.natCast_one,e1,e2,e9,e10,sr]
def hitS (k r c w:Int) (bs:List UInt8) (ix kd ver:Int):Bool:=hitB (slA k r c w bs) (isOf k r c w bs ix) kd ver
def findV (k r c w:Int) (p:PairB) (ix kd ver:Int):AV:=if hitS k r c w p.1 ix kd ver=true then .tup [intV 0,(slA k r c w p.1).v,boolV true,intV 0] else if hitS k r c w p.2 ix kd ver=true then .tup [intV 1,(slA k r c w p.2).v,boolV true,intV 0] else .tup [intV 0,slA0.v,boolV false,intV 0]
theorem fzId_four {a b c d:AV} (ha:fzId a) (hb:fzId b) (hc:fzId c) (hd:fzId d):fzId (.tup [a,b,c,d]):=fzId_tup fun x hx=>by
 simp only [List.mem_cons,List.not_mem_nil,or_false] at hx
 rcases hx with rfl | rfl | rfl | rfl
 ·exact ha
 ·exact hb
 ·exact hc
 ·exact hd
def onceFi:Nat→Bool:=fun d=>d != 11
theorem cell_Find (k r c w ix kd ver : Int) (v0 v1 : AV) (p : PairB) (x0 x1 : List AV) (h0 : RdSl v0 p.1.length (bytesA p.1 ++ x0)) (h1 : RdSl v1 p.2.length (bytesA p.2 ++ x1)) (hm : mayB k r c w = true) (hp : pairB k r c p.1.length p.2.length = true) (hk : kd = 1 ∨ kd = 2) (hix : 0 ≤ ix) (hix2 : ix < k + r) (hv1 : 1 ≤ ver) (hv2 : ver ≤ 1073741824) :
   FSpec Tryz.prog 129 [parV k r c w, .agg [v0, v1], .val (.int .u8 kd), intV ix, intV ver] ⟨findV k r c w p ix kd ver, []⟩ := by
 refine fspec_fzT ?_
 have hl := cell_look k r c w ix kd v0 v1 p x0 x1 h0 h1 hm hp hk hix hix2
 have hR0 := slA_rd k r c w p.1
 have hR1 := slA_rd k r c w p.2
 unfold findV hitS
 generalize slA k r c w p.1 = s0 at *
 generalize slA k r c w p.2 = s1 at *
 generalize isOf k r c w p.1 ix = b0 at *
 generalize isOf k r c w p.2 ix = b1 at *
 have hat := cell_at s0 s1 hR0 hR1 b0 b1 kd ver
 have i0 := fun m => fzId_four (fzId_val (.int .i64 0)) (fzId_agg hR0.ids) (fzId_val (.bool true)) (fzId_val (.int .i64 0)) 0 m
 have i1 := fun m => fzId_four (fzId_val (.int .i64 1)) (fzId_agg hR1.ids) (fzId_val (.bool true)) (fzId_val (.int .i64 0)) 0 m
 have i2 := fun m => fzId_four (fzId_val (.int .i64 0)) (fzId_agg (cs := slA0.cells) (SlA.Rd.ids (s := slA0) ⟨⟨0, [], ⟨.inl ⟨rfl, rfl⟩⟩⟩, ⟨0, [], ⟨.inl ⟨rfl, rfl⟩⟩⟩⟩)) (fzId_val (.bool false)) (fzId_val (.int .i64 0)) 0 m
 replace i0 := Hid.mk i0
 replace i1 := Hid.mk i1
 replace i2 := Hid.mk i2
 obtain ⟨⟨n1, y1, g1⟩, ⟨n2, y2, g2⟩⟩ := hR0
 obtain ⟨⟨n3, y3, g3⟩, ⟨n4, y4, g4⟩⟩ := hR1
 have f1 := rd_fz g1
 have f2 := rd_fz g2
 have f3 := rd_fz g3
 have f4 := rd_fz g4
 have q1 := rd_one g1
 have q2 := rd_one g2
 have q3 := rd_one g3
 have q4 := rd_one g4
 have t1 := rd_shift g1
 have t2 := rd_shift g2
 have t3 := rd_shift g3
 have t4 := rd_shift g4
 have p1 := g1.plain
 have p2 := g2.plain
 have p3 := g3.plain
 have p4 := g4.plain
 have f01 := rd_fz h0
 have f02 := rd_fz h1
 have o1 := rd_one h0
 have o2 := rd_one h1
 have pl0 := h0.plain
 have pl1 := h1.plain
 have z1 : ¬ ver < 1 := by omega
 have z2 : ¬ (1073741824 : Int) < ver := by omega
 simp only [heldC, SlA.cells, List.cons_append, List.nil_append, boolV] at hl hat
 refine ospec_of_body follows Tryz.func129 (by unfold Tryz.f129; rfl) (by unfold Tryz.f129; simp) onceFi (by unfold Tryz.f129; simp) (by kernel_rfl) ?_; unfold Tryz.f129
 simp only [↓pre, simprocAttr, parV, sx, tys129, onceFi, bne, postU, postA, storeE, allocE, put_at, push_at, f01, f02, o1, o2, f1, f2, f3, f4, q1, q2, q3, q4, t1, t2, t3, t4, me0, ww1, ww2, Int.natCast_zero, Int.cast_ofNat_Int, Int.natCast_one, sr]
 (first | refine call_plain (hl) (by first | rfl | simp only [parV, plQ, *]) ?_ | refine call_pure (hl) (by first | rfl | simp only [parV, plQ, *]) (by intro k; first | rfl | simp only [sq, sr, *]) ?_); simp only [↓pre, simprocAttr, parV, sx, tys129, onceFi, bne, postU, postA, storeE, allocE, put_at, push_at, f01, f02, o1, o2, f1, f2, f3, f4, q1, q2, q3, q4, t1, t2, t3, t4, me0, ww1, ww2, Int.natCast_zero, Int.cast_ofNat_Int, Int.natCast_one, z1, z2, sr]; (first | refine call_plain (hat) (by first | rfl | simp only [parV, plQ, *]) ?_ | refine call_pure (hat) (by first | rfl | simp only [parV, plQ, *]) (by intro k; first | rfl | simp only [sq, sr, *]) ?_); simp only [↓pre, simprocAttr, parV, sx, tys129, onceFi, bne, postU, postA, storeE, allocE, put_at, push_at, f01, f02, o1, o2, f1, f2, f3, f4, q1, q2, q3, q4, t1, t2, t3, t4, me0, ww1, ww2, Int.natCast_zero, Int.cast_ofNat_Int, Int.natCast_one, z1, z2, sr]
 unfold atI
 cases hh0 : hitB s0 b0 kd ver with
 | true =>
   simp only [↓pre, simprocAttr, parV, sx, tys129, onceFi, bne, postU, postA, storeE, allocE, put_at, push_at, f01, f02, o1, o2, f1, f2, f3, f4, q1, q2, q3, q4, t1, t2, t3, t4, me0, ww1, ww2, Int.natCast_zero, Int.cast_ofNat_Int, Int.natCast_one, sr]
   refine contW_fixed (by kernel_rfl) ?_
   simp only [↓pre, simprocAttr, parV, sx, tys129, onceFi, bne, postU, postA, storeE, allocE, put_at, push_at, f01, f02, o1, o2, f1, f2, f3, f4, q1, q2, q3, q4, t1, t2, t3, t4, me0, ww1, ww2, Int.natCast_zero, Int.cast_ofNat_Int, Int.natCast_one, sr]
   exact ⟨0, i0.out _⟩
 | false =>
   cases hh1 : hitB s1 b1 kd ver with
   | true =>
     simp only [↓pre, simprocAttr, parV, sx, tys129, onceFi, bne, postU, postA, storeE, allocE, put_at, push_at, f01, f02, o1, o2, f1, f2, f3, f4, q1, q2, q3, q4, t1, t2, t3, t4, me0, ww1, ww2, Int.natCast_zero, Int.cast_ofNat_Int, Int.natCast_one, sr]
     refine contW_fixed (by kernel_rfl) ?_
     simp only [↓pre, simprocAttr, parV, sx, tys129, onceFi, bne, postU, postA, storeE, allocE, put_at, push_at, f01, f02, o1, o2, f1, f2, f3, f4, q1, q2, q3, q4, t1, t2, t3, t4, me0, ww1, ww2, Int.natCast_zero, Int.cast_ofNat_Int, Int.natCast_one, sr]
     exact ⟨0, i1.out _⟩
   | false =>
     simp only [↓pre, simprocAttr, parV, sx, tys129, onceFi, bne, postU, postA, storeE, allocE, put_at, push_at, f01, f02, o1, o2, f1, f2, f3, f4, q1, q2, q3, q4, t1, t2, t3, t4, me0, ww1, ww2, Int.natCast_zero, Int.cast_ofNat_Int, Int.natCast_one, sr]
     exact ⟨0, i2.out _⟩
def olderN (k r c w:Int) (p:PairB) (ix kd keep:Int):Nat :=
 if 0 < keep∧hitS k r c w p.1 ix kd keep=true then 1 else if 0 < keep∧hitS k r c w p.2 ix kd keep=true then 0
 else if isOf k r c w p.1 ix=false then 0 else if isOf k r c w p.2 ix=false then 1
 else if (slA k r c w p.2).ce < (slA k r c w p.1).ce then 1 else 0
theorem row_at {k r c:Int} {ps:List PairB} (h:rowB k r c ps=true):(ps.length:Int)=k+r∧∀ p∈ps,pairB k r c p.1.length p.2.length=true:=by
 unfold rowB at h
 rw [Bool.and_eq_true] at h
 exact ⟨of_decide_eq_true h.1,fun p hp=>List.all_eq_true.1 h.2 p hp⟩
def lookI (k r c w:Int) (ps:List PairB):Int:=if mayB k r c w=true then (if rowB k r c ps=true then 0 else 120) else 2
theorem stripe_look (k r c w:Int) (v:AV) (ps:List PairB) (cells:List AV) (hv:RowV v ps cells):FSpec Tryz.prog 127 [parV k r c w,v] ⟨.tup [intV (if lookI k r c w ps=0 then sizeI k r c else 0),intV (lookI k r c w ps)],[]⟩:=by
 have hp:=hv.rd.plain
 have hd:=layout_Drives k r c w
 have hs:=slot_Size k r c w
 unfold lookI
 cases hm:mayB k r c w with
 | false =>
  simp only [hm,Bool.false_eq_true,if_false] at hd
  refine fspec_of_body follows Tryz.func127 (by unfold Tryz.f127;rfl) (by unfold Tryz.f127;simp) onceA (by unfold Tryz.f127;simp) (by kernel_rfl) ?_;unfold Tryz.f127
  simp only [↓pre,simprocAttr,parV,sx,tys127,onceA,postU]
  (first | refine call_plain (hd) (by first | rfl | simp only [parV,plQ, *]) ?_ | refine call_pure (hd) (by first | rfl | simp only [parV,plQ, *]) (by intro k;first | rfl | simp only [sq,sr, *]) ?_);simp only [↓pre,simprocAttr,parV,sx,tys127,onceA,postU,boolV,cond_t,cond_f]
 | true =>
  simp only [hm,if_true] at hd hs
  have hmn:=may_n hm
  by_cases hl:(ps.length:Int)=k+r
  ·replace hmn:=Hid.mk hmn
   generalize hres:(if rowB k r c ps=true then (0:Int) else 120)=E
   replace hres:=Hid.mk hres
   refine fspec_of_body follows Tryz.func127 (by unfold Tryz.f127;rfl) (by unfold Tryz.f127;simp) onceA (by unfold Tryz.f127;simp) (by kernel_rfl) ?_;unfold Tryz.f127
   simp only [↓pre,simprocAttr,parV,sx,tys127,onceA,postU,postA,Int.natCast_zero,Int.cast_ofNat_Int,Int.natCast_one,ww1,ww2,hv.rd.len',sr]
   (first | refine call_plain (hd) (by first | rfl | simp only [parV,plQ, *]) ?_ | refine call_pure (hd) (by first | rfl | simp only [parV,plQ, *]) (by intro k;first | rfl | simp only [sq,sr, *]) ?_);simp only [↓pre,simprocAttr,parV,sx,tys127,onceA,postU,postA,Int.natCast_zero,Int.cast_ofNat_Int,Int.natCast_one,ww1,ww2,hv.rd.len',hl,sr];(first | refine call_plain (hs) (by first | rfl | simp only [parV,plQ, *]) ?_ | refine call_pure (hs) (by first | rfl | simp only [parV,plQ, *]) (by intro k;first | rfl | simp only [sq,sr, *]) ?_);simp only [↓pre,simprocAttr,parV,sx,tys127,onceA,postU,postA,Int.natCast_zero,Int.cast_ofNat_Int,Int.natCast_one,ww1,ww2,hv.rd.len',hl,sr]
   rw [codeW_loop]
   refine loop_intro (fun q e m=>∃ i,q+i=ps.length∧e 4=intV (sizeI k r c)∧e 31=v∧e 32=intV (k+r)∧e 33=intV (i:Nat)∧Hid (∀ j p,j < i→ps[j]? = some p→pairB k r c p.1.length p.2.length=true)) ps.length ⟨0,by omega,rfl,rfl,by simp [Env.set,intV,hl],rfl,⟨fun j p h=>by omega⟩⟩ ?_
   rintro q e m ⟨i,hq,e4,e31,e32,e33,hJ⟩
   replace hq:=Hid.mk hq
   by_cases hlt:i < ps.length
   ·have hlt':((i:Nat):Int) < k+r:=by omega
    have wi:=wrap_succ (n:=i) (by have:=hmn.out;omega)
    obtain ⟨p,hpi⟩:∃ p,ps[i]? = some p:=⟨_,List.getElem?_eq_getElem hlt⟩
    obtain ⟨a,b,xa,xb,ha,hb,hra,hrb⟩:=hv.at_ i p hpi
    obtain ⟨ht,htl⟩:=take2 ha hb
    have fa:=rd_fz hra
    have fb:=rd_fz hrb
    have oa:=rd_one hra
    have ob:=rd_one hrb
    replace hpi:=Hid.mk hpi
    simp only [↓pre,simprocAttr,parV,sx,tys127,onceA,postU,postA,Int.natCast_zero,Int.cast_ofNat_Int,Int.natCast_one,ww1,ww2,storeE,allocE,put_at,push_at,e4,e31,e32,e33,hlt',hv.rd.addr',hlt,ht,htl,fa,fb,oa,ob,sr]
    rw [codeW_loop]
    refine loop_intro (fun q2 e m=>∃ kk,q2+kk=2∧e 4=intV (sizeI k r c)∧e 31=v∧e 32=intV (k+r)∧e 33=intV (i:Nat)∧e 37 = .agg [a,b]∧e 38=intV (kk:Nat)∧(1≤kk→lenB k r c p.1.length=true)∧(2≤kk→lenB k r c p.2.length=true)) 2 ⟨0,by omega,e4,e31,e32,e33,rfl,rfl,fun h=>by omega,fun h=>by omega⟩ ?_
    rintro q2 e m ⟨kk,hq2,e4,e31,e32,e33,e37,e38,c1,c2⟩
    have hbad:∀ n:Nat,(n=p.1.length∨n=p.2.length)→lenB k r c n=false→E=120:=fun n hn hb=>by
     rw [←hres.out]
     have:rowB k r c ps=false:=by
      cases h:rowB k r c ps with
      | false=>rfl
      | true =>
       have:=(row_at h).2 p (List.mem_of_getElem? hpi.out)
       unfold pairB at this
       rw [Bool.and_eq_true] at this
       rcases hn with rfl | rfl
       ·rw [this.1] at hb;cases hb
       ·rw [this.2] at hb;cases hb
     rw [this]
     rfl
    have hln:∀ n:Nat,lenB k r c n=(decide ((n:Int)=0) || decide ((n:Int)=sizeI k r c)):=fun _=>rfl
    obtain rfl | rfl | rfl:kk=0∨kk=1∨kk=2:=by omega
    ·replace hq2:=Hid.mk hq2
     clear c1 c2
     by_cases h1:(p.1.length:Int)=0
     ·simp only [↓pre,simprocAttr,parV,sx,tys127,onceA,postU,postA,Int.natCast_zero,Int.cast_ofNat_Int,Int.natCast_one,ww1,ww2,e4,e31,e32,e33,e37,e38,oa,ob,hra.len',h1,sr]
      exact ⟨q2 - 1,by have:=hq2.out;omega,1,by have:=hq2.out;omega,rfl,fun _=>by rw [hln,decide_eq_true h1];rfl,fun h=>by omega⟩
     ·by_cases h2:(p.1.length:Int)=sizeI k r c
      ·have hz:¬ sizeI k r c=0:=fun h=>h1 (h2.trans h)
       simp only [↓pre,simprocAttr,parV,sx,tys127,onceA,postU,postA,Int.natCast_zero,Int.cast_ofNat_Int,Int.natCast_one,ww1,ww2,e4,e31,e32,e33,e37,e38,oa,ob,hra.len',h2,hz,sr]
       exact ⟨q2 - 1,by have:=hq2.out;omega,1,by have:=hq2.out;omega,rfl,fun _=>by rw [hln,decide_eq_true h2,Bool.or_true],fun h=>by omega⟩
      ·have hE:=hbad _ (.inl rfl) (by rw [hln,decide_eq_false h1,decide_eq_false h2];rfl)
       subst hE
       simp only [↓pre,simprocAttr,parV,sx,tys127,onceA,postU,postA,Int.natCast_zero,Int.cast_ofNat_Int,Int.natCast_one,ww1,ww2,e4,e31,e32,e33,e37,e38,oa,ob,hra.len',h1,h2,sr]
    ·replace hq2:=Hid.mk hq2
     replace c1:=Hid.mk (c1 (by omega))
     clear c2
     by_cases h1:(p.2.length:Int)=0
     ·simp only [↓pre,simprocAttr,parV,sx,tys127,onceA,postU,postA,Int.natCast_zero,Int.cast_ofNat_Int,Int.natCast_one,ww1,ww2,e4,e31,e32,e33,e37,e38,oa,ob,hrb.len',h1,sr]
      exact ⟨q2 - 1,by have:=hq2.out;omega,2,by have:=hq2.out;omega,rfl,fun _=>c1.out,fun h=>by rw [hln,decide_eq_true h1];rfl⟩
     ·by_cases h2:(p.2.length:Int)=sizeI k r c
      ·have hz:¬ sizeI k r c=0:=fun h=>h1 (h2.trans h)
       simp only [↓pre,simprocAttr,parV,sx,tys127,onceA,postU,postA,Int.natCast_zero,Int.cast_ofNat_Int,Int.natCast_one,ww1,ww2,e4,e31,e32,e33,e37,e38,oa,ob,hrb.len',h2,hz,sr]
       exact ⟨q2 - 1,by have:=hq2.out;omega,2,by have:=hq2.out;omega,rfl,fun _=>c1.out,fun h=>by rw [hln,decide_eq_true h2,Bool.or_true]⟩
      ·have hE:=hbad _ (.inr rfl) (by rw [hln,decide_eq_false h1,decide_eq_false h2];rfl)
       subst hE
       simp only [↓pre,simprocAttr,parV,sx,tys127,onceA,postU,postA,Int.natCast_zero,Int.cast_ofNat_Int,Int.natCast_one,ww1,ww2,e4,e31,e32,e33,e37,e38,oa,ob,hrb.len',h1,h2,sr]
    ·replace c1:=Hid.mk (c1 (by omega))
     replace c2:=Hid.mk (c2 (by omega))
     simp only [↓pre,simprocAttr,parV,sx,tys127,onceA,postU,postA,Int.natCast_zero,Int.cast_ofNat_Int,Int.natCast_one,ww1,ww2,e4,e31,e32,e33,e37,e38,wi,sr]
     refine ⟨q - 1,by have:=hq.out;omega,i+1,by have:=hq.out;omega,rfl,⟨fun j p' hj hp' => ?_⟩⟩
     by_cases hji:j=i
     ·subst hji
      rw [hpi.out] at hp'
      cases hp'
      unfold pairB
      rw [c1.out,c2.out]
      rfl
     ·exact hJ.out j p' (by omega) hp'
   ·have hlt':¬ ((i:Nat):Int) < k+r:=by omega
    have hE:E=0:=by
     rw [←hres.out]
     have:rowB k r c ps=true:=by
      unfold rowB
      rw [decide_eq_true hl,Bool.true_and,List.all_eq_true]
      intro p hp
      obtain ⟨j,hj⟩:=List.getElem?_of_mem hp
      have:=(List.getElem?_eq_some_iff.1 hj).1
      exact hJ.out j p (by omega) hj
     rw [this]
     rfl
    subst hE
    simp only [↓pre,simprocAttr,parV,sx,tys127,onceA,postU,postA,Int.natCast_zero,Int.cast_ofNat_Int,Int.natCast_one,ww1,ww2,e4,e31,e32,e33,hlt',sr]
  ·have hr:rowB k r c ps=false:=by unfold rowB;rw [decide_eq_false hl];rfl
   rw [hr]
   refine fspec_of_body follows Tryz.func127 (by unfold Tryz.f127;rfl) (by unfold Tryz.f127;simp) onceA (by unfold Tryz.f127;simp) (by kernel_rfl) ?_;unfold Tryz.f127
   simp only [↓pre,simprocAttr,parV,sx,tys127,onceA,postU,hv.rd.len']
   (first | refine call_plain (hd) (by first | rfl | simp only [parV,plQ, *]) ?_ | refine call_pure (hd) (by first | rfl | simp only [parV,plQ, *]) (by intro k;first | rfl | simp only [sq,sr, *]) ?_);simp only [↓pre,simprocAttr,parV,sx,tys127,onceA,postU,hv.rd.len',hl,boolV,cond_t,cond_f];(first | refine call_plain (hs) (by first | rfl | simp only [parV,plQ, *]) ?_ | refine call_pure (hs) (by first | rfl | simp only [parV,plQ, *]) (by intro k;first | rfl | simp only [sq,sr, *]) ?_);simp only [↓pre,simprocAttr,parV,sx,tys127,onceA,postU,hv.rd.len',hl,boolV,cond_t,cond_f]
def kindsI (kd ver:Int):Int:=if (kd=1∨kd=2)∧verB ver=true then 0 else 2
theorem stripe_kinds (kd ver:Int):FSpec Tryz.prog 128 [.val (.int .u8 kd),intV ver] ⟨intV (kindsI kd ver),[]⟩:=by
 unfold kindsI verB
 by_cases h1:kd=1
 ·by_cases h3:ver < 1
  ·rw [if_neg (by simp;omega)]
   refine fspec_of_body follows Tryz.func128 (by unfold Tryz.f128;rfl) (by unfold Tryz.f128;simp) onceA (by unfold Tryz.f128;simp) (by kernel_rfl) ?_;unfold Tryz.f128
   simp only [↓pre,simprocAttr,parV,sx,tys128,onceA,postU,h1,h3,eq_self,pick_t,pick_f]
  ·by_cases h4:(1073741824:Int) < ver
   ·rw [if_neg (by simp;omega)]
    refine fspec_of_body follows Tryz.func128 (by unfold Tryz.f128;rfl) (by unfold Tryz.f128;simp) onceA (by unfold Tryz.f128;simp) (by kernel_rfl) ?_;unfold Tryz.f128
    simp only [↓pre,simprocAttr,parV,sx,tys128,onceA,postU,h1,h3,h4,eq_self,pick_t,pick_f]
   ·rw [if_pos ⟨.inl h1,by simp;omega⟩]
    refine fspec_of_body follows Tryz.func128 (by unfold Tryz.f128;rfl) (by unfold Tryz.f128;simp) onceA (by unfold Tryz.f128;simp) (by kernel_rfl) ?_;unfold Tryz.f128
    simp only [↓pre,simprocAttr,parV,sx,tys128,onceA,postU,h1,h3,h4,eq_self,pick_t,pick_f]
 ·by_cases h2:kd=2
  ·by_cases h3:ver < 1
   ·rw [if_neg (by simp;omega)]
    refine fspec_of_body follows Tryz.func128 (by unfold Tryz.f128;rfl) (by unfold Tryz.f128;simp) onceA (by unfold Tryz.f128;simp) (by kernel_rfl) ?_;unfold Tryz.f128
    simp only [↓pre,simprocAttr,parV,sx,tys128,onceA,postU,h2,h3,eq_self,pick_t,pick_f]
   ·by_cases h4:(1073741824:Int) < ver
    ·rw [if_neg (by simp;omega)]
     refine fspec_of_body follows Tryz.func128 (by unfold Tryz.f128;rfl) (by unfold Tryz.f128;simp) onceA (by unfold Tryz.f128;simp) (by kernel_rfl) ?_;unfold Tryz.f128
     simp only [↓pre,simprocAttr,parV,sx,tys128,onceA,postU,h2,h3,h4,eq_self,pick_t,pick_f]
    ·rw [if_pos ⟨.inr h2,by simp;omega⟩]
     refine fspec_of_body follows Tryz.func128 (by unfold Tryz.f128;rfl) (by unfold Tryz.f128;simp) onceA (by unfold Tryz.f128;simp) (by kernel_rfl) ?_;unfold Tryz.f128
     simp only [↓pre,simprocAttr,parV,sx,tys128,onceA,postU,h2,h3,h4,eq_self,pick_t,pick_f]
  ·rw [if_neg (by simp [h1,h2])]
   refine fspec_of_body follows Tryz.func128 (by unfold Tryz.f128;rfl) (by unfold Tryz.f128;simp) onceA (by unfold Tryz.f128;simp) (by kernel_rfl) ?_;unfold Tryz.f128
   simp only [↓pre,simprocAttr,parV,sx,tys128,onceA,postU,h1,h2,eq_self,pick_t,pick_f]
def askI (k r c w:Int) (ps:List PairB) (kd ver:Int):Int:=if lookI k r c w ps=0 then kindsI kd ver else lookI k r c w ps
theorem stripe_asked (k r c w:Int) (v:AV) (ps:List PairB) (cells:List AV) (hv:RowV v ps cells) (kd ver:Int):FSpec Tryz.prog 86 [parV k r c w,v,.val (.int .u8 kd),intV ver] ⟨intV (askI k r c w ps kd ver),[]⟩:=by
 have hp:=hv.rd.plain
 have h1:=stripe_look k r c w v ps cells hv
 have h2:=stripe_kinds kd ver
 unfold askI
 by_cases h:lookI k r c w ps=0
 ·rw [h] at h1
  simp only [h,if_true] at h1 ⊢
  refine fspec_of_body follows Tryz.func86 (by unfold Tryz.f86;rfl) (by unfold Tryz.f86;simp) onceA (by unfold Tryz.f86;simp) (by kernel_rfl) ?_;unfold Tryz.f86
  simp only [↓pre,simprocAttr,parV,sx,tys86,onceA,postU]
  (first | refine call_plain (h1) (by first | rfl | simp only [parV,plQ, *]) ?_ | refine call_pure (h1) (by first | rfl | simp only [parV,plQ, *]) (by intro k;first | rfl | simp only [sq,sr, *]) ?_);simp only [↓pre,simprocAttr,parV,sx,tys86,onceA,postU,eq_self];(first | refine call_plain (h2) (by first | rfl | simp only [parV,plQ, *]) ?_ | refine call_pure (h2) (by first | rfl | simp only [parV,plQ, *]) (by intro k;first | rfl | simp only [sq,sr, *]) ?_);simp only [↓pre,simprocAttr,parV,sx,tys86,onceA,postU,eq_self]
 ·rw [if_neg h]
  simp only [if_neg h] at h1
  refine fspec_of_body follows Tryz.func86 (by unfold Tryz.f86;rfl) (by unfold Tryz.f86;simp) onceA (by unfold Tryz.f86;simp) (by kernel_rfl) ?_;unfold Tryz.f86
  simp only [↓pre,simprocAttr,parV,sx,tys86,onceA,postU]
  (first | refine call_plain (h1) (by first | rfl | simp only [parV,plQ, *]) ?_ | refine call_pure (h1) (by first | rfl | simp only [parV,plQ, *]) (by intro k;first | rfl | simp only [sq,sr, *]) ?_);simp only [↓pre,simprocAttr,parV,sx,tys86,onceA,postU,h]
def toldB (k r c w:Int) (bs:List UInt8) (ix kd ver:Int):Bool:=isSlot k r c w bs && (decide ((slA k r c w bs).kd=kd) && (decide ((slA k r c w bs).ix=ix) && decide ((slA k r c w bs).st=ver)))
def told1 (k r c w:Int) (p:PairB) (ix kd ver:Int):Option (List Int):=if toldB k r c w p.1 ix kd ver=true then some (slotC k r p.1).vec else if toldB k r c w p.2 ix kd ver=true then some (slotC k r p.2).vec else none
def toldN (k r c w:Int) (ps:List PairB) (kd ver:Int):Nat→Option (List Int)
 | 0=>none
 | n+1=>(toldN k r c w ps kd ver n).or (told1 k r c w (ps.getD n ([],[])) (n:Nat) kd ver)
def toldL (k r c w:Int) (ps:List PairB) (kd ver:Int):Option (List Int):=toldN k r c w ps kd ver ps.length
theorem toldN_stay {k r c w : Int} {ps : List PairB} {kd ver : Int} {n : Nat} {l : List Int} (h : toldN k r c w ps kd ver n = some l) : ∀ m, n ≤ m → toldN k r c w ps kd ver m = some l
 | 0, hm => by have : n = 0 := by omega
               subst this; exact h
 | m + 1, hm => by
   by_cases e : n = m + 1
   · subst e; exact h
   · unfold toldN
     rw [toldN_stay h m (by omega)]
     rfl
def vecA:Option (List Int)→AV
 | some l => .tree l.length l.length (intsA l) false
 | none=>nilS
theorem slA_vv {k r c w:Int} {bs:List UInt8} (h:isSlot k r c w bs=true):(slA k r c w bs).vv=vecA (some (slotC k r bs).vec):=by
 unfold slA
 rw [if_pos h]
 rfl
theorem slA_dv {k r c w:Int} {bs:List UInt8} (h:isSlot k r c w bs=true):(slA k r c w bs).dv = .tree (slotC k r bs).data.length (slotC k r bs).data.length (bytesA (slotC k r bs).data) false:=by
 unfold slA
 rw [if_pos h]
 rfl
theorem stripe_told (k r c w kd ver:Int) (v:AV) (ps:List PairB) (cells:List AV) (hv:RowV v ps cells) (hm:mayB k r c w=true) (hr:rowB k r c ps=true):FSpec Tryz.prog 125 [parV k r c w,v,.val (.int .u8 kd),intV ver] ⟨vecA (toldL k r c w ps kd ver),[]⟩:=by
 refine fspec_fzT ?_
 have hp:=hv.rd.plain
 have hmn:=may_n hm
 obtain ⟨hl,hpr⟩:=row_at hr
 generalize hres:toldL k r c w ps kd ver=T
 replace hres:=Hid.mk hres
 replace hmn:=Hid.mk hmn
 replace hpr:=Hid.mk hpr
 have hl16:ps.length≤16:=by have:=hmn.out;omega
 replace hl:=Hid.mk hl
 refine ospec_of_body follows Tryz.func125 (by unfold Tryz.f125;rfl) (by unfold Tryz.f125;simp) onceA (by unfold Tryz.f125;simp) (by kernel_rfl) ?_;unfold Tryz.f125
 simp only [↓pre,simprocAttr,parV,sx,tys125,onceA,postU,postA,Int.natCast_zero,Int.cast_ofNat_Int,Int.natCast_one,ww1,ww2,storeE,allocE,put_at,push_at,hv.rd.len',sr]
 rw [codeW_loop]
 refine loop_intro (fun q e m=>∃ i,q+i=ps.length∧e 2 = .val (.int .u8 kd)∧e 3=intV ver∧e 4 = .tptr 0 [intV k,intV r,intV c,intV w]∧e 16=v∧e 17=intV (ps.length:Nat)∧e 18=intV (i:Nat)∧Hid (toldN k r c w ps kd ver i=none)) ps.length ⟨0,by omega,rfl,rfl,rfl,rfl,rfl,rfl,⟨rfl⟩⟩ ?_
 rintro q e m ⟨i,hq,e2,e3,e4,e16,e17,e18,hJ⟩
 replace hq:=Hid.mk hq
 by_cases hlt:i < ps.length
 ·have hlt':((i:Nat):Int) < ((ps.length:Nat):Int):=by omega
  have wi:=wrap_succ (n:=i) (by omega)
  obtain ⟨p,hpi⟩:∃ p,ps[i]? = some p:=⟨_,List.getElem?_eq_getElem hlt⟩
  obtain ⟨a,b,xa,xb,ha,hb,hra,hrb⟩:=hv.at_ i p hpi
  have hpp:=hpr.out p (List.mem_of_getElem? hpi)
  unfold pairB at hpp
  rw [Bool.and_eq_true] at hpp
  have hP0:=slot_Parse_ok k r c w a p.1 xa hra hm hpp.1
  have hP1:=slot_Parse_ok k r c w b p.2 xb hrb hm hpp.2
  obtain ⟨ht,htl⟩:=take2 ha hb
  have fa:=rd_fz hra
  have fb:=rd_fz hrb
  have oa:=rd_one hra
  have ob:=rd_one hrb
  have hgd:ps.getD i ([],[])=p:=by rw [List.getD_eq_getElem?_getD,hpi];rfl
  have hstep:toldN k r c w ps kd ver (i+1)=told1 k r c w p (i:Nat) kd ver:=by
   show (toldN k r c w ps kd ver i).or _=_
   rw [hJ.out,hgd]
   rfl
  have hdone:∀ l,told1 k r c w p (i:Nat) kd ver=some l→T=some l:=fun l h=>by
   rw [←hres.out]
   exact toldN_stay (hstep.trans h) _ (by omega)
  have hvv0:isSlot k r c w p.1=true→(slA k r c w p.1).vv=vecA (some (slotC k r p.1).vec):=slA_vv
  have hvv1:isSlot k r c w p.2=true→(slA k r c w p.2).vv=vecA (some (slotC k r p.2).vec):=slA_vv
  have hR0:=slA_rd k r c w p.1
  have hR1:=slA_rd k r c w p.2
  have htd:told1 k r c w p (i:Nat) kd ver=if toldB k r c w p.1 (i:Nat) kd ver=true then some (slotC k r p.1).vec else if toldB k r c w p.2 (i:Nat) kd ver=true then some (slotC k r p.2).vec else none:=rfl
  generalize told1 k r c w p (i:Nat) kd ver=T1 at *
  have hB0:toldB k r c w p.1 (i:Nat) kd ver=(isSlot k r c w p.1 && (decide ((slA k r c w p.1).kd=kd) && (decide ((slA k r c w p.1).ix=(i:Nat)) && decide ((slA k r c w p.1).st=ver)))):=rfl
  have hB1:toldB k r c w p.2 (i:Nat) kd ver=(isSlot k r c w p.2 && (decide ((slA k r c w p.2).kd=kd) && (decide ((slA k r c w p.2).ix=(i:Nat)) && decide ((slA k r c w p.2).st=ver)))):=rfl
  generalize toldB k r c w p.1 (i:Nat) kd ver=B0 at *
  generalize toldB k r c w p.2 (i:Nat) kd ver=B1 at *
  generalize slA k r c w p.1=s0 at *
  generalize slA k r c w p.2=s1 at *
  generalize isSlot k r c w p.1=i0 at *
  generalize isSlot k r c w p.2=i1 at *
  generalize (slotC k r p.1).vec=l0 at *
  generalize (slotC k r p.2).vec=l1 at *
  obtain ⟨⟨n1,y1,g1⟩,⟨n2,y2,g2⟩⟩:=hR0
  obtain ⟨⟨n3,y3,g3⟩,⟨n4,y4,g4⟩⟩:=hR1
  have f1:=rd_fz g1
  have f2:=rd_fz g2
  have f3:=rd_fz g3
  have f4:=rd_fz g4
  have q1:=rd_one g1
  have q2:=rd_one g2
  have q3:=rd_one g3
  have q4:=rd_one g4
  have t1:=rd_shift g1
  have t2:=rd_shift g2
  have t3:=rd_shift g3
  have t4:=rd_shift g4
  have pa:=hra.plain
  have pb:=hrb.plain
  simp only [SlA.cells] at hP0 hP1
  replace hpi:=Hid.mk hpi
  replace hgd:=Hid.mk hgd
  replace hstep:=Hid.mk hstep
  replace hdone:=Hid.mk hdone
  replace hvv0:=Hid.mk hvv0
  replace hvv1:=Hid.mk hvv1
  replace htd:=Hid.mk htd
  replace hB0:=Hid.mk hB0
  replace hB1:=Hid.mk hB1
  simp only [↓pre,simprocAttr,parV,sx,tys125,onceA,postU,postA,Int.natCast_zero,Int.cast_ofNat_Int,Int.natCast_one,ww1,ww2,storeE,allocE,put_at,push_at,fa,fb,oa,ob,f1,f2,f3,f4,q1,q2,q3,q4,t1,t2,t3,t4,e2,e3,e4,e16,e17,e18,hlt',hv.rd.addr',hlt,ht,htl,sr]
  rw [codeW_loop]
  refine loop_intro (fun q2 e m=>∃ kk,q2+kk=2∧e 2 = .val (.int .u8 kd)∧e 3=intV ver∧e 4 = .tptr 0 [intV k,intV r,intV c,intV w]∧e 9=intV (i:Nat)∧e 16=v∧e 17=intV (ps.length:Nat)∧e 18=intV (i:Nat)∧e 23 = .agg [a,b]∧e 24=intV (kk:Nat)∧(1≤kk→B0=false)∧(2≤kk→B1=false)) 2 ⟨0,by omega,e2,e3,e4,rfl,e16,e17,e18,rfl,rfl,fun h=>by omega,fun h=>by omega⟩ ?_
  rintro q2' e m ⟨kk,hq2,e2,e3,e4,e9,e16,e17,e18,e23,e24,c1,c2⟩
  obtain rfl | rfl | rfl:kk=0∨kk=1∨kk=2:=by omega
  ·replace hq2:=Hid.mk hq2
   clear c1 c2
   have hno:B0=false→∃ n',n' < q2'∧n'+1=2∧(1≤1→B0=false)∧(2≤1→B1=false):=fun h=>⟨q2' - 1,by have:=hq2.out;omega,by have:=hq2.out;omega,fun _=>h,fun h=>by omega⟩
   replace hno:=Hid.mk hno
   cases i0 with
   | false =>
    simp only [↓pre,simprocAttr,parV,sx,tys125,onceA,postU,postA,Int.natCast_zero,Int.cast_ofNat_Int,Int.natCast_one,ww1,ww2,storeE,allocE,put_at,push_at,fa,fb,oa,ob,f1,f2,f3,f4,q1,q2,q3,q4,t1,t2,t3,t4,e2,e3,e4,e9,e16,e17,e18,e23,e24,sr]
    (first | refine call_plain (hP0) (by first | rfl | simp only [parV,plQ, *]) ?_ | refine call_pure (hP0) (by first | rfl | simp only [parV,plQ, *]) (by intro k;first | rfl | simp only [sq,sr, *]) ?_);simp only [↓pre,simprocAttr,parV,sx,tys125,onceA,postU,postA,Int.natCast_zero,Int.cast_ofNat_Int,Int.natCast_one,ww1,ww2,storeE,allocE,put_at,push_at,fa,fb,oa,ob,f1,f2,f3,f4,q1,q2,q3,q4,t1,t2,t3,t4,e2,e3,e4,e9,e16,e17,e18,e23,e24,sr]
    obtain ⟨n',h1,h2,h3,h4⟩:=hno.out (by rw [hB0.out];rfl)
    exact ⟨n',h1,1,h2,rfl,h3,h4⟩
   | true =>
    by_cases k1:s0.kd=kd
    ·by_cases k2:s0.ix=(i:Nat)
     ·by_cases k3:s0.st=ver
      ·have hT:=hdone.out l0 (by rw [htd.out,hB0.out,decide_eq_true k1,decide_eq_true k2,decide_eq_true k3];rfl)
       have hvv:=hvv0.out rfl
       have hf:=fun m=>fzT_rd (k:=0) (m:=m) g1
       rw [hvv] at hf
       replace hvv:=Hid.mk hvv
       subst hT
       replace hf:=Hid.mk hf
       simp only [↓pre,simprocAttr,parV,sx,tys125,onceA,postU,postA,Int.natCast_zero,Int.cast_ofNat_Int,Int.natCast_one,ww1,ww2,storeE,allocE,put_at,push_at,fa,fb,oa,ob,f1,f2,f3,f4,q1,q2,q3,q4,t1,t2,t3,t4,e2,e3,e4,e9,e16,e17,e18,e23,e24,sr]
       (first | refine call_plain (hP0) (by first | rfl | simp only [parV,plQ, *]) ?_ | refine call_pure (hP0) (by first | rfl | simp only [parV,plQ, *]) (by intro k;first | rfl | simp only [sq,sr, *]) ?_);simp only [↓pre,simprocAttr,parV,sx,tys125,onceA,postU,postA,Int.natCast_zero,Int.cast_ofNat_Int,Int.natCast_one,ww1,ww2,storeE,allocE,put_at,push_at,fa,fb,oa,ob,f1,f2,f3,f4,q1,q2,q3,q4,t1,t2,t3,t4,e2,e3,e4,e9,e16,e17,e18,e23,e24,k1,k2,k3,sr]
       rw [hvv.out]
       exact ⟨0,hf.out _⟩
      ·simp only [↓pre,simprocAttr,parV,sx,tys125,onceA,postU,postA,Int.natCast_zero,Int.cast_ofNat_Int,Int.natCast_one,ww1,ww2,storeE,allocE,put_at,push_at,fa,fb,oa,ob,f1,f2,f3,f4,q1,q2,q3,q4,t1,t2,t3,t4,e2,e3,e4,e9,e16,e17,e18,e23,e24,sr]
       (first | refine call_plain (hP0) (by first | rfl | simp only [parV,plQ, *]) ?_ | refine call_pure (hP0) (by first | rfl | simp only [parV,plQ, *]) (by intro k;first | rfl | simp only [sq,sr, *]) ?_);simp only [↓pre,simprocAttr,parV,sx,tys125,onceA,postU,postA,Int.natCast_zero,Int.cast_ofNat_Int,Int.natCast_one,ww1,ww2,storeE,allocE,put_at,push_at,fa,fb,oa,ob,f1,f2,f3,f4,q1,q2,q3,q4,t1,t2,t3,t4,e2,e3,e4,e9,e16,e17,e18,e23,e24,k1,k2,k3,sr]
       obtain ⟨n',h1,h2,h3,h4⟩:=hno.out (by rw [hB0.out,decide_eq_false k3];simp)
       exact ⟨n',h1,1,h2,rfl,h3,h4⟩
     ·simp only [↓pre,simprocAttr,parV,sx,tys125,onceA,postU,postA,Int.natCast_zero,Int.cast_ofNat_Int,Int.natCast_one,ww1,ww2,storeE,allocE,put_at,push_at,fa,fb,oa,ob,f1,f2,f3,f4,q1,q2,q3,q4,t1,t2,t3,t4,e2,e3,e4,e9,e16,e17,e18,e23,e24,sr]
      (first | refine call_plain (hP0) (by first | rfl | simp only [parV,plQ, *]) ?_ | refine call_pure (hP0) (by first | rfl | simp only [parV,plQ, *]) (by intro k;first | rfl | simp only [sq,sr, *]) ?_);simp only [↓pre,simprocAttr,parV,sx,tys125,onceA,postU,postA,Int.natCast_zero,Int.cast_ofNat_Int,Int.natCast_one,ww1,ww2,storeE,allocE,put_at,push_at,fa,fb,oa,ob,f1,f2,f3,f4,q1,q2,q3,q4,t1,t2,t3,t4,e2,e3,e4,e9,e16,e17,e18,e23,e24,k1,k2,sr]
      obtain ⟨n',h1,h2,h3,h4⟩:=hno.out (by rw [hB0.out,decide_eq_false k2];simp)
      exact ⟨n',h1,1,h2,rfl,h3,h4⟩
    ·simp only [↓pre,simprocAttr,parV,sx,tys125,onceA,postU,postA,Int.natCast_zero,Int.cast_ofNat_Int,Int.natCast_one,ww1,ww2,storeE,allocE,put_at,push_at,fa,fb,oa,ob,f1,f2,f3,f4,q1,q2,q3,q4,t1,t2,t3,t4,e2,e3,e4,e9,e16,e17,e18,e23,e24,sr]
     (first | refine call_plain (hP0) (by first | rfl | simp only [parV,plQ, *]) ?_ | refine call_pure (hP0) (by first | rfl | simp only [parV,plQ, *]) (by intro k;first | rfl | simp only [sq,sr, *]) ?_);simp only [↓pre,simprocAttr,parV,sx,tys125,onceA,postU,postA,Int.natCast_zero,Int.cast_ofNat_Int,Int.natCast_one,ww1,ww2,storeE,allocE,put_at,push_at,fa,fb,oa,ob,f1,f2,f3,f4,q1,q2,q3,q4,t1,t2,t3,t4,e2,e3,e4,e9,e16,e17,e18,e23,e24,k1,sr]
     obtain ⟨n',h1,h2,h3,h4⟩:=hno.out (by rw [hB0.out,decide_eq_false k1];simp)
     exact ⟨n',h1,1,h2,rfl,h3,h4⟩
  ·replace hq2:=Hid.mk hq2
   replace c1:=Hid.mk (c1 (by omega))
   clear c2
   have hno:B1=false→∃ n',n' < q2'∧n'+2=2∧(1≤2→B0=false)∧(2≤2→B1=false):=fun h=>⟨q2' - 1,by have:=hq2.out;omega,by have:=hq2.out;omega,fun _=>c1.out,fun _=>h⟩
   replace hno:=Hid.mk hno
   cases i1 with
   | false =>
    simp only [↓pre,simprocAttr,parV,sx,tys125,onceA,postU,postA,Int.natCast_zero,Int.cast_ofNat_Int,Int.natCast_one,ww1,ww2,storeE,allocE,put_at,push_at,fa,fb,oa,ob,f1,f2,f3,f4,q1,q2,q3,q4,t1,t2,t3,t4,e2,e3,e4,e9,e16,e17,e18,e23,e24,sr]
    (first | refine call_plain (hP1) (by first | rfl | simp only [parV,plQ, *]) ?_ | refine call_pure (hP1) (by first | rfl | simp only [parV,plQ, *]) (by intro k;first | rfl | simp only [sq,sr, *]) ?_);simp only [↓pre,simprocAttr,parV,sx,tys125,onceA,postU,postA,Int.natCast_zero,Int.cast_ofNat_Int,Int.natCast_one,ww1,ww2,storeE,allocE,put_at,push_at,fa,fb,oa,ob,f1,f2,f3,f4,q1,q2,q3,q4,t1,t2,t3,t4,e2,e3,e4,e9,e16,e17,e18,e23,e24,sr]
    obtain ⟨n',h1,h2,h3,h4⟩:=hno.out (by rw [hB1.out];rfl)
    exact ⟨n',h1,2,h2,rfl,h3,h4⟩
   | true =>
    by_cases k1:s1.kd=kd
    ·by_cases k2:s1.ix=(i:Nat)
     ·by_cases k3:s1.st=ver
      ·have hT:=hdone.out l1 (by rw [htd.out,c1.out,hB1.out,decide_eq_true k1,decide_eq_true k2,decide_eq_true k3];rfl)
       have hvv:=hvv1.out rfl
       have hf:=fun m=>fzT_rd (k:=0) (m:=m) g3
       rw [hvv] at hf
       replace hvv:=Hid.mk hvv
       subst hT
       replace hf:=Hid.mk hf
       simp only [↓pre,simprocAttr,parV,sx,tys125,onceA,postU,postA,Int.natCast_zero,Int.cast_ofNat_Int,Int.natCast_one,ww1,ww2,storeE,allocE,put_at,push_at,fa,fb,oa,ob,f1,f2,f3,f4,q1,q2,q3,q4,t1,t2,t3,t4,e2,e3,e4,e9,e16,e17,e18,e23,e24,sr]
       (first | refine call_plain (hP1) (by first | rfl | simp only [parV,plQ, *]) ?_ | refine call_pure (hP1) (by first | rfl | simp only [parV,plQ, *]) (by intro k;first | rfl | simp only [sq,sr, *]) ?_);simp only [↓pre,simprocAttr,parV,sx,tys125,onceA,postU,postA,Int.natCast_zero,Int.cast_ofNat_Int,Int.natCast_one,ww1,ww2,storeE,allocE,put_at,push_at,fa,fb,oa,ob,f1,f2,f3,f4,q1,q2,q3,q4,t1,t2,t3,t4,e2,e3,e4,e9,e16,e17,e18,e23,e24,k1,k2,k3,sr]
       rw [hvv.out]
       exact ⟨0,hf.out _⟩
      ·simp only [↓pre,simprocAttr,parV,sx,tys125,onceA,postU,postA,Int.natCast_zero,Int.cast_ofNat_Int,Int.natCast_one,ww1,ww2,storeE,allocE,put_at,push_at,fa,fb,oa,ob,f1,f2,f3,f4,q1,q2,q3,q4,t1,t2,t3,t4,e2,e3,e4,e9,e16,e17,e18,e23,e24,sr]
       (first | refine call_plain (hP1) (by first | rfl | simp only [parV,plQ, *]) ?_ | refine call_pure (hP1) (by first | rfl | simp only [parV,plQ, *]) (by intro k;first | rfl | simp only [sq,sr, *]) ?_);simp only [↓pre,simprocAttr,parV,sx,tys125,onceA,postU,postA,Int.natCast_zero,Int.cast_ofNat_Int,Int.natCast_one,ww1,ww2,storeE,allocE,put_at,push_at,fa,fb,oa,ob,f1,f2,f3,f4,q1,q2,q3,q4,t1,t2,t3,t4,e2,e3,e4,e9,e16,e17,e18,e23,e24,k1,k2,k3,sr]
       obtain ⟨n',h1,h2,h3,h4⟩:=hno.out (by rw [hB1.out,decide_eq_false k3];simp)
       exact ⟨n',h1,2,h2,rfl,h3,h4⟩
     ·simp only [↓pre,simprocAttr,parV,sx,tys125,onceA,postU,postA,Int.natCast_zero,Int.cast_ofNat_Int,Int.natCast_one,ww1,ww2,storeE,allocE,put_at,push_at,fa,fb,oa,ob,f1,f2,f3,f4,q1,q2,q3,q4,t1,t2,t3,t4,e2,e3,e4,e9,e16,e17,e18,e23,e24,sr]
      (first | refine call_plain (hP1) (by first | rfl | simp only [parV,plQ, *]) ?_ | refine call_pure (hP1) (by first | rfl | simp only [parV,plQ, *]) (by intro k;first | rfl | simp only [sq,sr, *]) ?_);simp only [↓pre,simprocAttr,parV,sx,tys125,onceA,postU,postA,Int.natCast_zero,Int.cast_ofNat_Int,Int.natCast_one,ww1,ww2,storeE,allocE,put_at,push_at,fa,fb,oa,ob,f1,f2,f3,f4,q1,q2,q3,q4,t1,t2,t3,t4,e2,e3,e4,e9,e16,e17,e18,e23,e24,k1,k2,sr]
      obtain ⟨n',h1,h2,h3,h4⟩:=hno.out (by rw [hB1.out,decide_eq_false k2];simp)
      exact ⟨n',h1,2,h2,rfl,h3,h4⟩
    ·simp only [↓pre,simprocAttr,parV,sx,tys125,onceA,postU,postA,Int.natCast_zero,Int.cast_ofNat_Int,Int.natCast_one,ww1,ww2,storeE,allocE,put_at,push_at,fa,fb,oa,ob,f1,f2,f3,f4,q1,q2,q3,q4,t1,t2,t3,t4,e2,e3,e4,e9,e16,e17,e18,e23,e24,sr]
     (first | refine call_plain (hP1) (by first | rfl | simp only [parV,plQ, *]) ?_ | refine call_pure (hP1) (by first | rfl | simp only [parV,plQ, *]) (by intro k;first | rfl | simp only [sq,sr, *]) ?_);simp only [↓pre,simprocAttr,parV,sx,tys125,onceA,postU,postA,Int.natCast_zero,Int.cast_ofNat_Int,Int.natCast_one,ww1,ww2,storeE,allocE,put_at,push_at,fa,fb,oa,ob,f1,f2,f3,f4,q1,q2,q3,q4,t1,t2,t3,t4,e2,e3,e4,e9,e16,e17,e18,e23,e24,k1,sr]
     obtain ⟨n',h1,h2,h3,h4⟩:=hno.out (by rw [hB1.out,decide_eq_false k1];simp)
     exact ⟨n',h1,2,h2,rfl,h3,h4⟩
  ·replace c1:=Hid.mk (c1 (by omega))
   replace c2:=Hid.mk (c2 (by omega))
   simp only [↓pre,simprocAttr,parV,sx,tys125,onceA,postU,postA,Int.natCast_zero,Int.cast_ofNat_Int,Int.natCast_one,ww1,ww2,storeE,allocE,put_at,push_at,fa,fb,oa,ob,f1,f2,f3,f4,q1,q2,q3,q4,t1,t2,t3,t4,e2,e3,e4,e9,e16,e17,e18,e23,e24,wi,sr]
   refine ⟨q - 1,by have:=hq.out;omega,i+1,by have:=hq.out;omega,rfl,⟨?_⟩⟩
   rw [hstep.out,htd.out,c1.out,c2.out]
   rfl
 ·have hlt':¬ ((i:Nat):Int) < ((ps.length:Nat):Int):=by omega
  have hi:i=ps.length:=by have:=hq.out;omega
  have hT:T=none:=by rw [←hres.out];unfold toldL;rw [←hi];exact hJ.out
  subst hT
  simp only [↓pre,simprocAttr,parV,sx,tys125,onceA,postU,postA,Int.natCast_zero,Int.cast_ofNat_Int,Int.natCast_one,ww1,ww2,storeE,allocE,put_at,push_at,e2,e3,e4,e16,e17,e18,hlt',sr]
  exact ⟨0,by unfold vecA nilS;rw [fzT_val]⟩
structure SlotOk (k r c w:Int) (s:SlotC):Prop where
 vec:vecE k r c w s.vec=0
 st:s.st=lastI s.vec
 ix0:0≤s.ix
 ix1:s.ix < s.vec.length
 kd:s.kd=1∨s.kd=2
 ce:s.vec[s.ix.toNat]? = some s.ce
 data:(s.data.length:Int)=c
theorem slot_ok {k r c w:Int} {bs:List UInt8} (h:isSlot k r c w bs=true):SlotOk k r c w (slotC k r bs):=by
 unfold isSlot maySC mayS at h
 simp only [Bool.and_eq_true,decide_eq_true_eq,Bool.or_eq_true] at h
 obtain ⟨h1,h2,h3,h4,h5,h6,h7,h8,h9⟩:=h
 exact ⟨h4,h5,h6.1,h6.2,h7,h8,h9⟩
theorem vec_ok {k r c w:Int} {l:List Int} (h:vecE k r c w l=0):(l.length:Int)=k+r∧∀ v∈l,1≤v∧v≤1073741824:=by
 unfold vecE at h
 split at h
 ·split at h
  ·split at h
   ·omega
   ·rename_i h1 h2 h3
    refine ⟨h2,fun v hv => ?_⟩
    have:¬ (l.any fun n => !verB n)=true:=h3
    rw [List.any_eq_true] at this
    have h4:verB v=true:=by
     cases hb:verB v with
     | true=>rfl
     | false=>exact absurd ⟨v,hv,by rw [hb];rfl⟩ this
    unfold verB at h4
    exact of_decide_eq_true h4
  ·omega
 ·omega
theorem told1_some {k r c w:Int} {p:PairB} {ix kd ver:Int} {l:List Int} (h:told1 k r c w p ix kd ver=some l):vecE k r c w l=0∧∃ bs,(bs=p.1∨bs=p.2)∧toldB k r c w bs ix kd ver=true∧l=(slotC k r bs).vec:=by
 unfold told1 at h
 split at h
 ·rename_i h1
  cases h
  have h2:=h1
  unfold toldB at h1
  rw [Bool.and_eq_true] at h1
  exact ⟨(slot_ok h1.1).vec,_,.inl rfl,h2,rfl⟩
 ·split at h
  ·rename_i h1
   cases h
   have h2:=h1
   unfold toldB at h1
   rw [Bool.and_eq_true] at h1
   exact ⟨(slot_ok h1.1).vec,_,.inr rfl,h2,rfl⟩
  ·cases h
theorem toldN_some {k r c w:Int} {ps:List PairB} {kd ver:Int}:∀ (n:Nat) (l:List Int),toldN k r c w ps kd ver n=some l→∃ i,i < n∧told1 k r c w (ps.getD i ([],[])) (i:Nat) kd ver=some l
 | 0,l,h=>by cases h
 | n+1,l,h=>by
  unfold toldN at h
  cases h1:toldN k r c w ps kd ver n with
  | some l' =>
   rw [h1] at h
   cases h
   obtain ⟨i,hi,h2⟩:=toldN_some n _ h1
   exact ⟨i,by omega,h2⟩
  | none =>
   rw [h1] at h
   exact ⟨n,by omega,h⟩
theorem told_ok {k r c w:Int} {ps:List PairB} {kd ver:Int} {l:List Int} (h:toldL k r c w ps kd ver=some l):(l.length:Int)=k+r∧∀ v∈l,1≤v∧v≤1073741824:=by
 obtain ⟨i,hi,h2⟩:=toldN_some _ _ h
 exact vec_ok (told1_some h2).1
def findO (k r c w:Int) (p:PairB) (ix kd ver:Int):Option SlA:=if hitS k r c w p.1 ix kd ver=true then some (slA k r c w p.1) else if hitS k r c w p.2 ix kd ver=true then some (slA k r c w p.2) else none
theorem findV_some {k r c w:Int} {p:PairB} {ix kd ver:Int} {s:SlA} (h:findO k r c w p ix kd ver=some s):s.Rd∧∃ n,findV k r c w p ix kd ver = .tup [intV n,s.v,boolV true,intV 0]:=by
 unfold findO at h
 unfold findV
 split at h
 ·rename_i h1;cases h;exact ⟨slA_rd _ _ _ _ _,0,by rw [if_pos h1]⟩
 ·rename_i h1
  split at h
  ·rename_i h2;cases h;exact ⟨slA_rd _ _ _ _ _,1,by rw [if_neg h1,if_pos h2]⟩
  ·cases h
theorem findV_none {k r c w:Int} {p:PairB} {ix kd ver:Int} (h:findO k r c w p ix kd ver=none):findV k r c w p ix kd ver = .tup [intV 0,slA0.v,boolV false,intV 0]:=by
 unfold findO at h
 unfold findV
 split at h
 ·cases h
 ·rename_i h1
  split at h
  ·cases h
  ·rename_i h2;rw [if_neg h1,if_neg h2]
def onceEa:Nat→Bool:=fun d=>d != 13
theorem stripe_each (k r c w kd ver : Int) (v : AV) (ps : List PairB) (cells : List AV) (hv : RowV v ps cells) (hm : mayB k r c w = true) (hr : rowB k r c ps = true) (hk : kd = 1 ∨ kd = 2) (m0 : Mem) (g : FuncId) (caps : List AV) (Inv : Nat → Mem → Prop) (h0 : Inv 0 m0) (hkeep : ∀ i m m', Inv i m → Kept m m' → Inv i m')
   (hdo : ∀ (l : List Int) (i : Nat) (p : PairB) (m : Mem) (s : SlA), toldL k r c w ps kd ver = some l → i < ps.length → ps[i]? = some p → findO k r c w p (i : Nat) kd (l.getD i 0) = some s → Inv i m → OSpec Tryz.prog g (intV (i : Nat) :: .agg s.cells :: caps) m fun res m' => res = .tup [] ∧ Inv (i + 1) m')
   (hno : ∀ (l : List Int) (i : Nat) (p : PairB) (m : Mem), toldL k r c w ps kd ver = some l → i < ps.length → ps[i]? = some p → findO k r c w p (i : Nat) kd (l.getD i 0) = none → Inv i m → Inv (i + 1) m) :
   OSpec Tryz.prog 87 [parV k r c w, v, .val (.int .u8 kd), intV ver, .clo g caps] m0 fun res m' => res = .tup [] ∧ Inv (if (toldL k r c w ps kd ver).isSome = true then ps.length else 0) m' := by
 have hp := hv.rd.plain
 have htold := stripe_told k r c w kd ver v ps cells hv hm hr
 have hmn := may_n hm
 obtain ⟨hl, hpr⟩ := row_at hr
 replace hdo := Hid.mk hdo
 replace hno := Hid.mk hno
 replace hkeep := Hid.mk hkeep
 replace hmn := Hid.mk hmn
 replace hpr := Hid.mk hpr
 replace hl := Hid.mk hl
 cases hT : toldL k r c w ps kd ver with
 | none =>
   rw [hT] at htold
   unfold vecA nilS at htold
   have hlen0 : lenE Tryz.prog 33 (.val (.slice none 0 0)) = some (.val (.int .i64 0)) := by kernel_rfl
   refine ospec_of_body follows Tryz.func87 (by unfold Tryz.f87; rfl) (by unfold Tryz.f87; simp) onceEa (by unfold Tryz.f87; simp) (by kernel_rfl) ?_; unfold Tryz.f87
   simp only [↓pre, simprocAttr, parV, sx, tys87, onceEa, bne, postU, postA, storeE, allocE, put_at, push_at, sr]
   (first | refine call_plain (htold) (by first | rfl | simp only [parV, plQ, *]) ?_ | refine call_pure (htold) (by first | rfl | simp only [parV, plQ, *]) (by intro k; first | rfl | simp only [sq, sr, *]) ?_); simp only [↓pre, simprocAttr, parV, sx, tys87, onceEa, bne, postU, postA, storeE, allocE, put_at, push_at, hlen0, sr]
   rw [codeW_loop]
   refine loop_intro (fun q e m => e 21 = .val (.int .i64 0) ∧ e 22 = .val (.int .i64 0) ∧ Hid (Inv 0 m)) 0 ⟨rfl, rfl, ⟨h0⟩⟩ ?_
   rintro q e m ⟨e21, e22, hJ⟩
   have : ¬ (0 : Int) < 0 := by omega
   simp only [↓pre, simprocAttr, parV, sx, tys87, onceEa, bne, postU, postA, storeE, allocE, put_at, push_at, e21, e22, this, sr]
   exact hJ.out
 | some l =>
   rw [hT] at htold
   obtain ⟨hll, hlv⟩ := told_ok hT
   have hlp : l.length = ps.length := by have := hl.out; omega
   have hrdl : RdSl (.tree l.length l.length (intsA l) false) l.length (intsA l ++ []) := ⟨.inr (.inr ⟨_, false, by rw [List.append_nil], Nat.le_refl _⟩)⟩
   have hl16 : l.length ≤ 16 := by have := hmn.out; omega
   unfold vecA at htold
   replace hlv := Hid.mk hlv
   replace hll := Hid.mk hll
   replace hT := Hid.mk hT
   refine ospec_of_body follows Tryz.func87 (by unfold Tryz.f87; rfl) (by unfold Tryz.f87; simp) onceEa (by unfold Tryz.f87; simp) (by kernel_rfl) ?_; unfold Tryz.f87
   simp only [↓pre, simprocAttr, parV, sx, tys87, onceEa, bne, postU, postA, storeE, allocE, put_at, push_at, sr]
   (first | refine call_plain (htold) (by first | rfl | simp only [parV, plQ, *]) ?_ | refine call_pure (htold) (by first | rfl | simp only [parV, plQ, *]) (by intro k; first | rfl | simp only [sq, sr, *]) ?_); simp only [↓pre, simprocAttr, parV, sx, tys87, onceEa, bne, postU, postA, storeE, allocE, put_at, push_at, hrdl.len', sr]
   rw [codeW_loop]
   refine loop_intro (fun q e m => ∃ i, q + i = l.length ∧ e 1 = v ∧ e 2 = .val (.int .u8 kd) ∧ e 4 = .clo g caps ∧ e 5 = .tptr 0 [intV k, intV r, intV c, intV w] ∧ e 20 = .tree l.length l.length (intsA l) false ∧ e 21 = intV (l.length : Nat) ∧ e 22 = intV (i : Nat) ∧ Hid (Inv i m)) l.length ⟨0, by omega, rfl, rfl, rfl, rfl, rfl, rfl, rfl, ⟨h0⟩⟩ ?_
   rintro q e m ⟨i, hq, e1, e2, e4, e5, e20, e21, e22, hJ⟩
   replace hq := Hid.mk hq
   by_cases hlt : i < l.length
   · have hlt' : ((i : Nat) : Int) < ((l.length : Nat) : Int) := by omega
     have wi := wrap_succ (n := i) (by omega)
     have hip : i < ps.length := by omega
     obtain ⟨z, hz⟩ : ∃ z, l[i]? = some z := ⟨_, List.getElem?_eq_getElem hlt⟩
     have hza := int_at (x := []) hz
     rw [List.append_nil] at hza hrdl
     obtain ⟨p, hpi⟩ : ∃ p, ps[i]? = some p := ⟨_, List.getElem?_eq_getElem hip⟩
     obtain ⟨a, b, xa, xb, ha, hb, hra, hrb⟩ := hv.at_ i p hpi
     obtain ⟨ht, htl⟩ := take2 ha hb
     have hzv := hlv.out z (List.mem_of_getElem? hz)
     have hgz : l.getD i 0 = z := by rw [List.getD_eq_getElem?_getD, hz]; rfl
     have hfi := cell_Find k r c w (i : Nat) kd z a b p xa xb hra hrb hm (hpr.out p (List.mem_of_getElem? hpi)) hk (by omega) (by have := hl.out; omega) hzv.1 hzv.2
     have pa := hra.plain
     have pb := hrb.plain
     have hpush : ∀ (cs : List AV), Kept m ((m.push ⟨slA0.cells, 76, .var, true⟩).put m.next (some ⟨cs, 76, .var, true⟩)) := fun cs => ⟨rfl, by rw [put_next, push_next]; omega, fun j x hj hl => by rw [put_at, if_neg (by omega), push_at, if_neg (by omega)]; exact hj⟩
     replace hz := Hid.mk hz
     replace hpi := Hid.mk hpi
     replace hzv := Hid.mk hzv
     replace hgz := Hid.mk hgz
     replace hpush := Hid.mk hpush
     cases hF : findO k r c w p (i : Nat) kd z with
     | none =>
       rw [findV_none hF] at hfi
       replace hF := Hid.mk hF
       simp only [SlA.v, SlA.cells, slA0, nilS, intV, boolV] at hfi
       simp only [↓pre, simprocAttr, parV, sx, tys87, onceEa, bne, postU, postA, storeE, allocE, put_at, push_at, e1, e2, e4, e5, e20, e21, e22, hlt', hrdl.addr', hlt, hza, hv.rd.addr', hip, ht, htl, sr]
       (first | refine call_plain (hfi) (by first | rfl | simp only [parV, plQ, *]) ?_ | refine call_pure (hfi) (by first | rfl | simp only [parV, plQ, *]) (by intro k; first | rfl | simp only [sq, sr, *]) ?_); simp only [↓pre, simprocAttr, parV, sx, tys87, onceEa, bne, postU, postA, storeE, allocE, put_at, push_at, e1, e2, e4, e5, e20, e21, e22, sr]
       refine contW_fixed (by kernel_rfl) ?_
       simp only [↓pre, simprocAttr, parV, sx, tys87, onceEa, bne, postU, postA, storeE, allocE, put_at, push_at, e1, e2, e4, e5, e20, e21, e22, sr]
       refine contW_fixed (by kernel_rfl) ?_
       simp only [↓pre, simprocAttr, parV, sx, tys87, onceEa, bne, postU, postA, storeE, allocE, put_at, push_at, e1, e2, e4, e5, e20, e21, e22, wi, sr]
       exact ⟨q - 1, by have := hq.out; omega, i + 1, by have := hq.out; omega, rfl, ⟨hno.out l i p _ hT.out hip hpi.out (by rw [hgz.out]; exact hF.out) (hkeep.out i m _ hJ.out (hpush.out _))⟩⟩
     | some s =>
       obtain ⟨hsR, n0, hfv⟩ := findV_some hF
       rw [hfv] at hfi
       obtain ⟨⟨n1, y1, g1⟩, ⟨n2, y2, g2⟩⟩ := hsR
       have q1 := rd_one g1
       have q2 := rd_one g2
       have t1 := rd_shift g1
       have t2 := rd_shift g2
       replace hF := Hid.mk hF
       replace hfv := Hid.mk hfv
       simp only [SlA.v, SlA.cells, intV, boolV] at hfi
       simp only [↓pre, simprocAttr, parV, sx, tys87, onceEa, bne, postU, postA, storeE, allocE, put_at, push_at, e1, e2, e4, e5, e20, e21, e22, hlt', hrdl.addr', hlt, hza, hv.rd.addr', hip, ht, htl, q1, q2, t1, t2, sr]
       (first | refine call_plain (hfi) (by first | rfl | simp only [parV, plQ, *]) ?_ | refine call_pure (hfi) (by first | rfl | simp only [parV, plQ, *]) (by intro k; first | rfl | simp only [sq, sr, *]) ?_); simp only [↓pre, simprocAttr, parV, sx, tys87, onceEa, bne, postU, postA, storeE, allocE, put_at, push_at, e1, e2, e4, e5, e20, e21, e22, q1, q2, t1, t2, sr]
       refine contW_fixed (by kernel_rfl) ?_
       simp only [↓pre, simprocAttr, parV, sx, tys87, onceEa, bne, postU, postA, storeE, allocE, put_at, push_at, e1, e2, e4, e5, e20, e21, e22, q1, q2, t1, t2, sr]
       refine contW_fixed (by kernel_rfl) ?_
       simp only [↓pre, simprocAttr, parV, sx, tys87, onceEa, bne, postU, postA, storeE, allocE, put_at, push_at, e1, e2, e4, e5, e20, e21, e22, q1, q2, t1, t2, wi, sr]
       refine call_open (hdo.out l i p _ s hT.out hip hpi.out (by rw [hgz.out]; exact hF.out) (hkeep.out i m _ hJ.out (hpush.out _))) ?_
       rintro res m' ⟨rfl, hI⟩
       simp only [↓pre, simprocAttr, parV, sx, tys87, onceEa, bne, postU, postA, storeE, allocE, put_at, push_at, e1, e2, e4, e5, e20, e21, e22, wi, sr]
       exact ⟨q - 1, by have := hq.out; omega, i + 1, by have := hq.out; omega, rfl, ⟨hI⟩⟩
   · have hlt' : ¬ ((i : Nat) : Int) < ((l.length : Nat) : Int) := by omega
     have hi : i = ps.length := by have := hq.out; omega
     simp only [↓pre, simprocAttr, parV, sx, tys87, onceEa, bne, postU, postA, storeE, allocE, put_at, push_at, e1, e2, e4, e5, e20, e21, e22, hlt', Option.isSome_some, sr]
     rw [← hi]
     exact hJ.out
def datO (k r c w:Int) (p:PairB) (ix kd ver:Int):List UInt8:=if hitS k r c w p.1 ix kd ver=true then (slotC k r p.1).data else if hitS k r c w p.2 ix kd ver=true then (slotC k r p.2).data else []
def thereL (k r c w:Int) (ps:List PairB) (kd ver:Int):List (List UInt8):=match toldL k r c w ps kd ver with
 | some l=>(List.range ps.length).map fun j=>datO k r c w (ps.getD j ([],[])) (j:Nat) kd (l.getD j 0)
 | none=>(List.range ps.length).map fun _=>[]
theorem thereL_len (k r c w:Int) (ps:List PairB) (kd ver:Int):(thereL k r c w ps kd ver).length=ps.length:=by
 unfold thereL
 split <;> simp
theorem hit_slot {k r c w:Int} {bs:List UInt8} {ix kd ver:Int} (h:hitS k r c w bs ix kd ver=true):isSlot k r c w bs=true:=by
 unfold hitS hitB at h
 rw [Bool.and_eq_true] at h
 have:=h.1
 unfold isOf at this
 rw [Bool.and_eq_true] at this
 exact this.1
theorem datO_some {k r c w:Int} {p:PairB} {ix kd ver:Int} {s:SlA} (h:findO k r c w p ix kd ver=some s):(((datO k r c w p ix kd ver).length:Nat):Int)=c∧s.dv = .tree (datO k r c w p ix kd ver).length (datO k r c w p ix kd ver).length (bytesA (datO k r c w p ix kd ver)) false:=by
 unfold findO at h
 unfold datO
 split at h
 ·rename_i h1
  cases h
  rw [if_pos h1]
  exact ⟨(slot_ok (hit_slot h1)).data,slA_dv (hit_slot h1)⟩
 ·rename_i h1
  split at h
  ·rename_i h2
   cases h
   rw [if_neg h1,if_pos h2]
   exact ⟨(slot_ok (hit_slot h2)).data,slA_dv (hit_slot h2)⟩
  ·cases h
theorem datO_none {k r c w:Int} {p:PairB} {ix kd ver:Int} (h:findO k r c w p ix kd ver=none):datO k r c w p ix kd ver=[]:=by
 unfold findO at h
 unfold datO
 split at h
 ·cases h
 ·rename_i h1
  split at h
  ·cases h
  ·rename_i h2;rw [if_neg h1,if_neg h2]
theorem datO_len (k r c w:Int) (p:PairB) (ix kd ver:Int):(datO k r c w p ix kd ver).length=0∨(((datO k r c w p ix kd ver).length:Nat):Int)=c:=by
 cases h:findO k r c w p ix kd ver with
 | none=>left;rw [datO_none h];rfl
 | some s=>right;exact (datO_some h).1
theorem thereL_alike (k r c w:Int) (C:Nat) (hc:c=(C:Nat)) (ps:List PairB) (kd ver:Int):alikeC (thereL k r c w ps kd ver) C:=by
 intro b hb
 unfold thereL at hb
 split at hb
 ·obtain ⟨j,_,rfl⟩:=List.mem_map.1 hb
  rcases datO_len k r c w (ps.getD j ([],[])) (j:Nat) kd _ with h | h
  ·exact .inl h
  ·exact .inr (by omega)
 ·obtain ⟨j,_,rfl⟩:=List.mem_map.1 hb
  exact .inl rfl
def bytesV (b:List UInt8):AV:=if b.length=0 then nilS else .tree b.length b.length (bytesA b) false
theorem bytesV_rd (b:List UInt8):RdSl (bytesV b) b.length (b.map byteV++[]):=by
 unfold bytesV
 split
 ·rename_i h;rw [h];exact ⟨.inl ⟨rfl,rfl⟩⟩
 ·exact ⟨.inr (.inr ⟨_,false,by rw [List.append_nil];rfl,Nat.le_refl _⟩)⟩
def thereA (T:List (List UInt8)) (n:Nat):List AV:=(List.range T.length).map fun j=>if j < n then bytesV (T.getD j []) else nilS
theorem thereA_len (T:List (List UInt8)) (n:Nat):(thereA T n).length=T.length:=by simp [thereA]
theorem thereA_at {T:List (List UInt8)} {n j:Nat} (h:j < T.length):(thereA T n)[j]? = some (if j < n then bytesV (T.getD j []) else nilS):=by
 unfold thereA
 rw [List.getElem?_map,List.getElem?_range h]
 rfl
theorem thereA_ext {T:List (List UInt8)} {n n':Nat} (h:∀ j,j < T.length→(if j < n then bytesV (T.getD j []) else nilS)=(if j < n' then bytesV (T.getD j []) else nilS)):thereA T n=thereA T n':=by
 unfold thereA
 apply List.map_congr_left
 intro j hj
 exact h j (List.mem_range.1 hj)
theorem thereA_put {T:List (List UInt8)} {i:Nat} (hi:i < T.length):splice (thereA T i) i [bytesV (T.getD i [])]=thereA T (i+1):=by
 have hl:=thereA_len T i
 unfold splice
 apply List.ext_getElem?
 intro j
 by_cases hj:j < T.length
 ·rw [thereA_at hj,List.append_assoc]
  have htl:((thereA T i).take i).length=i:=by rw [List.length_take,hl];omega
  by_cases h1:j < i
  ·rw [List.getElem?_append_left (by omega),List.getElem?_take_of_lt h1,thereA_at hj,if_pos h1,if_pos (by omega)]
  ·rw [List.getElem?_append_right (by omega),htl]
   by_cases h2:j=i
   ·subst h2;rw [Nat.sub_self,if_pos (by omega)];rfl
   ·rw [List.getElem?_append_right (by simp;omega),List.getElem?_drop]
    simp only [List.length_cons,List.length_nil]
    rw [show i+(0+1)+(j - i - (0+1))=j by omega,thereA_at hj,if_neg (by omega),if_neg (by omega)]
 ·rw [List.getElem?_eq_none (by simp [hl];omega),List.getElem?_eq_none (by rw [thereA_len];omega)]
theorem thereA_rows (T:List (List UInt8)) (v:AV) (hv:RdSl v T.length (thereA T T.length)):RowsV v T (thereA T T.length):=⟨hv,fun i b hb=>by
 have hi:=(List.getElem?_eq_some_iff.1 hb).1
 refine ⟨_,[],thereA_at hi, ?_⟩
 rw [if_pos hi,getD_at hb]
 exact bytesV_rd b⟩
theorem thereA_plain (T:List (List UInt8)) (n:Nat):plains (thereA T n)=true:=plains_all _ fun c hc=>by
 unfold thereA at hc
 obtain ⟨j,_,rfl⟩:=List.mem_map.1 hc
 split
 ·exact (bytesV_rd _).plain
 ·rfl
theorem cells_1 (m:Mem) (i N cnt:Nat) (s:SlA) (hs:s.Rd) (cs:List AV) (hi:i < N) (hN:cs.length=N) (hcnt:cnt < 1000) (h0:m.at_ 0=some ⟨cs,54,.var,true⟩) (h1:m.at_ 1=some ⟨[.sl 0 0 N N true],24,.var,true⟩) (h2:m.at_ 2=some ⟨[intV (cnt:Nat)],3,.var,true⟩):OSpec Tryz.prog 153 [intV (i:Nat),.agg s.cells,.ptr 1 0,.ptr 2 0] m fun res m'=>res = .tup []∧m'=(m.put 0 (some ⟨splice cs i [s.dv],54,.var,true⟩)).put 2 (some ⟨[intV (cnt+1:Nat)],3,.var,true⟩):=by
 obtain ⟨⟨n1,y1,g1⟩,⟨n2,y2,g2⟩⟩:=hs
 have f1:=rd_fz g1
 have f2:=rd_fz g2
 have q1:=rd_one g1
 have q2:=rd_one g2
 have w1:=wrap_succ (n:=cnt) (by omega)
 have hl:i+1≤cs.length:=by omega
 obtain ⟨kd,ix,ce,st,vv,dv⟩:=s
 simp only [SlA.cells] at *
 rcases g2.form with ⟨rfl,_⟩ | ⟨_,_,rfl,_⟩ | ⟨_,_,rfl,_⟩
 ·refine ospec_of_body follows Tryz.func153 (by unfold Tryz.f153;rfl) (by unfold Tryz.f153;simp) onceA (by unfold Tryz.f153;simp) (by kernel_rfl) ?_;unfold Tryz.f153
  simp only [↓pre,simprocAttr,parV,sx,tys153,onceA,postU,postA,storeE,allocE,put_at,push_at,Nat.one_ne_zero,Nat.reduceEqDiff,f1,f2,q1,q2,h0,h1,h2,hi,hl,w1,addr_slp,nilS,sr]
 ·refine ospec_of_body follows Tryz.func153 (by unfold Tryz.f153;rfl) (by unfold Tryz.f153;simp) onceA (by unfold Tryz.f153;simp) (by kernel_rfl) ?_;unfold Tryz.f153
  simp only [↓pre,simprocAttr,parV,sx,tys153,onceA,postU,postA,storeE,allocE,put_at,push_at,Nat.one_ne_zero,Nat.reduceEqDiff,f1,f2,q1,q2,h0,h1,h2,hi,hl,w1,addr_slp,sr]
 ·refine ospec_of_body follows Tryz.func153 (by unfold Tryz.f153;rfl) (by unfold Tryz.f153;simp) onceA (by unfold Tryz.f153;simp) (by kernel_rfl) ?_;unfold Tryz.f153
  simp only [↓pre,simprocAttr,parV,sx,tys153,onceA,postU,postA,storeE,allocE,put_at,push_at,Nat.one_ne_zero,Nat.reduceEqDiff,f1,f2,q1,q2,h0,h1,h2,hi,hl,w1,addr_slp,sr]
theorem thereL_at {k r c w:Int} {ps:List PairB} {kd ver:Int} {l:List Int} (hT:toldL k r c w ps kd ver=some l) {i:Nat} {p:PairB} (hp:ps[i]? = some p):(thereL k r c w ps kd ver).getD i []=datO k r c w p (i:Nat) kd (l.getD i 0):=by
 have hi:=(List.getElem?_eq_some_iff.1 hp).1
 unfold thereL
 rw [hT]
 simp only
 rw [List.getD_eq_getElem?_getD,List.getElem?_map,List.getElem?_range hi,Option.map_some,Option.getD_some,List.getD_eq_getElem?_getD (l:=ps),hp]
 rfl
theorem thereN_none {k r c w:Int} {ps:List PairB} {kd ver:Int} (hT:toldL k r c w ps kd ver=none) (n:Nat):thereN (thereL k r c w ps kd ver) n=[]:=by
 unfold thereN
 rw [List.filter_eq_nil_iff]
 intro i hi
 unfold thereL
 rw [hT]
 simp only
 rw [List.getD_eq_getElem?_getD,List.getElem?_map]
 cases (List.range ps.length)[i]? <;> simp
def wholeA (k r c w:Int) (ps:List PairB) (kd ver:Int):Mx:=decU k.toNat ((thereN (thereL k r c w ps kd ver) (k+r).toNat).take k.toNat) (celM (thereL k r c w ps kd ver))
def manyN (k r c w:Int) (ps:List PairB) (kd ver:Int):Nat:=(thereN (thereL k r c w ps kd ver) (k+r).toNat).length
def cellsV (k r c w:Int) (ps:List PairB) (kd ver:Int):AV:=if manyN k r c w ps kd ver < k.toNat then .tup [nilS,intV 5] else .tup [treeR (k+r).toNat (cellsA c.toNat (wholeA k r c w ps kd ver) 0 (k+r).toNat),intV 0]
def onceCe:Nat→Bool:=fun d=>d != 10 && d != 11
theorem stripe_cells (k r c w kd ver:Int) (v:AV) (ps:List PairB) (cells:List AV) (hv:RowV v ps cells) (hm:mayB k r c w=true) (hr:rowB k r c ps=true) (hk:kd=1∨kd=2):FSpec Tryz.prog 123 [parV k r c w,v,.val (.int .u8 kd),intV ver] ⟨cellsV k r c w ps kd ver,[]⟩:=by
 refine fspec_fzT ?_
 have hp:=hv.rd.plain
 have hmn:=may_n hm
 have hml:=mayB_of.1 hm
 obtain ⟨hl,hpr⟩:=row_at hr
 obtain ⟨K,hK⟩:∃ K:Nat,k=(K:Int):=⟨k.toNat,by omega⟩
 obtain ⟨R,hR⟩:∃ R:Nat,r=(R:Int):=⟨r.toNat,by omega⟩
 obtain ⟨C,hC⟩:∃ C:Nat,c=(C:Int):=⟨c.toNat,by omega⟩
 have hkr:(k+r).toNat=K+R:=by omega
 have hkn:k.toNat=K:=by omega
 have hcn:c.toNat=C:=by omega
 have hpsl:ps.length=K+R:=by omega
 have hTl:=thereL_len k r c w ps kd ver
 have hTa:=thereL_alike k r c w C hC ps kd ver
 have hdat:∀ (l:List Int) (i:Nat) (p:PairB) (s:SlA),toldL k r c w ps kd ver=some l→ps[i]? = some p→findO k r c w p (i:Nat) kd (l.getD i 0)=some s→s.dv=bytesV ((thereL k r c w ps kd ver).getD i [])∧((thereL k r c w ps kd ver).getD i []).length≠0:=fun l i p s h1 h2 h3=>by
  obtain ⟨g1,g2⟩:=datO_some h3
  rw [thereL_at h1 h2]
  refine ⟨?_,by omega⟩
  unfold bytesV
  rw [if_neg (by omega)]
  exact g2
 have hdno:∀ (l:List Int) (i:Nat) (p:PairB),toldL k r c w ps kd ver=some l→ps[i]? = some p→findO k r c w p (i:Nat) kd (l.getD i 0)=none→((thereL k r c w ps kd ver).getD i []).length=0:=fun l i p h1 h2 h3=>by
  rw [thereL_at h1 h2,datO_none h3]
  rfl
 have hTnone:=fun h n=>thereN_none (k:=k) (r:=r) (c:=c) (w:=w) (ps:=ps) (kd:=kd) (ver:=ver) h n
 have heach:=fun m0 g caps Inv h0 hkeep hdo hno=>stripe_each k r c w kd ver v ps cells hv hm hr hk m0 g caps Inv h0 hkeep hdo hno
 unfold cellsV manyN wholeA
 rw [hkr,hkn,hcn]
 generalize hTT:thereL k r c w ps kd ver=T at *
 have hn:T.length=K+R:=by omega
 have hmk:=fun m=>make_rows m (n:=K+R) (by omega)
 generalize hres:(if (thereN T (K+R)).length < K then AV.tup [nilS,intV 5] else .tup [treeR (K+R) (cellsA C (decU K ((thereN T (K+R)).take K) (celM T)) 0 (K+R)),intV 0])=RES
 have hfin:∀ m,fzT 1 m RES=some RES:=fun m=>by
  rw [←hres]
  split
  ·exact fzId_two (fzId_val _) (fzId_val _) 1 m
  ·exact fzId_two (fzId_rd (treeR_rd _ _)) (fzId_val _) 1 m
 have hdec:K≤(thereN T (K+R)).length→∀ av,RdSl av T.length (thereA T T.length)→FSpec Tryz.prog 154 [intV (K:Nat),intV (R:Nat),av] ⟨RES,[]⟩:=fun h av hav=>by
  have:=codec_Decode av K R C T _ (thereA_rows T av hav) hn hTa (by omega) (by omega) (by omega) (by omega) (by omega) h
  rw [←hres,if_neg (by omega)]
  exact this
 replace hdat:=Hid.mk hdat
 replace hdno:=Hid.mk hdno
 replace hTa:=Hid.mk hTa
 replace hpr:=Hid.mk hpr
 replace heach:=Hid.mk heach
 replace hml:=Hid.mk hml
 replace hmn:=Hid.mk hmn
 replace hfin:=Hid.mk hfin
 replace hdec:=Hid.mk hdec
 replace hTnone:=Hid.mk hTnone
 refine ospec_of_body follows Tryz.func123 (by unfold Tryz.f123;rfl) (by unfold Tryz.f123;simp) onceCe (by unfold Tryz.f123;simp) (by kernel_rfl) ?_;unfold Tryz.f123
 simp only [↓pre,simprocAttr,parV,sx,tys123,onceCe,bne,postU,postA,storeE,allocE,put_at,push_at,me0,Nat.one_ne_zero,Nat.reduceEqDiff,Array.size_empty,List.size_toArray,hv.rd.len',hpsl,hmk,sr]
 generalize hm3:Mem.put (Mem.push _ _) _ _=m3
 have hb0:m3.at_ 0=some ⟨thereA T 0,54,.var,true⟩:=by
  rw [←hm3]
  have:thereA T 0=(List.range (K+R)).map fun _=>nilS:=by unfold thereA;rw [hn];apply List.map_congr_left;intro j _;rw [if_neg (by omega)]
  rw [this]
  simp [put_at,push_at,put_next,push_next,me0]
 have hb1:m3.at_ 1=some ⟨[.sl 0 0 (K+R) (K+R) true],24,.var,true⟩:=by rw [←hm3];simp [put_at,push_at,put_next,push_next,me0]
 have hb2:m3.at_ 2=some ⟨[intV (0:Nat)],3,.var,true⟩:=by rw [←hm3];simp [put_at,push_at,put_next,push_next,me0];rfl
 have hnx:2 < m3.next:=by rw [←hm3];simp [put_next,push_next,me0]
 refine call_open (heach.out m3 153 [.ptr 1 0,.ptr 2 0] (fun i m=>m.at_ 0=some ⟨thereA T i,54,.var,true⟩∧m.at_ 1=some ⟨[.sl 0 0 (K+R) (K+R) true],24,.var,true⟩∧m.at_ 2=some ⟨[intV ((thereN T i).length:Nat)],3,.var,true⟩∧2 < m.next) ⟨hb0,hb1,hb2,hnx⟩ ?_ ?_ ?_) ?_
 ·rintro i m m' ⟨h1,h2,h3,h4⟩ hkp
  exact ⟨hkp.at_ 0 _ h1 (by omega),hkp.at_ 1 _ h2 (by omega),hkp.at_ 2 _ h3 (by omega),Nat.lt_of_lt_of_le h4 hkp.next⟩
 ·rintro l i p m s hTl2 hi hpi hF ⟨h1,h2,h3,h4⟩
  obtain ⟨hsR,_⟩:=findV_some hF
  obtain ⟨hd1,hd2⟩:=hdat.out l i p s hTl2 hpi hF
  have hle:=thereN_le T i
  have hiT:i < T.length:=by omega
  refine ospec_mono (cells_1 m i (K+R) _ s hsR _ (by omega) (by rw [thereA_len];omega) (by have:=hmn.out;omega) h1 h2 h3) ?_
  rintro res m' ⟨rfl,rfl⟩
  refine ⟨rfl, ?_, ?_, ?_, ?_⟩
  ·rw [put_at,if_neg (by decide),put_at,if_pos rfl,hd1,thereA_put hiT]
  ·rw [put_at,if_neg (by decide),put_at,if_neg (by decide)]
   exact h2
  ·rw [put_at,if_pos rfl,thereN_succ,if_pos hd2,List.length_append]
   rfl
  ·exact h4
 ·rintro l i p m hTl2 hi hpi hF ⟨h1,h2,h3,h4⟩
  have hd:=hdno.out l i p hTl2 hpi hF
  refine ⟨?_,h2, ?_,h4⟩
  ·rw [h1]
   congr 2
   refine thereA_ext fun j hj => ?_
   by_cases e:j=i
   ·subst e
    rw [if_neg (by omega),if_pos (by omega)]
    unfold bytesV
    rw [if_pos hd]
   ·by_cases e2:j < i
    ·rw [if_pos e2,if_pos (by omega)]
    ·rw [if_neg e2,if_neg (by omega)]
  ·rw [thereN_succ,if_neg (by omega),List.append_nil]
   exact h3
 rintro res m4 ⟨rfl,hInv⟩
 clear hm3 hb0 hb1 hb2 hnx
 by_cases hsome:(toldL k r c w ps kd ver).isSome=true
 ·rw [if_pos hsome,hpsl] at hInv
  obtain ⟨h0,h1,h2,h4⟩:=hInv
  by_cases hlt:(thereN T (K+R)).length < K
  ·have hlt':(((thereN T (K+R)).length:Nat):Int) < k:=by omega
   rw [if_pos hlt] at hres
   subst hres
   have hf:=hfin.out
   unfold nilS intV at hf
   replace hf:=Hid.mk hf
   simp only [↓pre,simprocAttr,parV,sx,tys123,onceCe,bne,postU,postA,storeE,allocE,put_at,push_at,me0,Nat.one_ne_zero,Nat.reduceEqDiff,Array.size_empty,List.size_toArray,h1,h2,hlt',sr]
   exact ⟨1,hf.out _⟩
  ·have hlt':¬ (((thereN T (K+R)).length:Nat):Int) < k:=by omega
   have hTle:T.length=K+R:=by omega
   have hHas:HasF m4 (.sl 0 0 (K+R) (K+R) true) (K+R) (thereA T (K+R)):=⟨.inr ⟨0,0,K+R,true,_,rfl,h0,.inr ⟨rfl,thereA_plain _ _⟩,rfl,Nat.le_refl _⟩⟩
   obtain ⟨av,m5,hfz,hav,_⟩:=hHas.fz
   rw [←hTle] at hav
   have hdd:=hdec.out (by omega) av hav
   rw [if_neg hlt] at hres
   subst hres
   have hfz2:fzs m4 [intV k,intV r,.sl 0 0 (K+R) (K+R) true]=some ([intV (K:Nat),intV (R:Nat),av],m5):=by rw [hK,hR];simp [fzs,fz,intV] at hfz ⊢;simp [hfz]
   have hf:=hfin.out
   simp only [intV] at hdd hfz2 hf
   replace hf:=Hid.mk hf
   simp only [↓pre,simprocAttr,parV,sx,tys123,onceCe,bne,postU,postA,storeE,allocE,put_at,push_at,me0,Nat.one_ne_zero,Nat.reduceEqDiff,Array.size_empty,List.size_toArray,h0,h1,h2,hlt',sr]
   refine call_frozen hdd hfz2 ?_
   simp only [↓pre,simprocAttr,parV,sx,tys123,onceCe,bne,postU,postA,storeE,allocE,put_at,push_at,me0,Nat.one_ne_zero,Nat.reduceEqDiff,Array.size_empty,List.size_toArray,postFz,sr]
   exact ⟨1,hf.out _⟩
 ·rw [if_neg hsome] at hInv
  obtain ⟨h0,h1,h2,h4⟩:=hInv
  have hnone:toldL k r c w ps kd ver=none:=by simpa using hsome
  have hlt:(thereN T (K+R)).length < K:=by have:=hml.out;rw [hTnone.out hnone];simp;omega
  have hlt':(0:Int) < k:=by have:=hml.out;omega
  rw [if_pos hlt] at hres
  subst hres
  have hf:=hfin.out
  unfold nilS intV at hf
  replace hf:=Hid.mk hf
  have h2':m4.at_ 2=some ⟨[.val (.int .i64 0)],3,.var,true⟩:=h2
  simp only [↓pre,simprocAttr,parV,sx,tys123,onceCe,bne,postU,postA,storeE,allocE,put_at,push_at,me0,Nat.one_ne_zero,Nat.reduceEqDiff,Array.size_empty,List.size_toArray,h1,h2',hlt',sr]
  exact ⟨1,hf.out _⟩
end Go.Proofs.YtgcicholalgbiaaGreat
set_option linter.unusedVariables false
set_option linter.unusedSimpArgs false
set_option maxRecDepth 10000
namespace Go.Tw
open Go
structure Own1 (m:Mem) (el:TypeId) (sz:Nat) (v:AV) (n:Nat) (cells:List AV):Prop where
 form:Own m el sz v n cells∨∃ b c,v = .sl b 0 0 c true∧m.at_ b=some ⟨[],el,.flat,true⟩∧b < m.next∧n=0∧cells=[]∧0 < c
theorem app_one {P : Program} {el : TypeId} {m : Mem} {v x : AV} {K : Out → Prop} {sz y n cnt : Nat} {zl : List Value} {cells new : List AV} (hkd : kindT P el = .flat) (ho : Own1 m el sz v n cells) (h1 : szE P el = some sz) (h2 : byE P el = some y) (h3 : zeroE P el = some zl) (h4 : zl.length = sz) (h5 : srcE P el sz m x = some (new, cnt)) (h6 : new.length = cnt * sz) (h7 : (n + cnt) * y ≤ 140737488355328) (h8 : n + cnt ≤ 140737488355328) (hc : 0 < cnt)
   (hK : ∀ v' m', Own m' el sz v' (n + cnt) (cells ++ new) → m.next ≤ m'.next → K ⟨v', m', none⟩) : outW (appE P el m v x) K := by
 rcases ho.form with ho | ⟨b, c, rfl, hb, hlt, rfl, rfl, hc0⟩
 · exact app_rule hkd ho h1 h2 h3 h4 h5 h6 h7 h8 hK
 · by_cases ht : c < 0 + cnt
   · have : appE P el m (.sl b 0 0 c true) x = some ⟨.sl m.next 0 cnt cnt false, m.push ⟨new, el, .flat, true⟩, none⟩ := by
       simp only [appE, h1, h2, h3, h5, slView, hb, hkd, Option.bind_some]
       simp at h7 h8 ht
       simp [tight, ht, outV, h4, h7, h8, Nat.ne_of_gt hc0]
     rw [this]
     refine hK _ _ ⟨.inr ⟨m.next, by rw [Nat.zero_add], by rw [push_at, if_pos rfl]; rfl, by rw [push_next]; omega, by omega⟩, by simpa using h6⟩ (by rw [push_next]; omega)
   · have : appE P el m (.sl b 0 0 c true) x = some ⟨.sl m.next 0 cnt cnt false, (m.put b none).push ⟨new, el, .flat, true⟩, none⟩ := by
       simp only [appE, h1, h2, h3, h5, slView, hb, hkd, Option.bind_some]
       simp at h7 h8 ht
       have ht2 : ¬ c < cnt := by omega
       simp [tight, ht2, outV, h4, h7, h8, Nat.ne_of_gt hc0, hb]
     rw [this]
     refine hK _ _ ⟨.inr ⟨m.next, by rw [Nat.zero_add], by rw [push_at, if_pos (by rw [put_next])]; rfl, by rw [push_next, put_next]; omega, by omega⟩, by simpa using h6⟩ (by rw [push_next, put_next]; omega)
end Go.Tw
namespace Go.Proofs.YtgcicholalgbiaaGreat
open Go Go.Tw Go.Proofs Go.Gf
theorem kinds_ok {kd ver:Int} (hk:kd=1∨kd=2) (hv:verB ver=true):kindsI kd ver=0:=by unfold kindsI;rw [if_pos ⟨hk,hv⟩]
theorem look_ok {k r c w:Int} {ps:List PairB} (hm:mayB k r c w=true) (hr:rowB k r c ps=true):lookI k r c w ps=0:=by unfold lookI;rw [hm,hr];rfl
theorem ask_ok {k r c w:Int} {ps:List PairB} {kd ver:Int} (hm:mayB k r c w=true) (hr:rowB k r c ps=true) (hk:kd=1∨kd=2) (hv:verB ver=true):askI k r c w ps kd ver=0:=by
 unfold askI;rw [look_ok hm hr,if_pos rfl,kinds_ok hk hv]
theorem cellsV_shift (k r c w:Int) (ps:List PairB) (kd ver:Int):∃ a e,cellsV k r c w ps kd ver = .tup [a,intV e]∧(∀ n,shift n a=a)∧fzId a:=by
 unfold cellsV
 split
 ·exact ⟨_,_,rfl,fun n=>rfl,fzId_val _⟩
 ·exact ⟨_,_,rfl,fun n=>shift_treeR,fzId_rd (treeR_rd _ _)⟩
theorem stripe_Cells (k r c w kd ver:Int) (v:AV) (ps:List PairB) (cells:List AV) (hv:RowV v ps cells) (hm:mayB k r c w=true) (hr:rowB k r c ps=true) (hk:kd=1∨kd=2) (hver:verB ver=true):FSpec Tryz.prog 143 [parV k r c w,v,.val (.int .u8 kd),intV ver] ⟨cellsV k r c w ps kd ver,[]⟩:=by
 refine fspec_fzT ?_
 have hp:=hv.rd.plain
 have h1:=stripe_asked k r c w v ps cells hv kd ver
 rw [ask_ok hm hr hk hver] at h1
 have h2:=stripe_cells k r c w kd ver v ps cells hv hm hr hk
 obtain ⟨a,e,he,hsh,hid⟩:=cellsV_shift k r c w ps kd ver
 rw [he] at h2 ⊢
 have hf:=fun m=>fzId_two hid (fzId_val (.int .i64 e)) 1 m
 replace hf:=Hid.mk hf
 refine ospec_of_body follows Tryz.func143 (by unfold Tryz.f143;rfl) (by unfold Tryz.f143;simp) onceA (by unfold Tryz.f143;simp) (by kernel_rfl) ?_;unfold Tryz.f143
 simp only [↓pre,simprocAttr,parV,sx,tys143,onceA,postU]
 (first | refine call_plain (h1) (by first | rfl | simp only [parV,plQ, *]) ?_ | refine call_pure (h1) (by first | rfl | simp only [parV,plQ, *]) (by intro k;first | rfl | simp only [sq,sr, *]) ?_);simp only [↓pre,simprocAttr,parV,sx,tys143,onceA,postU,eq_self,hsh];(first | refine call_plain (h2) (by first | rfl | simp only [parV,plQ, *]) ?_ | refine call_pure (h2) (by first | rfl | simp only [parV,plQ, *]) (by intro k;first | rfl | simp only [sq,sr, *]) ?_);simp only [↓pre,simprocAttr,parV,sx,tys143,onceA,postU,eq_self,hsh]
 exact ⟨1,hf.out _⟩
def dataL (k r c w:Int) (ps:List PairB) (kd ver:Int) (n:Nat):List UInt8:=(List.range n).flatMap fun i=>tab c.toNat (wholeA k r c w ps kd ver i)
theorem dataL_succ (k r c w:Int) (ps:List PairB) (kd ver:Int) (n:Nat):dataL k r c w ps kd ver (n+1)=dataL k r c w ps kd ver n++tab c.toNat (wholeA k r c w ps kd ver n):=by
 unfold dataL
 rw [List.range_succ,List.flatMap_append]
 simp
theorem dataL_len (k r c w:Int) (ps:List PairB) (kd ver:Int):∀ n,(dataL k r c w ps kd ver n).length=n*c.toNat
 | 0=>by simp [dataL]
 | n+1=>by rw [dataL_succ,List.length_append,dataL_len k r c w ps kd ver n,tab_len,Nat.add_mul,Nat.one_mul]
def sreadV (k r c w:Int) (ps:List PairB) (kd ver:Int):AV:=if manyN k r c w ps kd ver < k.toNat then .tup [nilS,intV 5] else .tup [treeR (k.toNat*c.toNat) (bytesA (dataL k r c w ps kd ver k.toNat)),intV 0]
theorem stripe_Read (k r c w kd ver:Int) (v:AV) (ps:List PairB) (cells:List AV) (hv:RowV v ps cells) (hm:mayB k r c w=true) (hr:rowB k r c ps=true) (hk:kd=1∨kd=2) (hver:verB ver=true):FSpec Tryz.prog 110 [parV k r c w,v,.val (.int .u8 kd),intV ver] ⟨sreadV k r c w ps kd ver,[]⟩:=by
 refine fspec_fzT ?_
 have hp:=hv.rd.plain
 have h1:=stripe_Cells k r c w kd ver v ps cells hv hm hr hk hver
 have hml:=mayB_of.1 hm
 have hw:=may_w hm
 unfold sreadV
 unfold cellsV at h1
 by_cases hlt:manyN k r c w ps kd ver < k.toNat
 ·rw [if_pos hlt] at h1 ⊢
  have hf:=fun m=>fzId_two (fzId_val (.slice none 0 0)) (fzId_val (.int .i64 5)) 1 m
  replace hf:=Hid.mk hf
  simp only [nilS] at h1
  refine ospec_of_body follows Tryz.func110 (by unfold Tryz.f110;rfl) (by unfold Tryz.f110;simp) onceA (by unfold Tryz.f110;simp) (by kernel_rfl) ?_;unfold Tryz.f110
  simp only [↓pre,simprocAttr,parV,sx,tys110,onceA,postU,nilS,sr]
  (first | refine call_plain (h1) (by first | rfl | simp only [parV,plQ, *]) ?_ | refine call_pure (h1) (by first | rfl | simp only [parV,plQ, *]) (by intro k;first | rfl | simp only [sq,sr, *]) ?_);simp only [↓pre,simprocAttr,parV,sx,tys110,onceA,postU,nilS,sr]
  exact ⟨1,hf.out _⟩
 ·rw [if_neg hlt] at h1 ⊢
  obtain ⟨K,hK⟩:∃ K:Nat,k=(K:Int):=⟨k.toNat,by omega⟩
  obtain ⟨C,hC⟩:∃ C:Nat,c=(C:Int):=⟨c.toNat,by omega⟩
  have hkn:k.toNat=K:=by omega
  have hcn:c.toNat=C:=by omega
  have hR1:K≤(k+r).toNat:=by omega
  rw [hkn,hcn]
  rw [hcn] at h1
  have hrd:=treeR_rd (k+r).toNat (cellsA C (wholeA k r c w ps kd ver) 0 (k+r).toNat)
  have hds:=dataL_succ k r c w ps kd ver
  have hdl:=dataL_len k r c w ps kd ver
  rw [hcn] at hds hdl
  have hcat:=fun i (h:i < (k+r).toNat)=>cellsA_at (L:=C) (F:=wholeA k r c w ps kd ver) (a:=0) h
  have hKC:k*c=((K*C:Nat):Int):=by rw [hK,hC];simp
  have hKC2:K*C≤768:=by omega
  have hKC3:32≤K*C:=by omega
  have wkc:IntKind.i64.wrap (k*c)=((K*C:Nat):Int):=by rw [hKC];exact wrap_nat (by omega)
  have hmk:∀ m,makeE Tryz.prog m 54 0 (K*C)=some ⟨.sl m.next 0 0 (K*C) true,m.push ⟨[],5,.flat,true⟩,none⟩:=fun m=>by
   have h1:elE Tryz.prog 54=some 5:=by kernel_rfl
   have h2:szE Tryz.prog 5=some 1:=by kernel_rfl
   have h3:byE Tryz.prog 5=some 1:=by kernel_rfl
   have h4:kindT Tryz.prog 5 = .flat:=by kernel_rfl
   have hz:=zeros_one h2 (x := .int .u8 0) (by kernel_rfl) (K*C)
   simp only [makeE,h1,h2,h3,h4,hz,outV,Option.bind_some,Nat.mul_one]
   rw [if_pos (by omega)]
   rfl
  generalize wholeA k r c w ps kd ver=W at *
  generalize dataL k r c w ps kd ver=D at *
  have hD0:D 0=[]:=List.eq_nil_of_length_eq_zero (by rw [hdl];omega)
  replace hds:=Hid.mk hds
  replace hdl:=Hid.mk hdl
  replace hcat:=Hid.mk hcat
  replace hlt:=Hid.mk hlt
  replace hKC:=Hid.mk hKC
  replace hml:=Hid.mk hml
  replace hw:=Hid.mk hw
  refine ospec_of_body follows Tryz.func110 (by unfold Tryz.f110;rfl) (by unfold Tryz.f110;simp) onceA (by unfold Tryz.f110;simp) (by kernel_rfl) ?_;unfold Tryz.f110
  simp only [↓pre,simprocAttr,parV,sx,tys110,onceA,postU,postA,postFz,sr]
  (first | refine call_plain (h1) (by first | rfl | simp only [parV,plQ, *]) ?_ | refine call_pure (h1) (by first | rfl | simp only [parV,plQ, *]) (by intro k;first | rfl | simp only [sq,sr, *]) ?_);simp only [↓pre,simprocAttr,parV,sx,tys110,onceA,postU,postA,postFz,wkc,hmk,sr]
  rw [codeW_loop]
  refine loop_intro (fun q e m=>∃ i lv,q+i=K∧e 10=treeR (k+r).toNat (cellsA C W 0 (k+r).toNat)∧e 12=lv∧e 32=intV (K:Nat)∧e 33=intV (i:Nat)∧Hid (Own1 m 5 1 lv (i*C) (bytesA (D i))∧(i=0∨Own m 5 1 lv (i*C) (bytesA (D i)))) ) K ⟨0,_,by omega,rfl,rfl,by simp [Env.set,intV,hK],rfl,⟨⟨.inr ⟨_,K*C,rfl,by rw [push_at,if_pos rfl],by rw [push_next];omega,by omega,by rw [hD0];rfl,by omega⟩⟩,.inl rfl⟩⟩ ?_
  rintro q e m ⟨i,lv,hq,e10,e12,e32,e33,hJ⟩
  replace hq:=Hid.mk hq
  by_cases hlt2:i < K
  ·have hlt2':((i:Nat):Int) < ((K:Nat):Int):=by omega
   have wi:=wrap_succ (n:=i) (by have:=hml.out;omega)
   have hin:i < (k+r).toNat:=by omega
   have hca:=hcat.out i hin
   rw [Nat.zero_add] at hca
   have hiC:i*C+C≤768:=by
    have:(i+1)*C≤K*C:=Nat.mul_le_mul_right _ (by omega)
    rw [Nat.add_mul,Nat.one_mul] at this
    omega
   have hC8:8≤C:=by have:=hml.out;omega
   have hsrc:∀ m:Mem,srcE Tryz.prog 5 1 m (.tree C C (tabA C (W i)) true)=some (tabA C (W i),C):=fun m=>by
    rw [src_tree (by rw [tabA_len];omega),Nat.mul_one,List.take_of_length_le (by rw [tabA_len];omega)]
   simp only [↓pre,simprocAttr,parV,sx,tys110,onceA,postU,postA,postFz,e10,e12,e32,e33,hlt2',hin,hca,sr]
   refine app_one (sz:=1) (y:=1) (zl:=[.int .u8 0]) (by kernel_rfl) hJ.out.1 (by kernel_rfl) (by kernel_rfl) (by kernel_rfl) rfl (hsrc m) (by rw [tabA_len];omega) (by omega) (by omega) (by omega) ?_
   intro lv' m' ho' hn'
   simp only [↓pre,simprocAttr,parV,sx,tys110,onceA,postU,postA,postFz,e10,e12,e32,e33,wi,sr]
   have hb:bytesA (D (i+1))=bytesA (D i)++tabA C (W i):=by rw [hds.out];unfold bytesA tabA;rw [List.map_append]
   have hm':(i+1)*C=i*C+C:=by rw [Nat.add_mul,Nat.one_mul]
   refine ⟨q - 1,by have:=hq.out;omega,i+1,lv',by have:=hq.out;omega,rfl,rfl,⟨⟨.inl ?_⟩,.inr ?_⟩⟩
   ·rw [hb,hm'];exact ho'
   ·rw [hb,hm'];exact ho'
  ·have hlt2':¬ ((i:Nat):Int) < ((K:Nat):Int):=by omega
   have hi:i=K:=by have:=hq.out;omega
   subst hi
   have hown:=hJ.out.2.resolve_left (by have:=hml.out;omega)
   simp only [↓pre,simprocAttr,parV,sx,tys110,onceA,postU,postA,postFz,e10,e12,e32,e33,hlt2',sr]
   exact ⟨0,by rw [fzT_tup,fzTs_cons,own_fzT hown,Option.bind_some,fzTs_cons,fzT_val,fzTs_nil];rfl⟩
end Go.Proofs.YtgcicholalgbiaaGreat
namespace Go.Proofs.YtgcicholalgbiaaGreat
open Go Go.Tw Go.Proofs Go.Gf
theorem bin_shr_nat {P:Program} {t:TypeId} {x y:Operand} {k yk:IntKind} {a:Int} {n:Nat}:binE P .shr t x y (.val (.int k a)) (.val (.int yk ((n:Nat):Int)))=some (.val (.int k (a / 2 ^ min n k.bits))):=by
 have h1:¬ (((n:Nat):Int) < 0):=by omega
 have h2:((n:Nat):Int).toNat=n:=rfl
 have h3:a.fdiv (2 ^ min n k.bits)=a / 2 ^ min n k.bits:=Int.fdiv_eq_ediv_of_nonneg _ (Int.le_of_lt (Int.pow_pos (by decide)))
 simp only [binE,binV,eqGuard,binOp,Op.shift,h1,h2,pureR,Bind.bind,Sem.bind,Pure.pure,if_false,h3]
 simp [pureR,Sem.bind]
def numB (n:Int):Nat→List UInt8
 | 0=>[]
 | c+1=>UInt8.ofNat (n / 2 ^ (8*c)).toNat::numB n c
theorem numB_len (n:Int):∀ c,(numB n c).length=c
 | 0=>rfl
 | c+1=>by simp [numB,numB_len n c]
theorem desc_told (m0:Mem) (lv:AV) (cs:List AV) (n:Int) (c:Nat) (ho:Own m0 5 1 lv cs.length cs) (hn:0≤n) (hn2:n≤1073741824) (hc:c≤4) (hl:cs.length≤100000):OSpec Tryz.prog 165 [lv,intV n,intV (c:Nat)] m0 fun r m'=>r=(growB 5 m0 lv cs (bytesA (numB n c))).2∧m'=(growB 5 m0 lv cs (bytesA (numB n c))).1:=by
 have w0:IntKind.i64.wrap ((c:Int) - 1)=(c:Int) - 1:=wrap_id (by omega) (by omega)
 refine ospec_of_body follows Tryz.func165 (by unfold Tryz.f165;rfl) (by unfold Tryz.f165;simp) onceA (by unfold Tryz.f165;simp) (by kernel_rfl) ?_;unfold Tryz.f165
 simp only [↓pre,simprocAttr,parV,sx,tys165,onceA,postU,postA,postV,w0,sr]
 rw [codeW_loop]
 refine loop_intro (fun q e m=>∃ (c':Nat) (ys:List UInt8),q=c'∧c'≤c∧Hid (ys++numB n c'=numB n c)∧e 0=(growB 5 m0 lv cs (bytesA ys)).2∧e 1=intV n∧e 7=intV ((c':Int) - 1)∧m=(growB 5 m0 lv cs (bytesA ys)).1) c ⟨c,[],rfl,Nat.le_refl _,⟨rfl⟩,rfl,rfl,rfl,rfl⟩ ?_
 rintro q e m ⟨c',ys,rfl,hcc,hys,e0,e1,e7,hmm⟩
 replace hcc:=Hid.mk hcc
 cases q with
 | zero =>
  have hno:¬ (0:Int)≤((0:Nat):Int) - 1:=by omega
  have hy:=hys.out
  simp only [numB,List.append_nil] at hy
  subst hy
  simp only [↓pre,simprocAttr,parV,sx,tys165,onceA,postU,postA,postV,e0,e1,e7,hno,sr]
  exact hmm
 | succ d =>
  have hyes:(0:Int)≤((d+1:Nat):Int) - 1:=by omega
  have hd:((d+1:Nat):Int) - 1=(d:Nat):=by omega
  have w1:IntKind.i64.wrap (8*((d:Nat):Int))=((8*d:Nat):Int):=by rw [show 8*((d:Nat):Int)=((8*d:Nat):Int) by simp];exact wrap_nat (by have:=hcc.out;omega)
  have w2:IntKind.i64.wrap (((d:Nat):Int) - 1)=((d:Nat):Int) - 1:=wrap_id (by omega) (by have:=hcc.out;omega)
  have hmin:min (8*d) IntKind.i64.bits=8*d:=by have:=hcc.out;have:IntKind.i64.bits=64:=rfl;omega
  have hpos:0≤n / 2 ^ (8*d):=Int.ediv_nonneg hn (Int.le_of_lt (Int.pow_pos (by decide)))
  have wu:IntKind.u8.wrap (n / 2 ^ (8*d))=((UInt8.ofNat (n / 2 ^ (8*d)).toNat).toNat:Int):=by
   have:=u8_wrap (n / 2 ^ (8*d)).toNat
   rw [Int.toNat_of_nonneg hpos] at this
   exact this
  have hown:=growB_own (bytesA ys) m0 lv cs ho
  rw [←hmm,←e0] at hown
  have hyl:(bytesA ys).length≤4:=by
   have h9:=congrArg List.length hys.out
   rw [List.length_append,numB_len,numB_len] at h9
   simp [bytesA]
   omega
  have happ:=app_grow (P:=Tryz.prog) (x := .tree 1 1 [.val (.int .u8 (UInt8.ofNat (n / 2 ^ (8*d)).toNat).toNat)] true) (y := .val (.int .u8 (UInt8.ofNat (n / 2 ^ (8*d)).toNat).toNat)) (yb:=1) (zl:=[.int .u8 0]) (by kernel_rfl) hown (by kernel_rfl) (by kernel_rfl) (by kernel_rfl) rfl srcT1 (by omega) (by omega)
  have hga:=growB_append (el:=5) (bytesA ys) [.val (.int .u8 (UInt8.ofNat (n / 2 ^ (8*d)).toNat).toNat)] m0 lv cs
  rw [←hmm,←e0] at hga
  simp only [growB] at hga
  generalize hv0:e 0=v0 at *
  rw [hd] at e7
  replace hyl:=Hid.mk hyl
  replace hown:=Hid.mk hown
  replace hga:=Hid.mk hga
  replace hmm:=Hid.mk hmm
  replace e0:=Hid.mk e0
  replace hpos:=Hid.mk hpos
  have hyes2:(0:Int)≤((d:Nat):Int):=by omega
  simp only [↓pre,simprocAttr,parV,sx,tys165,onceA,postU,postA,postV,hv0,e1,e7,hyes2,w1,w2,bin_shr_nat,hmin,wu,happ,sr]
  refine ⟨d,by omega,d,ys++[UInt8.ofNat (n / 2 ^ (8*d)).toNat],rfl,by have:=hcc.out;omega,⟨by rw [List.append_assoc];exact hys.out⟩, ?_,rfl, ?_⟩
  ·unfold bytesA at hga ⊢
   rw [List.map_append,List.map_cons,List.map_nil]
   exact (congrArg Prod.snd hga.out).symm
  ·unfold bytesA at hga ⊢
   rw [List.map_append,List.map_cons,List.map_nil]
   exact (congrArg Prod.fst hga.out).symm
abbrev RefI:=Int×Int
def refsA (l:List RefI):List AV:=l.flatMap fun x=>[intV x.1,intV x.2]
theorem refsA_len (l:List RefI):(refsA l).length=l.length*2:=by
 induction l with
 | nil=>rfl
 | cons a l ih=>simp only [refsA,List.flatMap_cons,List.length_append,List.length_cons,List.length_nil] at ih ⊢;omega
theorem refsA_append (a b:List RefI):refsA (a++b)=refsA a++refsA b:=by simp [refsA]
theorem refsA_at:∀ (l:List RefI) (x:List AV) (i:Nat) (a:RefI),l[i]? = some a→(refsA l++x)[i*2]? = some (intV a.1)∧(refsA l++x)[i*2+1]? = some (intV a.2)
 | [],x,i,a,h=>by simp at h
 | b::l,x,0,a,h=>by simp at h;subst h;exact ⟨rfl,rfl⟩
 | b::l,x,i+1,a,h=>by
  have ih:=refsA_at l x i a (by simpa using h)
  have e:refsA (b::l)=intV b.1::intV b.2::refsA l:=rfl
  rw [e,show (i+1)*2=i*2+1+1 by omega]
  simpa using ih
def RefsV (v:AV) (l:List RefI):Prop:=∃ x,RdSl v l.length (refsA l++x)
def refsB (l:List RefI):List UInt8:=l.flatMap fun x=>numB x.1 2++numB x.2 4
theorem refsB_len (l:List RefI):(refsB l).length=l.length*6:=by
 induction l with
 | nil=>rfl
 | cons a l ih=>simp only [refsB,List.flatMap_cons,List.length_append,numB_len,List.length_cons] at ih ⊢;omega
theorem bytesA_append (a b:List UInt8):bytesA (a++b)=bytesA a++bytesA b:=by unfold bytesA;rw [List.map_append]
theorem bytesA_len (a:List UInt8):(bytesA a).length=a.length:=by simp [bytesA]
def hopM (m:Mem):Mem:=(m.push ⟨[.val (.int .i64 0),.val (.int .i64 0)],90,.hole,true⟩).put m.next none
theorem hop_own {m:Mem} {el:TypeId} {sz n:Nat} {v:AV} {cs:List AV} (h:Own m el sz v n cs):Own (hopM m) el sz v n cs:=h.pp _ _
def addG:Mem→AV→List AV→List RefI→Mem×AV
 | m,v,_,[]=>(m,v)
 | m,v,cs,x::xs=>addG (growB 5 (growB 5 (hopM m) v cs (bytesA (numB x.1 2))).1 (growB 5 (hopM m) v cs (bytesA (numB x.1 2))).2 (cs++bytesA (numB x.1 2)) (bytesA (numB x.2 4))).1
  (growB 5 (growB 5 (hopM m) v cs (bytesA (numB x.1 2))).1 (growB 5 (hopM m) v cs (bytesA (numB x.1 2))).2 (cs++bytesA (numB x.1 2)) (bytesA (numB x.2 4))).2 (cs++bytesA (numB x.1 2)++bytesA (numB x.2 4)) xs
theorem addG_own:∀ (l:List RefI) (m:Mem) (v:AV) (cs:List AV),Own m 5 1 v cs.length cs→Own (addG m v cs l).1 5 1 (addG m v cs l).2 (cs.length+(refsB l).length) (cs++bytesA (refsB l))
 | [],m,v,cs,h=>by simpa [addG,refsB,bytesA] using h
 | x::xs,m,v,cs,h=>by
  rw [addG]
  have h1:=growB_own (bytesA (numB x.1 2)) _ _ cs (hop_own h)
  rw [←List.length_append] at h1
  have h2:=growB_own (bytesA (numB x.2 4)) _ _ _ h1
  rw [←List.length_append] at h2
  have h3:=addG_own xs _ _ _ h2
  have e:refsB (x::xs)=numB x.1 2++(numB x.2 4++refsB xs):=by simp [refsB]
  have hlen:cs.length+(refsB (x::xs)).length=(cs++bytesA (numB x.1 2)++bytesA (numB x.2 4)).length+(refsB xs).length:=by rw [e];simp [bytesA_len];omega
  have hcs:cs++bytesA (refsB (x::xs))=cs++bytesA (numB x.1 2)++bytesA (numB x.2 4)++bytesA (refsB xs):=by rw [e,bytesA_append,bytesA_append,←List.append_assoc,←List.append_assoc]
  rw [hlen,hcs]
  exact h3
theorem desc_add (m0:Mem) (lv:AV) (cs:List AV) (v:AV) (l:List RefI) (hv:RefsV v l) (ho:Own m0 5 1 lv cs.length cs) (hl:∀ x∈l,(0≤x.1∧x.1≤1073741824)∧0≤x.2∧x.2≤1073741824) (hn:l.length≤1000) (hc:cs.length≤1000):OSpec Tryz.prog 167 [lv,v] m0 fun r m'=>r=(addG m0 lv cs l).2∧m'=(addG m0 lv cs l).1:=by
 obtain ⟨x,hv⟩:=hv
 replace hl:=Hid.mk hl
 generalize hG:addG m0 lv cs l=G
 replace hG:=Hid.mk hG
 have hG0:addG m0 lv (cs++bytesA (refsB (l.take 0))) (l.drop 0)=G:=by simpa [refsB,bytesA] using hG.out
 have ho0:Own m0 5 1 lv (cs++bytesA (refsB (l.take 0))).length (cs++bytesA (refsB (l.take 0))):=by simpa [refsB,bytesA] using ho
 have htd:=fun m v cs n c a b d e f=>desc_told m v cs n c a b d e f
 replace htd:=Hid.mk htd
 refine ospec_of_body follows Tryz.func167 (by unfold Tryz.f167;rfl) (by unfold Tryz.f167;simp) onceA (by unfold Tryz.f167;simp) (by kernel_rfl) ?_;unfold Tryz.f167
 simp only [↓pre,simprocAttr,parV,sx,tys167,onceA,postU,postA,postV,storeE,allocE,put_at,push_at,hv.len',sr]
 rw [codeW_loop]
 refine loop_intro (fun q e m=>∃ i,q+i=l.length∧e 7=v∧e 8=intV (l.length:Nat)∧e 9=intV (i:Nat)∧Hid (addG m (e 0) (cs++bytesA (refsB (l.take i))) (l.drop i)=G∧Own m 5 1 (e 0) (cs++bytesA (refsB (l.take i))).length (cs++bytesA (refsB (l.take i))))) l.length ⟨0,by omega,rfl,rfl,rfl,⟨hG0,ho0⟩⟩ ?_
 rintro q e m ⟨i,hq,e7,e8,e9,hJ⟩
 replace hq:=Hid.mk hq
 obtain ⟨hGG,hown⟩:=hJ.out
 generalize hv0:e 0=v0 at *
 by_cases hlt:i < l.length
 ·have hlt':((i:Nat):Int) < ((l.length:Nat):Int):=by omega
  have wi:=wrap_succ (n:=i) (by omega)
  obtain ⟨y,hy⟩:∃ y,l[i]? = some y:=⟨_,List.getElem?_eq_getElem hlt⟩
  obtain ⟨ha,hb⟩:=refsA_at l x i y hy
  obtain ⟨ht,htl⟩:=take2 ha hb
  have hyl:=hl.out y (List.mem_of_getElem? hy)
  have hdrop:l.drop i=y::l.drop (i+1):=by
   rw [List.drop_eq_getElem_cons hlt]
   congr 1
   rw [List.getElem?_eq_getElem hlt] at hy
   exact Option.some.inj hy
  have htake:refsB (l.take (i+1))=refsB (l.take i)++(numB y.1 2++numB y.2 4):=by
   rw [List.take_add_one,hy]
   simp [refsB]
  have hcl:(cs++bytesA (refsB (l.take i))).length≤7000:=by
   rw [List.length_append,bytesA_len,refsB_len,List.length_take]
   omega
  rw [hdrop,addG] at hGG
  have h1:=htd.out (hopM m) v0 (cs++bytesA (refsB (l.take i))) y.1 2 (hop_own hown) hyl.1.1 hyl.1.2 (by omega) (by omega)
  have hown2:=growB_own (bytesA (numB y.1 2)) _ _ _ (hop_own hown)
  rw [←List.length_append] at hown2
  have h2:=htd.out _ _ _ y.2 4 hown2 hyl.2.1 hyl.2.2 (by omega) (by rw [List.length_append,bytesA_len,numB_len];omega)
  have hown3:=growB_own (bytesA (numB y.2 4)) _ _ _ hown2
  rw [←List.length_append] at hown3
  rw [show cs++bytesA (refsB (l.take i))++bytesA (numB y.1 2)++bytesA (numB y.2 4)=cs++bytesA (refsB (l.take (i+1))) by rw [htake,bytesA_append,bytesA_append,List.append_assoc,List.append_assoc]] at hGG hown3
  replace hy:=Hid.mk hy
  replace hdrop:=Hid.mk hdrop
  replace htake:=Hid.mk htake
  replace hGG:=Hid.mk hGG
  replace hown:=Hid.mk hown
  replace hown2:=Hid.mk hown2
  replace hown3:=Hid.mk hown3
  have hhop:(m.push ⟨[.val (.int .i64 0),.val (.int .i64 0)],90,.hole,true⟩).put m.next none=hopM m:=rfl
  simp only [intV] at h1 h2
  simp only [↓pre,simprocAttr,parV,sx,tys167,onceA,postU,postA,postV,storeE,allocE,put_at,push_at,hv0,e7,e8,e9,hlt',hv.addr',hlt,ht,htl,intV,hhop,sr]
  refine call_open h1 ?_
  rintro res m2 ⟨rfl,rfl⟩
  simp only [↓pre,simprocAttr,parV,sx,tys167,onceA,postU,postA,postV,storeE,allocE,put_at,push_at,hv0,e7,e8,e9,sr]
  refine call_open h2 ?_
  rintro res m3 ⟨rfl,rfl⟩
  simp only [↓pre,simprocAttr,parV,sx,tys167,onceA,postU,postA,postV,storeE,allocE,put_at,push_at,hv0,e7,e8,e9,wi,sr]
  exact ⟨q - 1,by have:=hq.out;omega,i+1,by have:=hq.out;omega,rfl,⟨hGG.out,hown3.out⟩⟩
 ·have hlt':¬ ((i:Nat):Int) < ((l.length:Nat):Int):=by omega
  have hi:i=l.length:=by have:=hq.out;omega
  rw [List.drop_of_length_le (by omega),addG] at hGG
  have hg:=hG.out
  subst hGG
  simp only [↓pre,simprocAttr,parV,sx,tys167,onceA,postU,postA,postV,storeE,allocE,put_at,push_at,hv0,e7,e8,e9,hlt',sr]
def refB (w:Int) (x:RefI):Bool:=decide ((0≤x.1∧x.1 < w)∧1≤x.2∧x.2≤1073741824)
def refsOk (w:Int) (l:List RefI):Bool:=l.all (refB w)
theorem desc_may (k r c w:Int) (v:AV) (l:List RefI) (hv:RefsV v l) (hn:l.length≤9223372036854775807):FSpec Tryz.prog 168 [parV k r c w,v] ⟨boolV (refsOk w l),[]⟩:=by
 obtain ⟨x,hv⟩:=hv
 have hp:=hv.plain
 generalize hres:refsOk w l=B
 replace hres:=Hid.mk hres
 refine fspec_of_body follows Tryz.func168 (by unfold Tryz.f168;rfl) (by unfold Tryz.f168;simp) onceA (by unfold Tryz.f168;simp) (by kernel_rfl) ?_;unfold Tryz.f168
 simp only [↓pre,simprocAttr,parV,sx,tys168,onceA,postU,postA,storeE,allocE,put_at,push_at,hv.len',sr]
 rw [codeW_loop]
 refine loop_intro (fun q e m=>∃ i,q+i=l.length∧e 2 = .tptr 0 [intV k,intV r,intV c,intV w]∧e 7=v∧e 8=intV (l.length:Nat)∧e 9=intV (i:Nat)∧Hid (∀ j y,j < i→l[j]? = some y→refB w y=true)) l.length ⟨0,by omega,rfl,rfl,rfl,rfl,⟨fun j y h=>by omega⟩⟩ ?_
 rintro q e m ⟨i,hq,e2,e7,e8,e9,hJ⟩
 replace hq:=Hid.mk hq
 by_cases hlt:i < l.length
 ·have hlt':((i:Nat):Int) < ((l.length:Nat):Int):=by omega
  have wi:=wrap_succ (n:=i) (by omega)
  obtain ⟨y,hy⟩:∃ y,l[i]? = some y:=⟨_,List.getElem?_eq_getElem hlt⟩
  obtain ⟨ha,hb⟩:=refsA_at l x i y hy
  obtain ⟨ht,htl⟩:=take2 ha hb
  have hbad:refB w y=false→B=false:=fun h=>by
   rw [←hres.out]
   unfold refsOk
   rw [List.all_eq_false]
   exact ⟨y,List.mem_of_getElem? hy,by rw [h];decide⟩
  have hgood:refB w y=true→∃ n',n' < q∧n'+(i+1)=l.length∧∀ j y,j < i+1→l[j]? = some y→refB w y=true:=fun h=>⟨q - 1,by have:=hq.out;omega,by have:=hq.out;omega,fun j y' hj hy'=>by
   by_cases e:j=i
   ·subst e;rw [hy] at hy';cases hy';exact h
   ·exact hJ.out j y' (by omega) hy'⟩
  have hd:refB w y=decide ((0≤y.1∧y.1 < w)∧1≤y.2∧y.2≤1073741824):=rfl
  replace hy:=Hid.mk hy
  replace hbad:=Hid.mk hbad
  replace hgood:=Hid.mk hgood
  replace hd:=Hid.mk hd
  simp only [intV] at ht
  by_cases k1:y.1 < 0
  ·have hB:=hbad.out (by rw [hd.out];simp;omega)
   subst hB
   simp only [↓pre,simprocAttr,parV,sx,tys168,onceA,postU,postA,storeE,allocE,put_at,push_at,e2,e7,e8,e9,hlt',hv.addr',hlt,ht,htl,k1,sr]
  ·by_cases k2:w≤y.1
   ·have hB:=hbad.out (by rw [hd.out];simp;omega)
    subst hB
    simp only [↓pre,simprocAttr,parV,sx,tys168,onceA,postU,postA,storeE,allocE,put_at,push_at,e2,e7,e8,e9,hlt',hv.addr',hlt,ht,htl,k1,k2,sr]
   ·by_cases k3:y.2 < 1
    ·have hB:=hbad.out (by rw [hd.out];simp;omega)
     subst hB
     simp only [↓pre,simprocAttr,parV,sx,tys168,onceA,postU,postA,storeE,allocE,put_at,push_at,e2,e7,e8,e9,hlt',hv.addr',hlt,ht,htl,k1,k2,k3,sr]
    ·by_cases k4:(1073741824:Int) < y.2
     ·have hB:=hbad.out (by rw [hd.out];simp;omega)
      subst hB
      simp only [↓pre,simprocAttr,parV,sx,tys168,onceA,postU,postA,storeE,allocE,put_at,push_at,e2,e7,e8,e9,hlt',hv.addr',hlt,ht,htl,k1,k2,k3,k4,sr]
     ·obtain ⟨n',h1,h2,h3⟩:=hgood.out (by rw [hd.out];simp;omega)
      simp only [↓pre,simprocAttr,parV,sx,tys168,onceA,postU,postA,storeE,allocE,put_at,push_at,e2,e7,e8,e9,hlt',hv.addr',hlt,ht,htl,k1,k2,k3,k4,wi,sr]
      exact ⟨n',h1,i+1,h2,rfl,⟨h3⟩⟩
 ·have hlt':¬ ((i:Nat):Int) < ((l.length:Nat):Int):=by omega
  have hB:B=true:=by
   rw [←hres.out]
   unfold refsOk
   rw [List.all_eq_true]
   intro y hy
   obtain ⟨j,hj⟩:=List.getElem?_of_mem hy
   have:=(List.getElem?_eq_some_iff.1 hj).1
   exact hJ.out j y (by omega) hj
  subst hB
  simp only [↓pre,simprocAttr,parV,sx,tys168,onceA,postU,postA,storeE,allocE,put_at,push_at,e2,e7,e8,e9,hlt',sr]
def descOk (k r c w len dep:Int) (l:List RefI):Bool:=decide (oE k r c w len=0) && (decide (min (oF k r c w len) 1=dep) && (decide ((l.length:Int)=(if dep=1 then oF k r c w len else oS k r c w len)) && refsOk w l))
def chkD (k r c w len dep:Int) (l:List RefI):Int:=if mayB k r c w=true then (if descOk k r c w len dep l=true then 0 else 150) else 2
theorem oF_nn {k r c w n:Int} (hm:mayB k r c w=true):0≤oF k r c w n:=by
 unfold oF
 split
 ·rename_i h
  unfold oE at h
  rw [hm,if_pos rfl] at h
  split at h
  ·omega
  ·split at h
   ·omega
   ·unfold fI
    split
    ·omega
    ·have hw:=may_w hm
     have hb:=up_bounds (a:=n) (b:=wI k c) (by omega) (by have:=m_le k c;omega) (by unfold wI;omega) (by unfold wI;omega)
     have hl:=l_bounds hw.1 hw.2
     have h2:0≤sI k c n:=hb.1
     unfold upI lI
     refine Int.ediv_nonneg ?_ ?_ <;> omega
 ·omega
theorem desc_Check (k r c w len dep:Int) (v:AV) (l:List RefI) (hv:RefsV v l) (hn:l.length≤9223372036854775807):FSpec Tryz.prog 164 [parV k r c w,.agg [intV len,intV dep,v]] ⟨intV (chkD k r c w len dep l),[]⟩:=by
 have h1:=layout_check k r c w
 have h2:=layout_Depth k r c w len
 have h3:=layout_leaves k r c w len
 have h4:=layout_stripes k r c w len
 have h5:=desc_may k r c w v l hv hn
 obtain ⟨x,hv⟩:=hv
 have hp:=hv.plain
 have f1:=rd_fz hv
 have o1:=rd_one hv
 generalize hres:chkD k r c w len dep l=E
 unfold chkD at hres
 cases hm:mayB k r c w with
 | false =>
  rw [hm] at h1 hres
  subst hres
  simp only [Bool.false_eq_true,if_false] at h1
  refine fspec_of_body follows Tryz.func164 (by unfold Tryz.f164;rfl) (by unfold Tryz.f164;simp) onceA (by unfold Tryz.f164;simp) (by kernel_rfl) ?_;unfold Tryz.f164
  simp only [↓pre,simprocAttr,parV,sx,tys164,onceA,postU,postA,f1,o1,sr]
  (first | refine call_plain (h1) (by first | rfl | simp only [parV,plQ, *]) ?_ | refine call_pure (h1) (by first | rfl | simp only [parV,plQ, *]) (by intro k;first | rfl | simp only [sq,sr, *]) ?_);simp only [↓pre,simprocAttr,parV,sx,tys164,onceA,postU,postA,f1,o1,sr]
 | true =>
  have hF0:=oF_nn (n:=len) hm
  rw [hm] at h1 hres
  simp only [if_true] at h1 hres
  unfold descOk at hres
  generalize oE k r c w len=e1 at *
  generalize oF k r c w len=f at *
  generalize oS k r c w len=s at *
  generalize refsOk w l=B at *
  by_cases k1:e1=0
  ·subst k1
   by_cases k2:min f 1=dep
   ·rw [decide_eq_true k2] at hres
    by_cases kd:dep=1
    ·subst kd
     by_cases k3:f=(l.length:Int)
     ·rw [if_pos rfl,k3] at hres
      have hk2:min (l.length:Int) 1=1:=by omega
      cases B with
      | true =>
       simp only [decide_true,Bool.and_self,if_true] at hres
       subst hres
       refine fspec_of_body follows Tryz.func164 (by unfold Tryz.f164;rfl) (by unfold Tryz.f164;simp) onceA (by unfold Tryz.f164;simp) (by kernel_rfl) ?_;unfold Tryz.f164
       simp only [↓pre,simprocAttr,parV,sx,tys164,onceA,postU,postA,f1,o1,sr]
       (first | refine call_plain (h1) (by first | rfl | simp only [parV,plQ, *]) ?_ | refine call_pure (h1) (by first | rfl | simp only [parV,plQ, *]) (by intro k;first | rfl | simp only [sq,sr, *]) ?_);simp only [↓pre,simprocAttr,parV,sx,tys164,onceA,postU,postA,f1,o1,k2,k3,hv.len',hk2,sr];(first | refine call_plain (h2) (by first | rfl | simp only [parV,plQ, *]) ?_ | refine call_pure (h2) (by first | rfl | simp only [parV,plQ, *]) (by intro k;first | rfl | simp only [sq,sr, *]) ?_);simp only [↓pre,simprocAttr,parV,sx,tys164,onceA,postU,postA,f1,o1,k2,k3,hv.len',hk2,sr];(first | refine call_plain (h3) (by first | rfl | simp only [parV,plQ, *]) ?_ | refine call_pure (h3) (by first | rfl | simp only [parV,plQ, *]) (by intro k;first | rfl | simp only [sq,sr, *]) ?_);simp only [↓pre,simprocAttr,parV,sx,tys164,onceA,postU,postA,f1,o1,k2,k3,hv.len',hk2,sr];(first | refine call_plain (h5) (by first | rfl | simp only [parV,plQ, *]) ?_ | refine call_pure (h5) (by first | rfl | simp only [parV,plQ, *]) (by intro k;first | rfl | simp only [sq,sr, *]) ?_);simp only [↓pre,simprocAttr,parV,sx,tys164,onceA,postU,postA,f1,o1,k2,k3,hv.len',hk2,sr]
      | false =>
       simp only [decide_true,Bool.and_false,Bool.false_eq_true,if_false] at hres
       subst hres
       refine fspec_of_body follows Tryz.func164 (by unfold Tryz.f164;rfl) (by unfold Tryz.f164;simp) onceA (by unfold Tryz.f164;simp) (by kernel_rfl) ?_;unfold Tryz.f164
       simp only [↓pre,simprocAttr,parV,sx,tys164,onceA,postU,postA,f1,o1,sr]
       (first | refine call_plain (h1) (by first | rfl | simp only [parV,plQ, *]) ?_ | refine call_pure (h1) (by first | rfl | simp only [parV,plQ, *]) (by intro k;first | rfl | simp only [sq,sr, *]) ?_);simp only [↓pre,simprocAttr,parV,sx,tys164,onceA,postU,postA,f1,o1,k2,k3,hv.len',hk2,sr];(first | refine call_plain (h2) (by first | rfl | simp only [parV,plQ, *]) ?_ | refine call_pure (h2) (by first | rfl | simp only [parV,plQ, *]) (by intro k;first | rfl | simp only [sq,sr, *]) ?_);simp only [↓pre,simprocAttr,parV,sx,tys164,onceA,postU,postA,f1,o1,k2,k3,hv.len',hk2,sr];(first | refine call_plain (h3) (by first | rfl | simp only [parV,plQ, *]) ?_ | refine call_pure (h3) (by first | rfl | simp only [parV,plQ, *]) (by intro k;first | rfl | simp only [sq,sr, *]) ?_);simp only [↓pre,simprocAttr,parV,sx,tys164,onceA,postU,postA,f1,o1,k2,k3,hv.len',hk2,sr];(first | refine call_plain (h5) (by first | rfl | simp only [parV,plQ, *]) ?_ | refine call_pure (h5) (by first | rfl | simp only [parV,plQ, *]) (by intro k;first | rfl | simp only [sq,sr, *]) ?_);simp only [↓pre,simprocAttr,parV,sx,tys164,onceA,postU,postA,f1,o1,k2,k3,hv.len',hk2,sr]
     ·have k3':¬ (l.length:Int)=f:=fun h=>k3 h.symm
      rw [if_pos rfl,decide_eq_false k3'] at hres
      simp only [Bool.false_and,Bool.and_false,Bool.false_eq_true,if_false] at hres
      subst hres
      refine fspec_of_body follows Tryz.func164 (by unfold Tryz.f164;rfl) (by unfold Tryz.f164;simp) onceA (by unfold Tryz.f164;simp) (by kernel_rfl) ?_;unfold Tryz.f164
      simp only [↓pre,simprocAttr,parV,sx,tys164,onceA,postU,postA,f1,o1,sr]
      (first | refine call_plain (h1) (by first | rfl | simp only [parV,plQ, *]) ?_ | refine call_pure (h1) (by first | rfl | simp only [parV,plQ, *]) (by intro k;first | rfl | simp only [sq,sr, *]) ?_);simp only [↓pre,simprocAttr,parV,sx,tys164,onceA,postU,postA,f1,o1,k2,k3,hv.len',sr];(first | refine call_plain (h2) (by first | rfl | simp only [parV,plQ, *]) ?_ | refine call_pure (h2) (by first | rfl | simp only [parV,plQ, *]) (by intro k;first | rfl | simp only [sq,sr, *]) ?_);simp only [↓pre,simprocAttr,parV,sx,tys164,onceA,postU,postA,f1,o1,k2,k3,hv.len',sr];(first | refine call_plain (h3) (by first | rfl | simp only [parV,plQ, *]) ?_ | refine call_pure (h3) (by first | rfl | simp only [parV,plQ, *]) (by intro k;first | rfl | simp only [sq,sr, *]) ?_);simp only [↓pre,simprocAttr,parV,sx,tys164,onceA,postU,postA,f1,o1,k2,k3,hv.len',sr]
    ·have hd0:dep=0:=by omega
     subst hd0
     rw [if_neg (show ¬ (0:Int)=1 by decide)] at hres
     by_cases k3:s=(l.length:Int)
     ·rw [k3] at hres
      cases B with
      | true =>
       simp only [decide_true,Bool.and_self,if_true] at hres
       subst hres
       refine fspec_of_body follows Tryz.func164 (by unfold Tryz.f164;rfl) (by unfold Tryz.f164;simp) onceA (by unfold Tryz.f164;simp) (by kernel_rfl) ?_;unfold Tryz.f164
       simp only [↓pre,simprocAttr,parV,sx,tys164,onceA,postU,postA,f1,o1,sr]
       (first | refine call_plain (h1) (by first | rfl | simp only [parV,plQ, *]) ?_ | refine call_pure (h1) (by first | rfl | simp only [parV,plQ, *]) (by intro k;first | rfl | simp only [sq,sr, *]) ?_);simp only [↓pre,simprocAttr,parV,sx,tys164,onceA,postU,postA,f1,o1,k2,k3,hv.len',sr];(first | refine call_plain (h2) (by first | rfl | simp only [parV,plQ, *]) ?_ | refine call_pure (h2) (by first | rfl | simp only [parV,plQ, *]) (by intro k;first | rfl | simp only [sq,sr, *]) ?_);simp only [↓pre,simprocAttr,parV,sx,tys164,onceA,postU,postA,f1,o1,k2,k3,hv.len',sr];(first | refine call_plain (h4) (by first | rfl | simp only [parV,plQ, *]) ?_ | refine call_pure (h4) (by first | rfl | simp only [parV,plQ, *]) (by intro k;first | rfl | simp only [sq,sr, *]) ?_);simp only [↓pre,simprocAttr,parV,sx,tys164,onceA,postU,postA,f1,o1,k2,k3,hv.len',sr];(first | refine call_plain (h5) (by first | rfl | simp only [parV,plQ, *]) ?_ | refine call_pure (h5) (by first | rfl | simp only [parV,plQ, *]) (by intro k;first | rfl | simp only [sq,sr, *]) ?_);simp only [↓pre,simprocAttr,parV,sx,tys164,onceA,postU,postA,f1,o1,k2,k3,hv.len',sr]
      | false =>
       simp only [decide_true,Bool.and_false,Bool.false_eq_true,if_false] at hres
       subst hres
       refine fspec_of_body follows Tryz.func164 (by unfold Tryz.f164;rfl) (by unfold Tryz.f164;simp) onceA (by unfold Tryz.f164;simp) (by kernel_rfl) ?_;unfold Tryz.f164
       simp only [↓pre,simprocAttr,parV,sx,tys164,onceA,postU,postA,f1,o1,sr]
       (first | refine call_plain (h1) (by first | rfl | simp only [parV,plQ, *]) ?_ | refine call_pure (h1) (by first | rfl | simp only [parV,plQ, *]) (by intro k;first | rfl | simp only [sq,sr, *]) ?_);simp only [↓pre,simprocAttr,parV,sx,tys164,onceA,postU,postA,f1,o1,k2,k3,hv.len',sr];(first | refine call_plain (h2) (by first | rfl | simp only [parV,plQ, *]) ?_ | refine call_pure (h2) (by first | rfl | simp only [parV,plQ, *]) (by intro k;first | rfl | simp only [sq,sr, *]) ?_);simp only [↓pre,simprocAttr,parV,sx,tys164,onceA,postU,postA,f1,o1,k2,k3,hv.len',sr];(first | refine call_plain (h4) (by first | rfl | simp only [parV,plQ, *]) ?_ | refine call_pure (h4) (by first | rfl | simp only [parV,plQ, *]) (by intro k;first | rfl | simp only [sq,sr, *]) ?_);simp only [↓pre,simprocAttr,parV,sx,tys164,onceA,postU,postA,f1,o1,k2,k3,hv.len',sr];(first | refine call_plain (h5) (by first | rfl | simp only [parV,plQ, *]) ?_ | refine call_pure (h5) (by first | rfl | simp only [parV,plQ, *]) (by intro k;first | rfl | simp only [sq,sr, *]) ?_);simp only [↓pre,simprocAttr,parV,sx,tys164,onceA,postU,postA,f1,o1,k2,k3,hv.len',sr]
     ·have k3':¬ (l.length:Int)=s:=fun h=>k3 h.symm
      rw [decide_eq_false k3'] at hres
      simp only [Bool.false_and,Bool.and_false,Bool.false_eq_true,if_false] at hres
      subst hres
      refine fspec_of_body follows Tryz.func164 (by unfold Tryz.f164;rfl) (by unfold Tryz.f164;simp) onceA (by unfold Tryz.f164;simp) (by kernel_rfl) ?_;unfold Tryz.f164
      simp only [↓pre,simprocAttr,parV,sx,tys164,onceA,postU,postA,f1,o1,sr]
      (first | refine call_plain (h1) (by first | rfl | simp only [parV,plQ, *]) ?_ | refine call_pure (h1) (by first | rfl | simp only [parV,plQ, *]) (by intro k;first | rfl | simp only [sq,sr, *]) ?_);simp only [↓pre,simprocAttr,parV,sx,tys164,onceA,postU,postA,f1,o1,k2,k3,hv.len',sr];(first | refine call_plain (h2) (by first | rfl | simp only [parV,plQ, *]) ?_ | refine call_pure (h2) (by first | rfl | simp only [parV,plQ, *]) (by intro k;first | rfl | simp only [sq,sr, *]) ?_);simp only [↓pre,simprocAttr,parV,sx,tys164,onceA,postU,postA,f1,o1,k2,k3,hv.len',sr];(first | refine call_plain (h4) (by first | rfl | simp only [parV,plQ, *]) ?_ | refine call_pure (h4) (by first | rfl | simp only [parV,plQ, *]) (by intro k;first | rfl | simp only [sq,sr, *]) ?_);simp only [↓pre,simprocAttr,parV,sx,tys164,onceA,postU,postA,f1,o1,k2,k3,hv.len',sr]
   ·rw [decide_eq_false k2] at hres
    simp only [Bool.false_and,Bool.and_false,Bool.false_eq_true,if_false] at hres
    subst hres
    refine fspec_of_body follows Tryz.func164 (by unfold Tryz.f164;rfl) (by unfold Tryz.f164;simp) onceA (by unfold Tryz.f164;simp) (by kernel_rfl) ?_;unfold Tryz.f164
    simp only [↓pre,simprocAttr,parV,sx,tys164,onceA,postU,postA,f1,o1,sr]
    (first | refine call_plain (h1) (by first | rfl | simp only [parV,plQ, *]) ?_ | refine call_pure (h1) (by first | rfl | simp only [parV,plQ, *]) (by intro k;first | rfl | simp only [sq,sr, *]) ?_);simp only [↓pre,simprocAttr,parV,sx,tys164,onceA,postU,postA,f1,o1,k2,sr];(first | refine call_plain (h2) (by first | rfl | simp only [parV,plQ, *]) ?_ | refine call_pure (h2) (by first | rfl | simp only [parV,plQ, *]) (by intro k;first | rfl | simp only [sq,sr, *]) ?_);simp only [↓pre,simprocAttr,parV,sx,tys164,onceA,postU,postA,f1,o1,k2,sr]
  ·rw [decide_eq_false k1] at hres
   simp only [Bool.false_and,Bool.false_eq_true,if_false] at hres
   subst hres
   refine fspec_of_body follows Tryz.func164 (by unfold Tryz.f164;rfl) (by unfold Tryz.f164;simp) onceA (by unfold Tryz.f164;simp) (by kernel_rfl) ?_;unfold Tryz.f164
   simp only [↓pre,simprocAttr,parV,sx,tys164,onceA,postU,postA,f1,o1,sr]
   (first | refine call_plain (h1) (by first | rfl | simp only [parV,plQ, *]) ?_ | refine call_pure (h1) (by first | rfl | simp only [parV,plQ, *]) (by intro k;first | rfl | simp only [sq,sr, *]) ?_);simp only [↓pre,simprocAttr,parV,sx,tys164,onceA,postU,postA,f1,o1,k1,sr];(first | refine call_plain (h2) (by first | rfl | simp only [parV,plQ, *]) ?_ | refine call_pure (h2) (by first | rfl | simp only [parV,plQ, *]) (by intro k;first | rfl | simp only [sq,sr, *]) ?_);simp only [↓pre,simprocAttr,parV,sx,tys164,onceA,postU,postA,f1,o1,k1,sr]
theorem copy2 {P:Program} {m:Mem} {t t2 ty:TypeId} {d x:AV}:builtinE P m #[t,t2] ty [d,x] .copy=(elE P t).bind fun el=>copyE P el m d x:=rfl
def padB (bs:List UInt8) (W:Nat):List UInt8:=bs++List.replicate (W - bs.length) 0
theorem padB_len {bs:List UInt8} {W:Nat} (h:bs.length≤W):(padB bs W).length=W:=by simp [padB];omega
theorem tabA_zero (W:Nat):tabA W (fun _=>0)=bytesA (List.replicate W 0):=by
 unfold tabA tab bytesA
 congr 1
 apply List.ext_getElem
 ·simp
 ·intro i h1 h2;simp
theorem desc_wide (k r c w:Int) (hm:mayB k r c w=true) (m0:Mem) (lv:AV) (bs:List UInt8) (ho:Own m0 5 1 lv bs.length (bytesA bs)) (hl:bs.length≤(wI k c).toNat):OSpec Tryz.prog 166 [parV k r c w,lv] m0 fun res m'=>res = .tup [.sl m0.next 0 (wI k c).toNat (wI k c).toNat true,intV 0]∧m'=m0.push ⟨bytesA (padB bs (wI k c).toNat),5,.flat,true⟩:=by
 have hw:=layout_Width k r c w
 have hwb:=may_w hm
 simp only [hm,if_true] at hw
 obtain ⟨W,hW⟩:∃ W:Nat,wI k c=(W:Int):=⟨(wI k c).toNat,by unfold wI;omega⟩
 have hWn:(wI k c).toNat=W:=by omega
 have hW8:W≤768:=by unfold wI at hW;omega
 rw [hWn] at hl ⊢
 rw [hW] at hw
 have hmk:=fun m=>make_bytes m (n:=W) (by omega)
 have hown:=ho.push (x:=⟨tabA W fun _=>0,5,.flat,true⟩)
 have hsrc:=own_src (P:=Tryz.prog) (el':=5) (kd := .flat) hown (by kernel_rfl)
 have hcp:copyE Tryz.prog 5 (m0.push ⟨tabA W fun _=>0,5,.flat,true⟩) (.sl m0.next 0 W W true) lv=some ⟨intV (bs.length:Nat),m0.push ⟨bytesA (padB bs W),5,.flat,true⟩,none⟩:=by
  have h2:szE Tryz.prog 5=some 1:=by kernel_rfl
  have h4:kindT Tryz.prog 5 = .flat:=by kernel_rfl
  have hb:(m0.push ⟨tabA W fun _=>0,5,.flat,true⟩).at_ m0.next=some ⟨tabA W fun _=>0,5,.flat,true⟩:=by rw [push_at,if_pos rfl]
  simp only [copyE,h2,hsrc,hb,Option.bind_some,h4]
  rw [if_pos ⟨trivial,trivial,by rw [tabA_len];omega⟩,push_put rfl]
  have hmin:min bs.length W=bs.length:=by omega
  rw [hmin,Nat.mul_one,List.take_of_length_le (by rw [bytesA_len];omega),tabA_zero]
  congr 4
  unfold padB splice
  rw [bytesA_append,bytesA_len,List.take_zero,List.nil_append,Nat.zero_add]
  congr 1
  unfold bytesA
  rw [←List.map_drop,List.drop_replicate]
 refine ospec_of_body follows Tryz.func166 (by unfold Tryz.f166;rfl) (by unfold Tryz.f166;simp) onceA (by unfold Tryz.f166;simp) (by kernel_rfl) ?_;unfold Tryz.f166
 simp only [↓pre,simprocAttr,parV,sx,tys166,onceA,postU,sr]
 (first | refine call_plain (hw) (by first | rfl | simp only [parV,plQ, *]) ?_ | refine call_pure (hw) (by first | rfl | simp only [parV,plQ, *]) (by intro k;first | rfl | simp only [sq,sr, *]) ?_);simp only [↓pre,simprocAttr,parV,sx,tys166,onceA,postU,hmk,copy2,hcp,sr]
def headB (len dep:Int) (n:Nat):List UInt8:=numB len 4++(numB dep 1++numB (n:Nat) 2)
def madeB (k c len dep:Int) (l:List RefI):List UInt8:=padB (headB len dep l.length++refsB l) (wI k c).toNat
def descBV (k r c w len dep:Int) (l:List RefI):AV:=if chkD k r c w len dep l=0 then .tup [.tree (wI k c).toNat (wI k c).toNat (bytesA (madeB k c len dep l)) true,intV 0] else .tup [nilS,intV (chkD k r c w len dep l)]
theorem desc_fit {k r c w len dep:Int} {l:List RefI} (h:chkD k r c w len dep l=0):mayB k r c w=true∧descOk k r c w len dep l=true:=by
 unfold chkD at h
 split at h
 ·rename_i h1
  split at h
  ·rename_i h2;exact ⟨h1,h2⟩
  ·omega
 ·omega
theorem up_div {a b d:Int} (hb:0 < b) (h:a≤d*b):upI a b≤d:=by
 unfold upI
 have:a+b - 1 < (d+1)*b:=by rw [Int.add_mul,Int.one_mul];omega
 have:=Int.ediv_lt_of_lt_mul hb this
 omega
theorem desc_bounds {k r c w len dep:Int} {l:List RefI} (h:chkD k r c w len dep l=0):0≤len∧len≤32768∧(dep=0∨dep=1)∧(l.length:Int)≤dI k c∧(∀ x∈l,(0≤x.1∧x.1 < w)∧1≤x.2∧x.2≤1073741824):=by
 obtain ⟨hm,hd⟩:=desc_fit h
 unfold descOk at hd
 simp only [Bool.and_eq_true,decide_eq_true_eq] at hd
 obtain ⟨h1,h2,h3,h4⟩:=hd
 have hF0:=oF_nn (n:=len) hm
 have hml:=m_le k c
 have hw:=may_w hm
 have hl0:0≤len∧len≤mI k c:=by
  unfold oE at h1
  rw [hm,if_pos rfl] at h1
  split at h1
  ·omega
  ·split at h1
   ·omega
   ·omega
 have hrf:∀ x∈l,(0≤x.1∧x.1 < w)∧1≤x.2∧x.2≤1073741824:=fun x hx=>by
  have:=List.all_eq_true.1 h4 x hx
  unfold refB at this
  exact of_decide_eq_true this
 refine ⟨hl0.1,by omega,by omega, ?_,hrf⟩
 rw [h3]
 have hdb:=d_bounds hw.1 hw.2
 have hlb:=l_bounds hw.1 hw.2
 have hmd:len≤dI k c*lI k c*(k*c):=by unfold mI at hl0;omega
 unfold oF oS at *
 rw [h1,if_pos rfl] at *
 have hs:sI k c len≤dI k c*lI k c:=up_div (by unfold wI;omega) (by unfold wI;omega)
 by_cases hf:sI k c len≤dI k c
 ·have:fI k c len=0:=by unfold fI;rw [if_pos hf]
  rw [this] at h2 ⊢
  have hd0:dep=0:=by omega
  rw [if_neg (by omega)]
  exact hf
 ·have hfi:fI k c len=upI (sI k c len) (lI k c):=by unfold fI;rw [if_neg hf]
  have hle:upI (sI k c len) (lI k c)≤dI k c:=up_div (by unfold lI;omega) hs
  split
  ·rw [hfi];exact hle
  ·rename_i hd1
   exfalso
   have hpos:1≤upI (sI k c len) (lI k c):=by
    unfold upI
    have h9:1*lI k c≤sI k c len+lI k c - 1:=by unfold dI at hf;omega
    exact (Int.le_ediv_iff_mul_le (by unfold lI;omega)).2 h9
   rw [hfi] at h2
   omega
def onceBy:Nat→Bool:=fun d=>d != 30 && d != 31
theorem desc_Bytes (k r c w len dep:Int) (v:AV) (l:List RefI) (hv:RefsV v l) (hn:l.length≤9223372036854775807):FSpec Tryz.prog 149 [parV k r c w,.agg [intV len,intV dep,v]] ⟨descBV k r c w len dep l,[]⟩:=by
 refine fspec_fzT ?_
 have h1:=desc_Check k r c w len dep v l hv hn
 unfold descBV
 by_cases hc:chkD k r c w len dep l=0
 ·rw [if_pos hc]
  rw [hc] at h1
  obtain ⟨hlen0,hlen1,hdep,hll,hlr⟩:=desc_bounds hc
  obtain ⟨hm,_⟩:=desc_fit hc
  have hw:=may_w hm
  have hdb:=d_bounds hw.1 hw.2
  have hl126:l.length≤126:=by unfold dI at hll;omega
  have ho0:Own Mem.empty 5 1 nilS ([]:List AV).length []:=own_nil
  have t1:=desc_told Mem.empty nilS [] len 4 ho0 hlen0 (by omega) (by omega) (by simp)
  have o1:=growB_own (bytesA (numB len 4)) _ _ _ ho0
  rw [←List.length_append] at o1
  have t2:=desc_told _ _ _ dep 1 o1 (by omega) (by omega) (by omega) (by rw [List.length_append,bytesA_len,numB_len];simp)
  have o2:=growB_own (bytesA (numB dep 1)) _ _ _ o1
  rw [←List.length_append] at o2
  have t3:=desc_told _ _ _ (l.length:Nat) 2 o2 (by omega) (by omega) (by omega) (by rw [List.length_append,List.length_append,bytesA_len,numB_len,bytesA_len,numB_len];simp)
  have o3:=growB_own (bytesA (numB (l.length:Nat) 2)) _ _ _ o2
  rw [←List.length_append] at o3
  have t4:=desc_add _ _ _ v l hv o3 (fun x hx=>by have:=hlr x hx;have:=mayB_of.1 hm;omega) (by omega) (by rw [List.length_append,List.length_append,List.length_append,bytesA_len,numB_len,bytesA_len,numB_len,bytesA_len,numB_len];simp)
  have o4:=addG_own l _ _ _ o3
  have hcs:(([]:List AV)++bytesA (numB len 4)++bytesA (numB dep 1)++bytesA (numB (l.length:Nat) 2))++bytesA (refsB l)=bytesA (headB len dep l.length++refsB l):=by
   unfold headB
   simp only [bytesA_append,List.nil_append,List.append_assoc]
  have hcl:(([]:List AV)++bytesA (numB len 4)++bytesA (numB dep 1)++bytesA (numB (l.length:Nat) 2)).length+(refsB l).length=(headB len dep l.length++refsB l).length:=by
   unfold headB
   simp [bytesA_len,numB_len]
   omega
  rw [hcs,hcl] at o4
  have hfit:(headB len dep l.length++refsB l).length≤(wI k c).toNat:=by
   unfold headB
   simp only [List.length_append,numB_len,refsB_len]
   unfold dI at hll
   unfold wI
   omega
  have t5:=desc_wide k r c w hm _ _ _ o4 hfit
  obtain ⟨x,hv⟩:=hv
  have f1:=rd_fz hv
  have q1:=rd_one hv
  have hp:=hv.plain
  replace hlr:=Hid.mk hlr
  replace hfit:=Hid.mk hfit
  replace o4:=Hid.mk o4
  replace hcs:=Hid.mk hcs
  replace hcl:=Hid.mk hcl
  replace o1:=Hid.mk o1
  replace o2:=Hid.mk o2
  replace o3:=Hid.mk o3
  generalize growB 5 Mem.empty nilS [] (bytesA (numB len 4))=G1 at *
  generalize growB 5 G1.1 G1.2 ([]++bytesA (numB len 4)) (bytesA (numB dep 1))=G2 at *
  generalize growB 5 G2.1 G2.2 ([]++bytesA (numB len 4)++bytesA (numB dep 1)) (bytesA (numB (l.length:Nat) 2))=G3 at *
  generalize addG G3.1 G3.2 ([]++bytesA (numB len 4)++bytesA (numB dep 1)++bytesA (numB (l.length:Nat) 2)) l=G4 at *
  have n4:(((4:Nat):Nat):Int)=4:=rfl
  have n1:(((1:Nat):Nat):Int)=1:=rfl
  have n2:(((2:Nat):Nat):Int)=2:=rfl
  rw [n4] at t1
  rw [n1] at t2
  rw [n2] at t3
  simp only [intV,nilS] at t1 t2 t3 t4 t5
  refine ospec_of_body follows Tryz.func149 (by unfold Tryz.f149;rfl) (by unfold Tryz.f149;simp) onceBy (by unfold Tryz.f149;simp) (by kernel_rfl) ?_;unfold Tryz.f149
  simp only [↓pre,simprocAttr,parV,sx,tys149,onceBy,bne,postU,f1,q1,sr]
  (first | refine call_plain (h1) (by first | rfl | simp only [parV,plQ, *]) ?_ | refine call_pure (h1) (by first | rfl | simp only [parV,plQ, *]) (by intro k;first | rfl | simp only [sq,sr, *]) ?_);simp only [↓pre,simprocAttr,parV,sx,tys149,onceBy,bne,postU,f1,q1,sr]
  refine call_det t1 ?_
  simp only [↓pre,simprocAttr,parV,sx,tys149,onceBy,bne,postU,f1,q1,sr]
  refine call_det t2 ?_
  simp only [↓pre,simprocAttr,parV,sx,tys149,onceBy,bne,postU,f1,q1,hv.len',sr]
  refine call_det t3 ?_
  simp only [↓pre,simprocAttr,parV,sx,tys149,onceBy,bne,postU,f1,q1,sr]
  refine call_det t4 ?_
  refine contW_fixed (by kernel_rfl) ?_
  simp only [↓pre,simprocAttr,parV,sx,tys149,onceBy,bne,postU,f1,q1,sr]
  refine call_det t5 ?_
  refine contW_fixed (by kernel_rfl) ?_
  simp only [↓pre,simprocAttr,parV,sx,tys149,onceBy,bne,postU,f1,q1,sr]
  refine ⟨0, ?_⟩
  rw [fzT_tup,fzTs_cons,fzT_flat (by rw [push_at,if_pos rfl]),Option.bind_some,fzTs_cons,fzT_val,fzTs_nil,List.drop_zero]
  rfl
 ·rw [if_neg hc]
  obtain ⟨x,hv⟩:=hv
  have f1:=rd_fz hv
  have q1:=rd_one hv
  have hp:=hv.plain
  have hf:=fun m=>fzId_two (fzId_val (.slice none 0 0)) (fzId_val (.int .i64 (chkD k r c w len dep l))) 1 m
  replace hf:=Hid.mk hf
  refine ospec_of_body follows Tryz.func149 (by unfold Tryz.f149;rfl) (by unfold Tryz.f149;simp) onceA (by unfold Tryz.f149;simp) (by kernel_rfl) ?_;unfold Tryz.f149
  simp only [↓pre,simprocAttr,parV,sx,tys149,onceA,postU,f1,q1]
  (first | refine call_plain (h1) (by first | rfl | simp only [parV,plQ, *]) ?_ | refine call_pure (h1) (by first | rfl | simp only [parV,plQ, *]) (by intro k;first | rfl | simp only [sq,sr, *]) ?_);simp only [↓pre,simprocAttr,parV,sx,tys149,onceA,postU,hc,nilS]
  exact ⟨1,hf.out _⟩
theorem desc_number (v:AV) (n:Nat) (bs:List UInt8) (x:List AV) (hv:RdSl v n (bytesA bs++x)) (hn:n≤bs.length) (hn4:n≤4):FSpec Tryz.prog 147 [v] ⟨intV (beN (bs.take n):Nat),[]⟩:=by
 have hp:=hv.plain
 refine fspec_of_body follows Tryz.func147 (by unfold Tryz.f147;rfl) (by unfold Tryz.f147;simp) onceA (by unfold Tryz.f147;simp) (by kernel_rfl) ?_;unfold Tryz.f147
 simp only [↓pre,simprocAttr,parV,sx,tys147,onceA,postU,postV,postX,hv.len']
 rw [codeW_loop]
 refine loop_intro (fun q e m=>∃ i,q+i=n∧e 6=v∧e 7=intV (n:Nat)∧e 8=intV (i:Nat)∧e 3=intV (beN (bs.take i):Nat)) n ⟨0,by omega,rfl,rfl,rfl,by simp [Env.set,intV,beN]⟩ ?_
 rintro q e m ⟨i,hi,e6,e7,e8,e3⟩
 replace hi:=Hid.mk hi
 by_cases hlt:i < n
 ·have hlt':((i:Nat):Int) < ((n:Nat):Int):=by omega
  obtain ⟨a,ha⟩:∃ a,bs[i]? = some a:=⟨_,List.getElem?_eq_getElem (by omega)⟩
  have a1:=byte_at (x:=x) ha
  have a2:=be_take ha
  have hle:=be_le i bs
  have ha256:=a.toNat_lt
  have w1:=wrap_succ (n:=i) (by omega)
  have hpow:256 ^ i≤256 ^ 3:=Nat.pow_le_pow_right (by decide) (by omega)
  have h3:256 ^ 3=16777216:=by decide
  have w5:IntKind.i64.wrap (a.toNat:Int)=(a.toNat:Int):=wrap_nat (by omega)
  have w7:IntKind.i64.wrap (((beN (bs.take i):Nat):Int)*2 ^ min 8 IntKind.i64.bits)=((beN (bs.take i)*256:Nat):Int):=by
   rw [show (((beN (bs.take i):Nat):Int)*2 ^ min 8 IntKind.i64.bits)=((beN (bs.take i)*256:Nat):Int) by simp [IntKind.bits]]
   exact wrap_nat (by omega)
  have w8:borI .i64 ((beN (bs.take i)*256:Nat):Int) (a.toNat:Int)=((beN (bs.take i)*256+a.toNat:Nat):Int):=by
   rw [borI_i64 (by omega) (by omega),or_add (by omega)]
  replace hle:=Hid.mk hle
  replace hpow:=Hid.mk hpow
  replace ha256:=Hid.mk ha256
  replace a2:=Hid.mk a2
  simp only [↓pre,simprocAttr,parV,sx,tys147,onceA,postU,postV,postX,e6,e7,e8,e3,hlt',hv.addr',hlt,Nat.mul_one,a1,w1,w5,cond_t,cond_f]
  exact ⟨q - 1,by have:=hi.out;omega,i+1,by have:=hi.out;omega,rfl,by rw [w7,w8,a2.out]⟩
 ·have hlt':¬ ((i:Nat):Int) < ((n:Nat):Int):=by omega
  have hi4:i=n:=by have:=hi.out;omega
  subst hi4
  simp only [↓pre,simprocAttr,parV,sx,tys147,onceA,postU,e6,e7,e8,e3,hlt',cond_t,cond_f]
def refAt (bs:List UInt8) (i:Nat):RefI:=((beN ((bs.drop (6*i)).take 2):Nat),(beN ((bs.drop (6*i+2)).take 4):Nat))
def refsOf (bs:List UInt8) (n:Nat):List RefI:=(List.range n).map (refAt bs)
theorem refsOf_len (bs:List UInt8) (n:Nat):(refsOf bs n).length=n:=by simp [refsOf]
theorem refsOf_succ (bs:List UInt8) (n:Nat):refsOf bs (n+1)=refsOf bs n++[refAt bs n]:=by unfold refsOf;rw [List.range_succ,List.map_append];rfl
theorem desc_read (v:AV) (bs:List UInt8) (x:List AV) (n:Nat) (hv:RdSl v bs.length (bytesA bs++x)) (hn:6*n≤bs.length) (hb:bs.length≤100000):FSpec Tryz.prog 148 [v,intV (n:Nat)] ⟨treeR n (refsA (refsOf bs n)),[]⟩:=by
 refine fspec_fzT ?_
 have nt2:natOf (.val (.int .i64 2))=some 2:=rfl
 have nt6:natOf (.val (.int .i64 6))=some 6:=rfl
 refine ospec_of_body follows Tryz.func148 (by unfold Tryz.f148;rfl) (by unfold Tryz.f148;simp) onceA (by unfold Tryz.f148;simp) (by kernel_rfl) ?_;unfold Tryz.f148
 simp only [↓pre,simprocAttr,parV,sx,tys148,onceA,postU,postV,optNat,Option.map_none,Option.map_some,nt2,nt6,sr]
 rw [codeW_loop]
 refine loop_intro (fun q e m=>∃ i u,q+i=n∧e 0=u∧e 6=intV (n:Nat)∧e 7=intV (i:Nat)∧RdSl u (bs.drop (6*i)).length (bytesA (bs.drop (6*i))++x)∧Hid (Own m 90 2 (e 5) i (refsA (refsOf bs i)))) n ⟨0,v,by omega,rfl,rfl,rfl,by simpa using hv,⟨own_nil⟩⟩ ?_
 rintro q e m ⟨i,u,hq,e0,e6,e7,hu,hJ⟩
 replace hq:=Hid.mk hq
 generalize hv0:e 5=v0 at *
 by_cases hlt:i < n
 ·have hlt':((i:Nat):Int) < ((n:Nat):Int):=by omega
  have w1:=wrap_succ (n:=i) (by omega)
  have hdl:(bs.drop (6*i)).length=bs.length - 6*i:=List.length_drop
  obtain ⟨v1,s1,r1⟩:=hu.slice (P:=Tryz.prog) (t:=54) (sz:=1) (lo:=none) (hi:=some 2) (by kernel_rfl) (by simp) (by simp only [Option.getD_some];omega)
  obtain ⟨v2,s2,r2⟩:=hu.slice (P:=Tryz.prog) (t:=54) (sz:=1) (lo:=some 2) (hi:=some 6) (by kernel_rfl) (by simp) (by simp only [Option.getD_some];omega)
  obtain ⟨v3,s3,r3⟩:=hu.slice (P:=Tryz.prog) (t:=54) (sz:=1) (lo:=some 6) (hi:=none) (by kernel_rfl) (by simp only [Option.getD_some,Option.getD_none];omega) (by simp)
  simp only [Option.getD_some,Option.getD_none,Nat.mul_one,Nat.sub_zero,List.drop_zero] at r1 r2 r3
  rw [bytesA_drop _ x 2 (by omega),List.drop_drop] at r2
  rw [bytesA_drop _ x 6 (by omega),List.drop_drop,show (bs.drop (6*i)).length - 6=(bs.drop (6*i+6)).length by rw [List.length_drop,List.length_drop];omega] at r3
  have c1:=desc_number v1 2 (bs.drop (6*i)) x r1 (by omega) (by omega)
  have c2:=desc_number v2 4 (bs.drop (6*i+2)) x r2 (by rw [List.length_drop];omega) (by omega)
  have hpu:=hu.slOk (P:=Tryz.prog) (m:=m) (t:=54)
  have pl1:=r1.plain
  have pl2:=r2.plain
  have hso:=refsOf_succ bs i
  have href:refAt bs i=(((beN ((bs.drop (6*i)).take 2):Nat):Int),((beN ((bs.drop (6*i+2)).take 4):Nat):Int)):=rfl
  generalize beN ((bs.drop (6*i)).take 2)=b1 at *
  generalize beN ((bs.drop (6*i+2)).take 4)=b2 at *
  replace hso:=Hid.mk hso
  replace href:=Hid.mk href
  replace r1:=Hid.mk r1
  replace r2:=Hid.mk r2
  replace r3:=Hid.mk r3
  replace hdl:=Hid.mk hdl
  have hbt:∀ m,buildTreeE Tryz.prog m 83 1 [(0,.agg [.val (.int .i64 (b1:Nat)),.val (.int .i64 (b2:Nat))])]=some ⟨.tree 1 1 [.val (.int .i64 (b1:Nat)),.val (.int .i64 (b2:Nat))] true,m,none⟩:=fun m=>buildT1a rfl rfl (by kernel_rfl) (by kernel_rfl)
  simp only [↓pre,simprocAttr,parV,sx,tys148,onceA,postU,postV,optNat,Option.map_none,Option.map_some,nt2,nt6,hv0,e0,e6,e7,hlt',hu.slOk,hu.sliceX,s1,s2,sr]
  (first | refine call_plain (c1) (by first | rfl | simp only [parV,plQ, *]) ?_ | refine call_pure (c1) (by first | rfl | simp only [parV,plQ, *]) (by intro k;first | rfl | simp only [sq,sr, *]) ?_);simp only [↓pre,simprocAttr,parV,sx,tys148,onceA,postU,postV,optNat,Option.map_none,Option.map_some,nt2,nt6,hv0,e0,e6,e7,hu.slOk,hu.sliceX,s1,s2,hbt,sr];(first | refine call_plain (c2) (by first | rfl | simp only [parV,plQ, *]) ?_ | refine call_pure (c2) (by first | rfl | simp only [parV,plQ, *]) (by intro k;first | rfl | simp only [sq,sr, *]) ?_);simp only [↓pre,simprocAttr,parV,sx,tys148,onceA,postU,postV,optNat,Option.map_none,Option.map_some,nt2,nt6,hv0,e0,e6,e7,hu.slOk,hu.sliceX,s1,s2,hbt,sr]
  refine app_rule (sz:=2) (y:=16) (zl:=[.int .i64 0,.int .i64 0]) (by kernel_rfl) hJ.out (by kernel_rfl) (by kernel_rfl) (by kernel_rfl) rfl srcT1a rfl (by omega) (by omega) ?_
  intro lv' m' ho' hn'
  refine contW_fixed (by kernel_rfl) ?_
  simp only [↓pre,simprocAttr,parV,sx,tys148,onceA,postU,postV,optNat,Option.map_none,Option.map_some,nt2,nt6,hv0,e0,e6,e7,hu.slOk,hu.sliceX,s3,w1,sr]
  refine ⟨q - 1,by have:=hq.out;omega,i+1,v3,by have:=hq.out;omega,rfl,rfl,by rw [show 6*(i+1)=6*i+6 by omega];exact r3.out,⟨?_⟩⟩
  rw [hso.out,refsA_append,href.out]
  exact ho'
 ·have hlt':¬ ((i:Nat):Int) < ((n:Nat):Int):=by omega
  have hi:i=n:=by have:=hq.out;omega
  subst hi
  simp only [↓pre,simprocAttr,parV,sx,tys148,onceA,postU,postV,optNat,Option.map_none,Option.map_some,nt2,nt6,hv0,e0,e6,e7,hlt',sr]
  exact ⟨0,own_fzT hJ.out 0⟩
theorem desc_sized (k r c w:Int) (v:AV) (n:Nat) (cs:List AV) (hv:RdSl v n cs):FSpec Tryz.prog 146 [parV k r c w,v] ⟨intV (if mayB k r c w=true then (if (n:Int)=wI k c then 0 else 20) else 2),[]⟩:=by
 have h1:=layout_Width k r c w
 have hp:=hv.plain
 cases hm:mayB k r c w with
 | false =>
  simp only [hm,Bool.false_eq_true,if_false] at h1 ⊢
  refine fspec_of_body follows Tryz.func146 (by unfold Tryz.f146;rfl) (by unfold Tryz.f146;simp) onceA (by unfold Tryz.f146;simp) (by kernel_rfl) ?_;unfold Tryz.f146
  simp only [↓pre,simprocAttr,parV,sx,tys146,onceA,postU,pick_t,pick_f]
  (first | refine call_plain (h1) (by first | rfl | simp only [parV,plQ, *]) ?_ | refine call_pure (h1) (by first | rfl | simp only [parV,plQ, *]) (by intro k;first | rfl | simp only [sq,sr, *]) ?_);simp only [↓pre,simprocAttr,parV,sx,tys146,onceA,postU,sr]
 | true =>
  simp only [hm,if_true] at h1 ⊢
  by_cases hl:(n:Int)=wI k c
  ·rw [if_pos hl]
   refine fspec_of_body follows Tryz.func146 (by unfold Tryz.f146;rfl) (by unfold Tryz.f146;simp) onceA (by unfold Tryz.f146;simp) (by kernel_rfl) ?_;unfold Tryz.f146
   simp only [↓pre,simprocAttr,parV,sx,tys146,onceA,postU,pick_t,pick_f]
   (first | refine call_plain (h1) (by first | rfl | simp only [parV,plQ, *]) ?_ | refine call_pure (h1) (by first | rfl | simp only [parV,plQ, *]) (by intro k;first | rfl | simp only [sq,sr, *]) ?_);simp only [↓pre,simprocAttr,parV,sx,tys146,onceA,postU,hv.len',hl,sr]
  ·rw [if_neg hl]
   refine fspec_of_body follows Tryz.func146 (by unfold Tryz.f146;rfl) (by unfold Tryz.f146;simp) onceA (by unfold Tryz.f146;simp) (by kernel_rfl) ?_;unfold Tryz.f146
   simp only [↓pre,simprocAttr,parV,sx,tys146,onceA,postU,pick_t,pick_f]
   (first | refine call_plain (h1) (by first | rfl | simp only [parV,plQ, *]) ?_ | refine call_pure (h1) (by first | rfl | simp only [parV,plQ, *]) (by intro k;first | rfl | simp only [sq,sr, *]) ?_);simp only [↓pre,simprocAttr,parV,sx,tys146,onceA,postU,hv.len',hl,sr]
def eqB (a b:List UInt8):Bool:=decide ((⟨a.toArray⟩:ByteArray)=⟨b.toArray⟩)
theorem eqB_iff (a b:List UInt8):eqB a b=decide (a=b):=by
 unfold eqB
 by_cases h:a=b
 ·subst h;simp
 ·rw [decide_eq_false h,decide_eq_false]
  intro h2
  apply h
  have:=congrArg (fun x:ByteArray=>x.data.toList) h2
  simpa using this
theorem bytes_Equal (u v:AV) (a b:List UInt8) (x y:List AV) (hu:RdSl u a.length (bytesA a++x)) (hv:RdSl v b.length (bytesA b++y)):FSpec Tryz.prog 150 [u,v] ⟨boolV (decide (a=b)),[]⟩:=by
 rw [←eqB_iff]
 have s1:=fun (d c:Bool) (m:Mem)=>rd_strX (d:=d) (c:=c) (m:=m) hu
 have s2:=fun (d c:Bool) (m:Mem)=>rd_strX (d:=d) (c:=c) (m:=m) hv
 refine fspec_of_body follows Tryz.func150 (by unfold Tryz.f150;rfl) (by unfold Tryz.f150;simp) onceA (by unfold Tryz.f150;simp) (by kernel_rfl) ?_;unfold Tryz.f150
 simp only [↓pre,simprocAttr,parV,sx,tys150,onceA,postU,s1,s2,strB]
 rfl
end Go.Proofs.YtgcicholalgbiaaGreat