import Derived.Test.YtaekhhlgnbhnpaaGreatLfcG20
import Derived.Test.YtaekhhlgnbhnpaaGreatLfcG18
import Derived.Test.YtaekhhlgnbhnpaaGreatLfcG09
set_option linter.unusedVariables false
set_option linter.unusedSimpArgs false
set_option maxRecDepth 10000
namespace Go.Proofs.YtaekhhlgnbhnpaaGreat
open Go Go.Tw Go.Proofs Go.Gf
theorem desc_number (v : AV) (n : Nat) (bs : List UInt8) (x : List AV) (hv : RdSl v n (bytesA bs ++ x)) (hn : n ≤ bs.length) (hn4 : n ≤ 4) : FSpec Tryz.prog 167 [v] ⟨intV (beN (bs.take n) : Nat), []⟩ := by
 have hp := hv.plain
 refine fspec_of_body follows Tryz.func167 (by unfold Tryz.f167; rfl) (by unfold Tryz.f167; simp) onceA (by unfold Tryz.f167; simp) (by kernel_rfl) ?_; unfold Tryz.f167
 simp only [↓pre, simprocAttr, parV, sx, tys167, onceA, postU, postV, postX, hv.len']
 rw [codeW_loop]
 refine loop_intro (fun q e m => ∃ i, q + i = n ∧ e 6 = v ∧ e 7 = intV (n : Nat) ∧ e 8 = intV (i : Nat) ∧ e 3 = intV (beN (bs.take i) : Nat)) n ⟨0, by omega, rfl, rfl, rfl, by simp [Env.set, intV, beN]⟩ ?_
 rintro q e m ⟨i, hi, e6, e7, e8, e3⟩
 replace hi := Hid.mk hi
 by_cases hlt : i < n
 · have hlt' : ((i : Nat) : Int) < ((n : Nat) : Int) := by omega
   obtain ⟨a, ha⟩ : ∃ a, bs[i]? = some a := ⟨_, List.getElem?_eq_getElem (by omega)⟩
   have a1 := byte_at (x := x) ha
   have a2 := be_take ha
   have hle := be_le i bs
   have ha256 := a.toNat_lt
   have w1 := wrap_succ (n := i) (by omega)
   have hpow : 256 ^ i ≤ 256 ^ 3 := Nat.pow_le_pow_right (by decide) (by omega)
   have h3 : 256 ^ 3 = 16777216 := by decide
   have w5 : IntKind.i64.wrap (a.toNat : Int) = (a.toNat : Int) := wrap_nat (by omega)
   have w7 : IntKind.i64.wrap (((beN (bs.take i) : Nat) : Int) * 2 ^ min 8 IntKind.i64.bits) = ((beN (bs.take i) * 256 : Nat) : Int) := by
     rw [show (((beN (bs.take i) : Nat) : Int) * 2 ^ min 8 IntKind.i64.bits) = ((beN (bs.take i) * 256 : Nat) : Int) by simp [IntKind.bits]]
     exact wrap_nat (by omega)
   have w8 : borI .i64 ((beN (bs.take i) * 256 : Nat) : Int) (a.toNat : Int) = ((beN (bs.take i) * 256 + a.toNat : Nat) : Int) := by
     rw [borI_i64 (by omega) (by omega), or_add (by omega)]
   replace hle := Hid.mk hle
   replace hpow := Hid.mk hpow
   replace ha256 := Hid.mk ha256
   replace a2 := Hid.mk a2
   simp only [↓pre, simprocAttr, parV, sx, tys167, onceA, postU, postV, postX, e6, e7, e8, e3, hlt', hv.addr', hlt, Nat.mul_one, a1, w1, w5, cond_t, cond_f]
   exact ⟨q - 1, by have := hi.out; omega, i + 1, by have := hi.out; omega, rfl, by rw [w7, w8, a2.out]⟩
 · have hlt' : ¬ ((i : Nat) : Int) < ((n : Nat) : Int) := by omega
   have hi4 : i = n := by have := hi.out; omega
   subst hi4
   simp only [↓pre, simprocAttr, parV, sx, tys167, onceA, postU, e6, e7, e8, e3, hlt', cond_t, cond_f]
def refAt (bs : List UInt8) (i : Nat) : RefI := ((beN ((bs.drop (6 * i)).take 2) : Nat), (beN ((bs.drop (6 * i + 2)).take 4) : Nat))
def refsOf (bs : List UInt8) (n : Nat) : List RefI := (List.range n).map (refAt bs)
theorem refsOf_len (bs : List UInt8) (n : Nat) : (refsOf bs n).length = n := by simp [refsOf]
theorem refsOf_succ (bs : List UInt8) (n : Nat) : refsOf bs (n + 1) = refsOf bs n ++ [refAt bs n] := by unfold refsOf; rw [List.range_succ, List.map_append]; rfl
theorem desc_read (v : AV) (bs : List UInt8) (x : List AV) (n : Nat) (hv : RdSl v bs.length (bytesA bs ++ x)) (hn : 6 * n ≤ bs.length) (hb : bs.length ≤ 100000) : FSpec Tryz.prog 168 [v, intV (n : Nat)] ⟨treeR n (refsA (refsOf bs n)), []⟩ := by
 refine fspec_fzT ?_
 have nt2 : natOf (.val (.int .i64 2)) = some 2 := rfl
 have nt6 : natOf (.val (.int .i64 6)) = some 6 := rfl
 refine ospec_of_body follows Tryz.func168 (by unfold Tryz.f168; rfl) (by unfold Tryz.f168; simp) onceA (by unfold Tryz.f168; simp) (by kernel_rfl) ?_; unfold Tryz.f168
 simp only [↓pre, simprocAttr, parV, sx, tys168, onceA, postU, postV, optNat, Option.map_none, Option.map_some, nt2, nt6, sr]
 rw [codeW_loop]
 refine loop_intro (fun q e m => ∃ i u, q + i = n ∧ e 0 = u ∧ e 6 = intV (n : Nat) ∧ e 7 = intV (i : Nat) ∧ RdSl u (bs.drop (6 * i)).length (bytesA (bs.drop (6 * i)) ++ x) ∧ Hid (Own m 67 2 (e 5) i (refsA (refsOf bs i)))) n ⟨0, v, by omega, rfl, rfl, rfl, by simpa using hv, ⟨own_nil⟩⟩ ?_
 rintro q e m ⟨i, u, hq, e0, e6, e7, hu, hJ⟩
 replace hq := Hid.mk hq
 generalize hv0 : e 5 = v0 at *
 by_cases hlt : i < n
 · have hlt' : ((i : Nat) : Int) < ((n : Nat) : Int) := by omega
   have w1 := wrap_succ (n := i) (by omega)
   have hdl : (bs.drop (6 * i)).length = bs.length - 6 * i := List.length_drop
   obtain ⟨v1, s1, r1⟩ := hu.slice (P := Tryz.prog) (t := 52) (sz := 1) (lo := none) (hi := some 2) (by kernel_rfl) (by simp) (by simp only [Option.getD_some]; omega)
   obtain ⟨v2, s2, r2⟩ := hu.slice (P := Tryz.prog) (t := 52) (sz := 1) (lo := some 2) (hi := some 6) (by kernel_rfl) (by simp) (by simp only [Option.getD_some]; omega)
   obtain ⟨v3, s3, r3⟩ := hu.slice (P := Tryz.prog) (t := 52) (sz := 1) (lo := some 6) (hi := none) (by kernel_rfl) (by simp only [Option.getD_some, Option.getD_none]; omega) (by simp)
   simp only [Option.getD_some, Option.getD_none, Nat.mul_one, Nat.sub_zero, List.drop_zero] at r1 r2 r3
   rw [bytesA_drop _ x 2 (by omega), List.drop_drop] at r2
   rw [bytesA_drop _ x 6 (by omega), List.drop_drop, show (bs.drop (6 * i)).length - 6 = (bs.drop (6 * i + 6)).length by rw [List.length_drop, List.length_drop]; omega] at r3
   have c1 := desc_number v1 2 (bs.drop (6 * i)) x r1 (by omega) (by omega)
   have c2 := desc_number v2 4 (bs.drop (6 * i + 2)) x r2 (by rw [List.length_drop]; omega) (by omega)
   have hpu := hu.slOk (P := Tryz.prog) (m := m) (t := 52)
   have pl1 := r1.plain
   have pl2 := r2.plain
   have hso := refsOf_succ bs i
   have href : refAt bs i = (((beN ((bs.drop (6 * i)).take 2) : Nat) : Int), ((beN ((bs.drop (6 * i + 2)).take 4) : Nat) : Int)) := rfl
   generalize beN ((bs.drop (6 * i)).take 2) = b1 at *
   generalize beN ((bs.drop (6 * i + 2)).take 4) = b2 at *
   replace hso := Hid.mk hso
   replace href := Hid.mk href
   replace r1 := Hid.mk r1
   replace r2 := Hid.mk r2
   replace r3 := Hid.mk r3
   replace hdl := Hid.mk hdl
   have hbt : ∀ m, buildTreeE Tryz.prog m 31 1 [(0, .agg [.val (.int .i64 (b1 : Nat)), .val (.int .i64 (b2 : Nat))])] = some ⟨.tree 1 1 [.val (.int .i64 (b1 : Nat)), .val (.int .i64 (b2 : Nat))] true, m, none⟩ := fun m => buildT1a rfl rfl (by kernel_rfl) (by kernel_rfl)
   simp only [↓pre, simprocAttr, parV, sx, tys168, onceA, postU, postV, optNat, Option.map_none, Option.map_some, nt2, nt6, hv0, e0, e6, e7, hlt', hu.slOk, hu.sliceX, s1, s2, sr]
   (first | refine call_plain (c1) (by first | rfl | simp only [parV, plQ, *]) ?_ | refine call_pure (c1) (by first | rfl | simp only [parV, plQ, *]) (by intro k; first | rfl | simp only [sq, sr, *]) ?_); simp only [↓pre, simprocAttr, parV, sx, tys168, onceA, postU, postV, optNat, Option.map_none, Option.map_some, nt2, nt6, hv0, e0, e6, e7, hu.slOk, hu.sliceX, s1, s2, hbt, sr]; (first | refine call_plain (c2) (by first | rfl | simp only [parV, plQ, *]) ?_ | refine call_pure (c2) (by first | rfl | simp only [parV, plQ, *]) (by intro k; first | rfl | simp only [sq, sr, *]) ?_); simp only [↓pre, simprocAttr, parV, sx, tys168, onceA, postU, postV, optNat, Option.map_none, Option.map_some, nt2, nt6, hv0, e0, e6, e7, hu.slOk, hu.sliceX, s1, s2, hbt, sr]
   refine app_rule (sz := 2) (y := 16) (zl := [.int .i64 0, .int .i64 0]) (by kernel_rfl) hJ.out (by kernel_rfl) (by kernel_rfl) (by kernel_rfl) rfl srcT1a rfl (by omega) (by omega) ?_
   intro lv' m' ho' hn'
   refine contW_fixed (by kernel_rfl) ?_
   simp only [↓pre, simprocAttr, parV, sx, tys168, onceA, postU, postV, optNat, Option.map_none, Option.map_some, nt2, nt6, hv0, e0, e6, e7, hu.slOk, hu.sliceX, s3, w1, sr]
   refine ⟨q - 1, by have := hq.out; omega, i + 1, v3, by have := hq.out; omega, rfl, rfl, by rw [show 6 * (i + 1) = 6 * i + 6 by omega]; exact r3.out, ⟨?_⟩⟩
   rw [hso.out, refsA_append, href.out]
   exact ho'
 · have hlt' : ¬ ((i : Nat) : Int) < ((n : Nat) : Int) := by omega
   have hi : i = n := by have := hq.out; omega
   subst hi
   simp only [↓pre, simprocAttr, parV, sx, tys168, onceA, postU, postV, optNat, Option.map_none, Option.map_some, nt2, nt6, hv0, e0, e6, e7, hlt', sr]
   exact ⟨0, own_fzT hJ.out 0⟩
theorem desc_sized (k r c w : Int) (v : AV) (n : Nat) (cs : List AV) (hv : RdSl v n cs) : FSpec Tryz.prog 166 [parV k r c w, v] ⟨intV (if mayB k r c w = true then (if (n : Int) = wI k c then 0 else 20) else 2), []⟩ := by
 have h1 := layout_Width k r c w
 have hp := hv.plain
 cases hm : mayB k r c w with
 | false =>
   simp only [hm, Bool.false_eq_true, if_false] at h1 ⊢
   refine fspec_of_body follows Tryz.func166 (by unfold Tryz.f166; rfl) (by unfold Tryz.f166; simp) onceA (by unfold Tryz.f166; simp) (by kernel_rfl) ?_; unfold Tryz.f166
   simp only [↓pre, simprocAttr, parV, sx, tys166, onceA, postU, pick_t, pick_f]
   (first | refine call_plain (h1) (by first | rfl | simp only [parV, plQ, *]) ?_ | refine call_pure (h1) (by first | rfl | simp only [parV, plQ, *]) (by intro k; first | rfl | simp only [sq, sr, *]) ?_); simp only [↓pre, simprocAttr, parV, sx, tys166, onceA, postU, sr]
 | true =>
   simp only [hm, if_true] at h1 ⊢
   by_cases hl : (n : Int) = wI k c
   · rw [if_pos hl]
     refine fspec_of_body follows Tryz.func166 (by unfold Tryz.f166; rfl) (by unfold Tryz.f166; simp) onceA (by unfold Tryz.f166; simp) (by kernel_rfl) ?_; unfold Tryz.f166
     simp only [↓pre, simprocAttr, parV, sx, tys166, onceA, postU, pick_t, pick_f]
     (first | refine call_plain (h1) (by first | rfl | simp only [parV, plQ, *]) ?_ | refine call_pure (h1) (by first | rfl | simp only [parV, plQ, *]) (by intro k; first | rfl | simp only [sq, sr, *]) ?_); simp only [↓pre, simprocAttr, parV, sx, tys166, onceA, postU, hv.len', hl, sr]
   · rw [if_neg hl]
     refine fspec_of_body follows Tryz.func166 (by unfold Tryz.f166; rfl) (by unfold Tryz.f166; simp) onceA (by unfold Tryz.f166; simp) (by kernel_rfl) ?_; unfold Tryz.f166
     simp only [↓pre, simprocAttr, parV, sx, tys166, onceA, postU, pick_t, pick_f]
     (first | refine call_plain (h1) (by first | rfl | simp only [parV, plQ, *]) ?_ | refine call_pure (h1) (by first | rfl | simp only [parV, plQ, *]) (by intro k; first | rfl | simp only [sq, sr, *]) ?_); simp only [↓pre, simprocAttr, parV, sx, tys166, onceA, postU, hv.len', hl, sr]
def eqB (a b : List UInt8) : Bool := decide ((⟨a.toArray⟩ : ByteArray) = ⟨b.toArray⟩)
theorem eqB_iff (a b : List UInt8) : eqB a b = decide (a = b) := by
 unfold eqB
 by_cases h : a = b
 · subst h; simp
 · rw [decide_eq_false h, decide_eq_false]
   intro h2
   apply h
   have := congrArg (fun x : ByteArray => x.data.toList) h2
   simpa using this
theorem bytes_Equal (u v : AV) (a b : List UInt8) (x y : List AV) (hu : RdSl u a.length (bytesA a ++ x)) (hv : RdSl v b.length (bytesA b ++ y)) : FSpec Tryz.prog 169 [u, v] ⟨boolV (decide (a = b)), []⟩ := by
 rw [← eqB_iff]
 have s1 := fun (d c : Bool) (m : Mem) => rd_strX (d := d) (c := c) (m := m) hu
 have s2 := fun (d c : Bool) (m : Mem) => rd_strX (d := d) (c := c) (m := m) hv
 refine fspec_of_body follows Tryz.func169 (by unfold Tryz.f169; rfl) (by unfold Tryz.f169; simp) onceA (by unfold Tryz.f169; simp) (by kernel_rfl) ?_; unfold Tryz.f169
 simp only [↓pre, simprocAttr, parV, sx, tys169, onceA, postU, s1, s2, strB]
 rfl
def pN (bs : List UInt8) : Nat := beN ((bs.drop 5).take 2)
def pLen (bs : List UInt8) : Int := (beN (bs.take 4) : Nat)
def pDep (bs : List UInt8) : Int := (beN ((bs.drop 4).take 1) : Nat)
def pRefs (bs : List UInt8) : List RefI := refsOf (bs.drop 7) (pN bs)
def parseOk (k r c w : Int) (bs : List UInt8) : Bool := decide (7 + 6 * pN bs ≤ bs.length) && (decide (chkD k r c w (pLen bs) (pDep bs) (pRefs bs) = 0) && decide (madeB k c (pLen bs) (pDep bs) (pRefs bs) = bs))
def parseE (k r c w : Int) (bs : List UInt8) : Int := if mayB k r c w = true then (if (bs.length : Int) = wI k c then (if parseOk k r c w bs = true then 0 else 150) else 20) else 2
def descA (len dep : Int) (l : List RefI) : AV := .agg [intV len, intV dep, treeR l.length (refsA l)]
def desc0 : AV := .agg [intV 0, intV 0, nilS]
def parseD (k r c w : Int) (bs : List UInt8) : AV := if parseE k r c w bs = 0 then descA (pLen bs) (pDep bs) (pRefs bs) else desc0
theorem desc0_id (e : Int) (k : Nat) (m : Mem) : fzT k m (.tup [desc0, intV e]) = some (.tup [desc0, intV e]) := fzId_two (fzId_agg fun c hc => by
 simp only [List.mem_cons, List.not_mem_nil, or_false] at hc
 rcases hc with rfl | rfl | rfl <;> exact fzId_val _) (fzId_val _) k m
theorem descA_id (len dep : Int) (l : List RefI) : fzId (descA len dep l) := fzId_agg fun c hc => by
 simp only [List.mem_cons, List.not_mem_nil, or_false] at hc
 rcases hc with rfl | rfl | rfl
 · exact fzId_val _
 · exact fzId_val _
 · exact fzId_rd (treeR_rd _ _)
theorem treeR_cells {n : Nat} {cs : List AV} : (treeR n cs).cells = [treeR n cs] := by unfold treeR; split <;> rfl
theorem treeR_ok {n : Nat} {cs : List AV} : okA (treeR n cs) = true := by unfold treeR; split <;> rfl
theorem treeR_fz {n : Nat} {cs : List AV} {m : Mem} : fz m (treeR n cs) = some (treeR n cs, m) := rd_fz (treeR_rd _ _) m
theorem treeR_one {n : Nat} {cs : List AV} : oneA (treeR n cs) = true := rd_one (treeR_rd _ _)
def oncePa : Nat → Bool := fun d => d != 4 && d != 7
theorem desc_Parse (k r c w : Int) (v : AV) (bs : List UInt8) (x : List AV) (hv : RdSl v bs.length (bytesA bs ++ x)) : FSpec Tryz.prog 92 [parV k r c w, v] ⟨.tup [parseD k r c w bs, intV (parseE k r c w bs)], []⟩ := by
 refine fspec_fzT ?_
 have hp := hv.plain
 have h1 := desc_sized k r c w v bs.length _ hv
 have hfz : ∀ E, parseE k r c w bs = E → E ≠ 0 → ∀ m, fzT 0 m (.tup [.agg [.val (.int .i64 0), .val (.int .i64 0), .val (.slice none 0 0)], .val (.int .i64 E)]) = some (.tup [parseD k r c w bs, intV E]) := fun E hE h0 m => by
   unfold parseD
   rw [hE, if_neg h0]
   exact desc0_id E 0 m
 by_cases hg : mayB k r c w = true ∧ (bs.length : Int) = wI k c
 · obtain ⟨hm, hl⟩ := hg
   rw [if_pos hm, if_pos hl] at h1
   have hw := may_w hm
   have hbl : bs.length ≤ 768 ∧ 32 ≤ bs.length := by unfold wI at hl; omega
   have hE : parseE k r c w bs = if parseOk k r c w bs = true then 0 else 150 := by unfold parseE; rw [if_pos hm, if_pos hl]
   obtain ⟨v1, s1, r1⟩ := hv.slice (P := Tryz.prog) (t := 52) (sz := 1) (lo := none) (hi := some 4) (by kernel_rfl) (by simp) (by simp only [Option.getD_some]; omega)
   obtain ⟨v2, s2, r2⟩ := hv.slice (P := Tryz.prog) (t := 52) (sz := 1) (lo := some 4) (hi := some 5) (by kernel_rfl) (by simp) (by simp only [Option.getD_some]; omega)
   obtain ⟨v3, s3, r3⟩ := hv.slice (P := Tryz.prog) (t := 52) (sz := 1) (lo := some 5) (hi := some 7) (by kernel_rfl) (by simp) (by simp only [Option.getD_some]; omega)
   obtain ⟨v4, s4, r4⟩ := hv.slice (P := Tryz.prog) (t := 52) (sz := 1) (lo := some 7) (hi := none) (by kernel_rfl) (by simp only [Option.getD_some, Option.getD_none]; omega) (by simp)
   simp only [Option.getD_some, Option.getD_none, Nat.mul_one, Nat.sub_zero, List.drop_zero] at r1 r2 r3 r4
   rw [bytesA_drop _ x 4 (by omega)] at r2
   rw [bytesA_drop _ x 5 (by omega)] at r3
   rw [bytesA_drop _ x 7 (by omega), ← List.length_drop] at r4
   have c1 := desc_number v1 4 bs x r1 (by omega) (by omega)
   have c2 := desc_number v2 1 (bs.drop 4) x r2 (by rw [List.length_drop]; omega) (by omega)
   have c3 := desc_number v3 2 (bs.drop 5) x r3 (by rw [List.length_drop]; omega) (by omega)
   have pl1 := r1.plain
   have pl2 := r2.plain
   have pl3 := r3.plain
   have pl4 := r4.plain
   have hn2 : pN bs < 65536 := be_le 2 (bs.drop 5)
   rw [show beN ((bs.drop 5).take 2) = pN bs from rfl] at c3
   rw [show ((beN (bs.take 4) : Nat) : Int) = pLen bs from rfl] at c1
   rw [show ((beN ((bs.drop 4).take 1) : Nat) : Int) = pDep bs from rfl] at c2
   have n4 : natOf (.val (.int .i64 4)) = some 4 := rfl
   have n5 : natOf (.val (.int .i64 5)) = some 5 := rfl
   have n7 : natOf (.val (.int .i64 7)) = some 7 := rfl
   have w1 : IntKind.i64.wrap (6 * ((pN bs : Nat) : Int)) = ((6 * pN bs : Nat) : Int) := by rw [show 6 * ((pN bs : Nat) : Int) = ((6 * pN bs : Nat) : Int) by simp]; exact wrap_nat (by omega)
   have w2 : IntKind.i64.wrap (7 + ((6 * pN bs : Nat) : Int)) = ((7 + 6 * pN bs : Nat) : Int) := by rw [show 7 + ((6 * pN bs : Nat) : Int) = ((7 + 6 * pN bs : Nat) : Int) by simp]; exact wrap_nat (by omega)
   have hso := fun m => hv.slOk (P := Tryz.prog) (m := m) (t := 52)
   have hsx := fun d c m lo hi mx => hv.sliceX (P := Tryz.prog) (m := m) (t := 52) (d := d) (c := c) (lo := lo) (hi := hi) (mx := mx)
   by_cases hfit : 7 + 6 * pN bs ≤ bs.length
   · have hfit' : ¬ ((bs.length : Nat) : Int) < ((7 + 6 * pN bs : Nat) : Int) := by omega
     have c4 := desc_read v4 (bs.drop 7) x (pN bs) r4 (by rw [List.length_drop]; omega) (by rw [List.length_drop]; omega)
     rw [show refsOf (bs.drop 7) (pN bs) = pRefs bs from rfl] at c4
     have hpl : (pRefs bs).length = pN bs := refsOf_len _ _
     have c5 := desc_Bytes k r c w (pLen bs) (pDep bs) (treeR (pN bs) (refsA (pRefs bs))) (pRefs bs) ⟨[], by rw [List.append_nil, hpl]; exact treeR_rd _ _⟩ (by omega)
     have q1 := rd_one (treeR_rd (pN bs) (refsA (pRefs bs)))
     have pt := (treeR_rd (pN bs) (refsA (pRefs bs))).plain
     have hTRf : treeR (pN bs) (refsA (pRefs bs)) = .val (.slice none 0 0) ∨ treeR (pN bs) (refsA (pRefs bs)) = .tree (pN bs) (pN bs) (refsA (pRefs bs)) false := by unfold treeR; split; exact .inl rfl; exact .inr rfl
     unfold descBV at c5
     have hok : parseOk k r c w bs = (decide (chkD k r c w (pLen bs) (pDep bs) (pRefs bs) = 0) && decide (madeB k c (pLen bs) (pDep bs) (pRefs bs) = bs)) := by unfold parseOk; rw [decide_eq_true hfit]; rfl
     by_cases hck : chkD k r c w (pLen bs) (pDep bs) (pRefs bs) = 0
     · rw [if_pos hck] at c5
       rw [decide_eq_true hck, Bool.true_and] at hok
       have hml : (madeB k c (pLen bs) (pDep bs) (pRefs bs)).length = (wI k c).toNat := by
         unfold madeB
         refine padB_len ?_
         obtain ⟨_, _, _, hll, _⟩ := desc_bounds hck
         unfold headB
         simp only [List.length_append, numB_len, refsB_len]
         unfold dI at hll
         unfold wI
         omega
       have c6 := bytes_Equal (.tree (wI k c).toNat (wI k c).toNat (bytesA (madeB k c (pLen bs) (pDep bs) (pRefs bs))) true) v (madeB k c (pLen bs) (pDep bs) (pRefs bs)) bs [] x ⟨.inr (.inr ⟨_, true, by rw [hml, List.append_nil], by rw [hml]; exact Nat.le_refl _⟩)⟩ hv
       have hfin : parseOk k r c w bs = true → ∀ m, fzT 0 m (.tup [.agg [.val (.int .i64 (pLen bs)), .val (.int .i64 (pDep bs)), treeR (pN bs) (refsA (pRefs bs))], .val (.int .i64 0)]) = some (.tup [parseD k r c w bs, intV 0]) := fun h m => by
         have := fzId_two (descA_id (pLen bs) (pDep bs) (pRefs bs)) (fzId_val (.int .i64 0)) 0 m
         unfold parseD
         rw [hE, h, if_pos rfl, if_pos rfl]
         unfold descA at this ⊢
         rw [hpl] at this ⊢
         exact this
       by_cases heq : madeB k c (pLen bs) (pDep bs) (pRefs bs) = bs
       · rw [decide_eq_true heq] at hok c6
         rw [hok, if_pos rfl] at hE
         rw [hE]
         replace hfin := Hid.mk (hfin hok)
         replace hok := Hid.mk hok
         replace hE := Hid.mk hE
         replace hck := Hid.mk hck
         replace heq := Hid.mk heq
         replace hfz := Hid.mk hfz
         replace hfit := Hid.mk hfit
         replace hpl := Hid.mk hpl
         generalize madeB k c (pLen bs) (pDep bs) (pRefs bs) = MB at *
         rcases hTRf with hT | hT
         all_goals rw [hT] at c4 c5 hfin
         all_goals clear q1 pt
         all_goals replace hT := Hid.mk hT
         all_goals (
           refine ospec_of_body follows Tryz.func92 (by unfold Tryz.f92; rfl) (by unfold Tryz.f92; simp) oncePa (by unfold Tryz.f92; simp) (by kernel_rfl) ?_; unfold Tryz.f92
           simp only [↓pre, simprocAttr, parV, sx, tys92, oncePa, bne, postU, postFz, optNat, Option.map_none, Option.map_some, storeE, allocE, put_at, push_at, me0, Nat.one_ne_zero, Nat.zero_ne_one, ↓treeR_cells, ↓treeR_ok, ↓treeR_fz, ↓treeR_one, n4, n5, n7, hso, hsx, s1, s2, s3, s4, sr]
           (first | refine call_plain (h1) (by first | rfl | simp only [parV, plQ, *]) ?_ | refine call_pure (h1) (by first | rfl | simp only [parV, plQ, *]) (by intro k; first | rfl | simp only [sq, sr, *]) ?_); simp only [↓pre, simprocAttr, parV, sx, tys92, oncePa, bne, postU, postFz, optNat, Option.map_none, Option.map_some, storeE, allocE, put_at, push_at, me0, Nat.one_ne_zero, Nat.zero_ne_one, ↓treeR_cells, ↓treeR_ok, ↓treeR_fz, ↓treeR_one, n4, n5, n7, hso, hsx, s1, s2, s3, s4, sr]; (first | refine call_plain (c1) (by first | rfl | simp only [parV, plQ, *]) ?_ | refine call_pure (c1) (by first | rfl | simp only [parV, plQ, *]) (by intro k; first | rfl | simp only [sq, sr, *]) ?_); simp only [↓pre, simprocAttr, parV, sx, tys92, oncePa, bne, postU, postFz, optNat, Option.map_none, Option.map_some, storeE, allocE, put_at, push_at, me0, Nat.one_ne_zero, Nat.zero_ne_one, ↓treeR_cells, ↓treeR_ok, ↓treeR_fz, ↓treeR_one, n4, n5, n7, hso, hsx, s1, s2, s3, s4, sr]; (first | refine call_plain (c2) (by first | rfl | simp only [parV, plQ, *]) ?_ | refine call_pure (c2) (by first | rfl | simp only [parV, plQ, *]) (by intro k; first | rfl | simp only [sq, sr, *]) ?_); simp only [↓pre, simprocAttr, parV, sx, tys92, oncePa, bne, postU, postFz, optNat, Option.map_none, Option.map_some, storeE, allocE, put_at, push_at, me0, Nat.one_ne_zero, Nat.zero_ne_one, ↓treeR_cells, ↓treeR_ok, ↓treeR_fz, ↓treeR_one, n4, n5, n7, hso, hsx, s1, s2, s3, s4, sr]
           refine contW_fixed (by kernel_rfl) ?_
           simp only [↓pre, simprocAttr, parV, sx, tys92, oncePa, bne, postU, postFz, optNat, Option.map_none, Option.map_some, storeE, allocE, put_at, push_at, me0, Nat.one_ne_zero, Nat.zero_ne_one, ↓treeR_cells, ↓treeR_ok, ↓treeR_fz, ↓treeR_one, n4, n5, n7, hso, hsx, s1, s2, s3, s4, sr]
           refine contW_fixed (by kernel_rfl) ?_
           simp only [↓pre, simprocAttr, parV, sx, tys92, oncePa, bne, postU, postFz, optNat, Option.map_none, Option.map_some, storeE, allocE, put_at, push_at, me0, Nat.one_ne_zero, Nat.zero_ne_one, ↓treeR_cells, ↓treeR_ok, ↓treeR_fz, ↓treeR_one, n4, n5, n7, hso, hsx, s1, s2, s3, s4, sr]
           (first | refine call_plain (c3) (by first | rfl | simp only [parV, plQ, *]) ?_ | refine call_pure (c3) (by first | rfl | simp only [parV, plQ, *]) (by intro k; first | rfl | simp only [sq, sr, *]) ?_); simp only [↓pre, simprocAttr, parV, sx, tys92, oncePa, bne, postU, postFz, optNat, Option.map_none, Option.map_some, storeE, allocE, put_at, push_at, me0, Nat.one_ne_zero, Nat.zero_ne_one, ↓treeR_cells, ↓treeR_ok, ↓treeR_fz, ↓treeR_one, n4, n5, n7, hso, hsx, s1, s2, s3, s4, w1, w2, hv.len', hfit', sr]; (first | refine call_plain (c4) (by first | rfl | simp only [parV, plQ, *]) ?_ | refine call_pure (c4) (by first | rfl | simp only [parV, plQ, *]) (by intro k; first | rfl | simp only [sq, sr, *]) ?_); simp only [↓pre, simprocAttr, parV, sx, tys92, oncePa, bne, postU, postFz, optNat, Option.map_none, Option.map_some, storeE, allocE, put_at, push_at, me0, Nat.one_ne_zero, Nat.zero_ne_one, ↓treeR_cells, ↓treeR_ok, ↓treeR_fz, ↓treeR_one, n4, n5, n7, hso, hsx, s1, s2, s3, s4, w1, w2, hv.len', hfit', sr]; (first | refine call_plain (c5) (by first | rfl | simp only [parV, plQ, *]) ?_ | refine call_pure (c5) (by first | rfl | simp only [parV, plQ, *]) (by intro k; first | rfl | simp only [sq, sr, *]) ?_); simp only [↓pre, simprocAttr, parV, sx, tys92, oncePa, bne, postU, postFz, optNat, Option.map_none, Option.map_some, storeE, allocE, put_at, push_at, me0, Nat.one_ne_zero, Nat.zero_ne_one, ↓treeR_cells, ↓treeR_ok, ↓treeR_fz, ↓treeR_one, n4, n5, n7, hso, hsx, s1, s2, s3, s4, w1, w2, hv.len', hfit', sr]; (first | refine call_plain (c6) (by first | rfl | simp only [parV, plQ, *]) ?_ | refine call_pure (c6) (by first | rfl | simp only [parV, plQ, *]) (by intro k; first | rfl | simp only [sq, sr, *]) ?_); simp only [↓pre, simprocAttr, parV, sx, tys92, oncePa, bne, postU, postFz, optNat, Option.map_none, Option.map_some, storeE, allocE, put_at, push_at, me0, Nat.one_ne_zero, Nat.zero_ne_one, ↓treeR_cells, ↓treeR_ok, ↓treeR_fz, ↓treeR_one, n4, n5, n7, hso, hsx, s1, s2, s3, s4, w1, w2, hv.len', hfit', sr]
           exact ⟨0, hfin.out _⟩
           )
       · rw [decide_eq_false heq] at hok c6
         rw [hok, if_neg (by decide)] at hE
         have hz := hfz 150 hE (by decide)
         rw [hE]
         replace hz := Hid.mk hz
         replace hok := Hid.mk hok
         replace hE := Hid.mk hE
         replace hck := Hid.mk hck
         replace heq := Hid.mk heq
         replace hfz := Hid.mk hfz
         replace hfin := Hid.mk hfin
         replace hfit := Hid.mk hfit
         replace hpl := Hid.mk hpl
         generalize madeB k c (pLen bs) (pDep bs) (pRefs bs) = MB at *
         rcases hTRf with hT | hT
         all_goals rw [hT] at c4 c5
         all_goals clear q1 pt
         all_goals replace hT := Hid.mk hT
         all_goals (
           refine ospec_of_body follows Tryz.func92 (by unfold Tryz.f92; rfl) (by unfold Tryz.f92; simp) oncePa (by unfold Tryz.f92; simp) (by kernel_rfl) ?_; unfold Tryz.f92
           simp only [↓pre, simprocAttr, parV, sx, tys92, oncePa, bne, postU, postFz, optNat, Option.map_none, Option.map_some, storeE, allocE, put_at, push_at, me0, Nat.one_ne_zero, Nat.zero_ne_one, ↓treeR_cells, ↓treeR_ok, ↓treeR_fz, ↓treeR_one, n4, n5, n7, hso, hsx, s1, s2, s3, s4, sr]
           (first | refine call_plain (h1) (by first | rfl | simp only [parV, plQ, *]) ?_ | refine call_pure (h1) (by first | rfl | simp only [parV, plQ, *]) (by intro k; first | rfl | simp only [sq, sr, *]) ?_); simp only [↓pre, simprocAttr, parV, sx, tys92, oncePa, bne, postU, postFz, optNat, Option.map_none, Option.map_some, storeE, allocE, put_at, push_at, me0, Nat.one_ne_zero, Nat.zero_ne_one, ↓treeR_cells, ↓treeR_ok, ↓treeR_fz, ↓treeR_one, n4, n5, n7, hso, hsx, s1, s2, s3, s4, sr]; (first | refine call_plain (c1) (by first | rfl | simp only [parV, plQ, *]) ?_ | refine call_pure (c1) (by first | rfl | simp only [parV, plQ, *]) (by intro k; first | rfl | simp only [sq, sr, *]) ?_); simp only [↓pre, simprocAttr, parV, sx, tys92, oncePa, bne, postU, postFz, optNat, Option.map_none, Option.map_some, storeE, allocE, put_at, push_at, me0, Nat.one_ne_zero, Nat.zero_ne_one, ↓treeR_cells, ↓treeR_ok, ↓treeR_fz, ↓treeR_one, n4, n5, n7, hso, hsx, s1, s2, s3, s4, sr]; (first | refine call_plain (c2) (by first | rfl | simp only [parV, plQ, *]) ?_ | refine call_pure (c2) (by first | rfl | simp only [parV, plQ, *]) (by intro k; first | rfl | simp only [sq, sr, *]) ?_); simp only [↓pre, simprocAttr, parV, sx, tys92, oncePa, bne, postU, postFz, optNat, Option.map_none, Option.map_some, storeE, allocE, put_at, push_at, me0, Nat.one_ne_zero, Nat.zero_ne_one, ↓treeR_cells, ↓treeR_ok, ↓treeR_fz, ↓treeR_one, n4, n5, n7, hso, hsx, s1, s2, s3, s4, sr]
           refine contW_fixed (by kernel_rfl) ?_
           simp only [↓pre, simprocAttr, parV, sx, tys92, oncePa, bne, postU, postFz, optNat, Option.map_none, Option.map_some, storeE, allocE, put_at, push_at, me0, Nat.one_ne_zero, Nat.zero_ne_one, ↓treeR_cells, ↓treeR_ok, ↓treeR_fz, ↓treeR_one, n4, n5, n7, hso, hsx, s1, s2, s3, s4, sr]
           refine contW_fixed (by kernel_rfl) ?_
           simp only [↓pre, simprocAttr, parV, sx, tys92, oncePa, bne, postU, postFz, optNat, Option.map_none, Option.map_some, storeE, allocE, put_at, push_at, me0, Nat.one_ne_zero, Nat.zero_ne_one, ↓treeR_cells, ↓treeR_ok, ↓treeR_fz, ↓treeR_one, n4, n5, n7, hso, hsx, s1, s2, s3, s4, sr]
           (first | refine call_plain (c3) (by first | rfl | simp only [parV, plQ, *]) ?_ | refine call_pure (c3) (by first | rfl | simp only [parV, plQ, *]) (by intro k; first | rfl | simp only [sq, sr, *]) ?_); simp only [↓pre, simprocAttr, parV, sx, tys92, oncePa, bne, postU, postFz, optNat, Option.map_none, Option.map_some, storeE, allocE, put_at, push_at, me0, Nat.one_ne_zero, Nat.zero_ne_one, ↓treeR_cells, ↓treeR_ok, ↓treeR_fz, ↓treeR_one, n4, n5, n7, hso, hsx, s1, s2, s3, s4, w1, w2, hv.len', hfit', sr]; (first | refine call_plain (c4) (by first | rfl | simp only [parV, plQ, *]) ?_ | refine call_pure (c4) (by first | rfl | simp only [parV, plQ, *]) (by intro k; first | rfl | simp only [sq, sr, *]) ?_); simp only [↓pre, simprocAttr, parV, sx, tys92, oncePa, bne, postU, postFz, optNat, Option.map_none, Option.map_some, storeE, allocE, put_at, push_at, me0, Nat.one_ne_zero, Nat.zero_ne_one, ↓treeR_cells, ↓treeR_ok, ↓treeR_fz, ↓treeR_one, n4, n5, n7, hso, hsx, s1, s2, s3, s4, w1, w2, hv.len', hfit', sr]; (first | refine call_plain (c5) (by first | rfl | simp only [parV, plQ, *]) ?_ | refine call_pure (c5) (by first | rfl | simp only [parV, plQ, *]) (by intro k; first | rfl | simp only [sq, sr, *]) ?_); simp only [↓pre, simprocAttr, parV, sx, tys92, oncePa, bne, postU, postFz, optNat, Option.map_none, Option.map_some, storeE, allocE, put_at, push_at, me0, Nat.one_ne_zero, Nat.zero_ne_one, ↓treeR_cells, ↓treeR_ok, ↓treeR_fz, ↓treeR_one, n4, n5, n7, hso, hsx, s1, s2, s3, s4, w1, w2, hv.len', hfit', sr]; (first | refine call_plain (c6) (by first | rfl | simp only [parV, plQ, *]) ?_ | refine call_pure (c6) (by first | rfl | simp only [parV, plQ, *]) (by intro k; first | rfl | simp only [sq, sr, *]) ?_); simp only [↓pre, simprocAttr, parV, sx, tys92, oncePa, bne, postU, postFz, optNat, Option.map_none, Option.map_some, storeE, allocE, put_at, push_at, me0, Nat.one_ne_zero, Nat.zero_ne_one, ↓treeR_cells, ↓treeR_ok, ↓treeR_fz, ↓treeR_one, n4, n5, n7, hso, hsx, s1, s2, s3, s4, w1, w2, hv.len', hfit', sr]
           exact ⟨0, hz.out _⟩
           )
     · rw [if_neg hck] at c5
       rw [decide_eq_false hck, Bool.false_and] at hok
       rw [hok, if_neg (by decide)] at hE
       have hz := hfz 150 hE (by decide)
       rw [hE]
       replace hz := Hid.mk hz
       replace hok := Hid.mk hok
       replace hE := Hid.mk hE
       replace hfz := Hid.mk hfz
       replace hfit := Hid.mk hfit
       replace hpl := Hid.mk hpl
       generalize chkD k r c w (pLen bs) (pDep bs) (pRefs bs) = CK at *
       simp only [nilS] at c5
       rcases hTRf with hT | hT
       all_goals rw [hT] at c4 c5
       all_goals clear q1 pt
       all_goals replace hT := Hid.mk hT
       all_goals (
         refine ospec_of_body follows Tryz.func92 (by unfold Tryz.f92; rfl) (by unfold Tryz.f92; simp) oncePa (by unfold Tryz.f92; simp) (by kernel_rfl) ?_; unfold Tryz.f92
         simp only [↓pre, simprocAttr, parV, sx, tys92, oncePa, bne, postU, postFz, optNat, Option.map_none, Option.map_some, storeE, allocE, put_at, push_at, me0, Nat.one_ne_zero, Nat.zero_ne_one, ↓treeR_cells, ↓treeR_ok, ↓treeR_fz, ↓treeR_one, n4, n5, n7, hso, hsx, s1, s2, s3, s4, sr]
         (first | refine call_plain (h1) (by first | rfl | simp only [parV, plQ, *]) ?_ | refine call_pure (h1) (by first | rfl | simp only [parV, plQ, *]) (by intro k; first | rfl | simp only [sq, sr, *]) ?_); simp only [↓pre, simprocAttr, parV, sx, tys92, oncePa, bne, postU, postFz, optNat, Option.map_none, Option.map_some, storeE, allocE, put_at, push_at, me0, Nat.one_ne_zero, Nat.zero_ne_one, ↓treeR_cells, ↓treeR_ok, ↓treeR_fz, ↓treeR_one, n4, n5, n7, hso, hsx, s1, s2, s3, s4, sr]; (first | refine call_plain (c1) (by first | rfl | simp only [parV, plQ, *]) ?_ | refine call_pure (c1) (by first | rfl | simp only [parV, plQ, *]) (by intro k; first | rfl | simp only [sq, sr, *]) ?_); simp only [↓pre, simprocAttr, parV, sx, tys92, oncePa, bne, postU, postFz, optNat, Option.map_none, Option.map_some, storeE, allocE, put_at, push_at, me0, Nat.one_ne_zero, Nat.zero_ne_one, ↓treeR_cells, ↓treeR_ok, ↓treeR_fz, ↓treeR_one, n4, n5, n7, hso, hsx, s1, s2, s3, s4, sr]; (first | refine call_plain (c2) (by first | rfl | simp only [parV, plQ, *]) ?_ | refine call_pure (c2) (by first | rfl | simp only [parV, plQ, *]) (by intro k; first | rfl | simp only [sq, sr, *]) ?_); simp only [↓pre, simprocAttr, parV, sx, tys92, oncePa, bne, postU, postFz, optNat, Option.map_none, Option.map_some, storeE, allocE, put_at, push_at, me0, Nat.one_ne_zero, Nat.zero_ne_one, ↓treeR_cells, ↓treeR_ok, ↓treeR_fz, ↓treeR_one, n4, n5, n7, hso, hsx, s1, s2, s3, s4, sr]
         refine contW_fixed (by kernel_rfl) ?_
         simp only [↓pre, simprocAttr, parV, sx, tys92, oncePa, bne, postU, postFz, optNat, Option.map_none, Option.map_some, storeE, allocE, put_at, push_at, me0, Nat.one_ne_zero, Nat.zero_ne_one, ↓treeR_cells, ↓treeR_ok, ↓treeR_fz, ↓treeR_one, n4, n5, n7, hso, hsx, s1, s2, s3, s4, sr]
         refine contW_fixed (by kernel_rfl) ?_
         simp only [↓pre, simprocAttr, parV, sx, tys92, oncePa, bne, postU, postFz, optNat, Option.map_none, Option.map_some, storeE, allocE, put_at, push_at, me0, Nat.one_ne_zero, Nat.zero_ne_one, ↓treeR_cells, ↓treeR_ok, ↓treeR_fz, ↓treeR_one, n4, n5, n7, hso, hsx, s1, s2, s3, s4, sr]
         (first | refine call_plain (c3) (by first | rfl | simp only [parV, plQ, *]) ?_ | refine call_pure (c3) (by first | rfl | simp only [parV, plQ, *]) (by intro k; first | rfl | simp only [sq, sr, *]) ?_); simp only [↓pre, simprocAttr, parV, sx, tys92, oncePa, bne, postU, postFz, optNat, Option.map_none, Option.map_some, storeE, allocE, put_at, push_at, me0, Nat.one_ne_zero, Nat.zero_ne_one, ↓treeR_cells, ↓treeR_ok, ↓treeR_fz, ↓treeR_one, n4, n5, n7, hso, hsx, s1, s2, s3, s4, w1, w2, hv.len', hfit', hck, sr]; (first | refine call_plain (c4) (by first | rfl | simp only [parV, plQ, *]) ?_ | refine call_pure (c4) (by first | rfl | simp only [parV, plQ, *]) (by intro k; first | rfl | simp only [sq, sr, *]) ?_); simp only [↓pre, simprocAttr, parV, sx, tys92, oncePa, bne, postU, postFz, optNat, Option.map_none, Option.map_some, storeE, allocE, put_at, push_at, me0, Nat.one_ne_zero, Nat.zero_ne_one, ↓treeR_cells, ↓treeR_ok, ↓treeR_fz, ↓treeR_one, n4, n5, n7, hso, hsx, s1, s2, s3, s4, w1, w2, hv.len', hfit', hck, sr]; (first | refine call_plain (c5) (by first | rfl | simp only [parV, plQ, *]) ?_ | refine call_pure (c5) (by first | rfl | simp only [parV, plQ, *]) (by intro k; first | rfl | simp only [sq, sr, *]) ?_); simp only [↓pre, simprocAttr, parV, sx, tys92, oncePa, bne, postU, postFz, optNat, Option.map_none, Option.map_some, storeE, allocE, put_at, push_at, me0, Nat.one_ne_zero, Nat.zero_ne_one, ↓treeR_cells, ↓treeR_ok, ↓treeR_fz, ↓treeR_one, n4, n5, n7, hso, hsx, s1, s2, s3, s4, w1, w2, hv.len', hfit', hck, sr]
         exact ⟨0, hz.out _⟩
         )
   · have hfit' : ((bs.length : Nat) : Int) < ((7 + 6 * pN bs : Nat) : Int) := by omega
     have hok : parseOk k r c w bs = false := by unfold parseOk; rw [decide_eq_false hfit]; rfl
     rw [hok, if_neg (by decide)] at hE
     have hz := hfz 150 hE (by decide)
     rw [hE]
     replace hz := Hid.mk hz
     replace hok := Hid.mk hok
     replace hE := Hid.mk hE
     replace hfz := Hid.mk hfz
     replace hfit := Hid.mk hfit
     refine ospec_of_body follows Tryz.func92 (by unfold Tryz.f92; rfl) (by unfold Tryz.f92; simp) oncePa (by unfold Tryz.f92; simp) (by kernel_rfl) ?_; unfold Tryz.f92
     simp only [↓pre, simprocAttr, parV, sx, tys92, oncePa, bne, postU, postFz, optNat, Option.map_none, Option.map_some, storeE, allocE, put_at, push_at, me0, Nat.one_ne_zero, Nat.zero_ne_one, ↓treeR_cells, ↓treeR_ok, ↓treeR_fz, ↓treeR_one, n4, n5, n7, hso, hsx, s1, s2, s3, s4, sr]
     (first | refine call_plain (h1) (by first | rfl | simp only [parV, plQ, *]) ?_ | refine call_pure (h1) (by first | rfl | simp only [parV, plQ, *]) (by intro k; first | rfl | simp only [sq, sr, *]) ?_); simp only [↓pre, simprocAttr, parV, sx, tys92, oncePa, bne, postU, postFz, optNat, Option.map_none, Option.map_some, storeE, allocE, put_at, push_at, me0, Nat.one_ne_zero, Nat.zero_ne_one, ↓treeR_cells, ↓treeR_ok, ↓treeR_fz, ↓treeR_one, n4, n5, n7, hso, hsx, s1, s2, s3, s4, sr]; (first | refine call_plain (c1) (by first | rfl | simp only [parV, plQ, *]) ?_ | refine call_pure (c1) (by first | rfl | simp only [parV, plQ, *]) (by intro k; first | rfl | simp only [sq, sr, *]) ?_); simp only [↓pre, simprocAttr, parV, sx, tys92, oncePa, bne, postU, postFz, optNat, Option.map_none, Option.map_some, storeE, allocE, put_at, push_at, me0, Nat.one_ne_zero, Nat.zero_ne_one, ↓treeR_cells, ↓treeR_ok, ↓treeR_fz, ↓treeR_one, n4, n5, n7, hso, hsx, s1, s2, s3, s4, sr]; (first | refine call_plain (c2) (by first | rfl | simp only [parV, plQ, *]) ?_ | refine call_pure (c2) (by first | rfl | simp only [parV, plQ, *]) (by intro k; first | rfl | simp only [sq, sr, *]) ?_); simp only [↓pre, simprocAttr, parV, sx, tys92, oncePa, bne, postU, postFz, optNat, Option.map_none, Option.map_some, storeE, allocE, put_at, push_at, me0, Nat.one_ne_zero, Nat.zero_ne_one, ↓treeR_cells, ↓treeR_ok, ↓treeR_fz, ↓treeR_one, n4, n5, n7, hso, hsx, s1, s2, s3, s4, sr]
     refine contW_fixed (by kernel_rfl) ?_
     simp only [↓pre, simprocAttr, parV, sx, tys92, oncePa, bne, postU, postFz, optNat, Option.map_none, Option.map_some, storeE, allocE, put_at, push_at, me0, Nat.one_ne_zero, Nat.zero_ne_one, ↓treeR_cells, ↓treeR_ok, ↓treeR_fz, ↓treeR_one, n4, n5, n7, hso, hsx, s1, s2, s3, s4, sr]
     refine contW_fixed (by kernel_rfl) ?_
     simp only [↓pre, simprocAttr, parV, sx, tys92, oncePa, bne, postU, postFz, optNat, Option.map_none, Option.map_some, storeE, allocE, put_at, push_at, me0, Nat.one_ne_zero, Nat.zero_ne_one, ↓treeR_cells, ↓treeR_ok, ↓treeR_fz, ↓treeR_one, n4, n5, n7, hso, hsx, s1, s2, s3, s4, sr]
     (first | refine call_plain (c3) (by first | rfl | simp only [parV, plQ, *]) ?_ | refine call_pure (c3) (by first | rfl | simp only [parV, plQ, *]) (by intro k; first | rfl | simp only [sq, sr, *]) ?_); simp only [↓pre, simprocAttr, parV, sx, tys92, oncePa, bne, postU, postFz, optNat, Option.map_none, Option.map_some, storeE, allocE, put_at, push_at, me0, Nat.one_ne_zero, Nat.zero_ne_one, ↓treeR_cells, ↓treeR_ok, ↓treeR_fz, ↓treeR_one, n4, n5, n7, hso, hsx, s1, s2, s3, s4, w1, w2, hv.len', hfit', sr]
     exact ⟨0, hz.out _⟩
 · have hE : parseE k r c w bs = (if mayB k r c w = true then (if (bs.length : Int) = wI k c then 0 else 20) else 2) := by
     unfold parseE
     by_cases hm : mayB k r c w = true
     · rw [if_pos hm, if_pos hm, if_neg (fun h => hg ⟨hm, h⟩), if_neg (fun h => hg ⟨hm, h⟩)]
     · rw [if_neg hm, if_neg hm]
   have hne : parseE k r c w bs ≠ 0 := by
     rw [hE]
     by_cases hm : mayB k r c w = true
     · rw [if_pos hm, if_neg (fun h => hg ⟨hm, h⟩)]; decide
     · rw [if_neg hm]; decide
   rw [← hE] at h1
   have hz := hfz _ rfl hne
   replace hz := Hid.mk hz
   replace hE := Hid.mk hE
   replace hfz := Hid.mk hfz
   refine ospec_of_body follows Tryz.func92 (by unfold Tryz.f92; rfl) (by unfold Tryz.f92; simp) oncePa (by unfold Tryz.f92; simp) (by kernel_rfl) ?_; unfold Tryz.f92
   simp only [↓pre, simprocAttr, parV, sx, tys92, oncePa, bne, postU, postFz, optNat, Option.map_none, Option.map_some, storeE, allocE, put_at, push_at, me0, Nat.one_ne_zero, Nat.zero_ne_one, ↓treeR_cells, ↓treeR_ok, ↓treeR_fz, ↓treeR_one, sr]
   (first | refine call_plain (h1) (by first | rfl | simp only [parV, plQ, *]) ?_ | refine call_pure (h1) (by first | rfl | simp only [parV, plQ, *]) (by intro k; first | rfl | simp only [sq, sr, *]) ?_); simp only [↓pre, simprocAttr, parV, sx, tys92, oncePa, bne, postU, postFz, optNat, Option.map_none, Option.map_some, storeE, allocE, put_at, push_at, me0, Nat.one_ne_zero, Nat.zero_ne_one, ↓treeR_cells, ↓treeR_ok, ↓treeR_fz, ↓treeR_one, hne, sr]
   exact ⟨0, hz.out _⟩
theorem rd_cells {v : AV} {n : Nat} {cs : List AV} (h : RdSl v n cs) : v.cells = [v] := by
 rcases h.form with ⟨rfl, _⟩ | ⟨_, _, rfl, _⟩ | ⟨_, _, rfl, _⟩ <;> rfl
theorem rd_okA {v : AV} {n : Nat} {cs : List AV} (h : RdSl v n cs) : okA v = true := by
 rcases h.form with ⟨rfl, _⟩ | ⟨_, _, rfl, _⟩ | ⟨_, _, rfl, _⟩ <;> rfl
abbrev rowA (k r c w : Int) (v : AV) : AV := .agg [.val (.int .i64 k), .val (.int .i64 r), .val (.int .i64 c), .val (.int .i64 w), v]
theorem commit_version (k r c w : Int) (v : AV) (n : Nat) (cs : List AV) (hv : RdSl v n cs) (g : FuncId) (a : Int) (is : Bool) (e : Int) (hg : FSpec Tryz.prog g [rowA k r c w v] ⟨.tup [intV a, boolV is, intV e], []⟩) : FSpec Tryz.prog 87 [rowA k r c w v, .clo g []] ⟨.tup [intV (if e = 0 then (if is = true then a else 0) else 0), intV e], []⟩ := by
 have f1 := rd_fz hv
 have q1 := rd_one hv
 have hp := hv.plain
 by_cases he : e = 0
 · subst he
   rw [if_pos rfl]
   cases is with
   | true =>
     rw [if_pos rfl]
     refine fspec_of_body follows Tryz.func87 (by unfold Tryz.f87; rfl) (by unfold Tryz.f87; simp) onceA (by unfold Tryz.f87; simp) (by kernel_rfl) ?_; unfold Tryz.f87
     simp only [↓pre, simprocAttr, parV, sx, tys87, onceA, postU, f1, q1, sr]
     (first | refine call_plain (hg) (by first | rfl | simp only [parV, plQ, *]) ?_ | refine call_pure (hg) (by first | rfl | simp only [parV, plQ, *]) (by intro k; first | rfl | simp only [sq, sr, *]) ?_); simp only [↓pre, simprocAttr, parV, sx, tys87, onceA, postU, f1, q1, sr]
   | false =>
     rw [if_neg (by decide)]
     refine fspec_of_body follows Tryz.func87 (by unfold Tryz.f87; rfl) (by unfold Tryz.f87; simp) onceA (by unfold Tryz.f87; simp) (by kernel_rfl) ?_; unfold Tryz.f87
     simp only [↓pre, simprocAttr, parV, sx, tys87, onceA, postU, f1, q1, sr]
     (first | refine call_plain (hg) (by first | rfl | simp only [parV, plQ, *]) ?_ | refine call_pure (hg) (by first | rfl | simp only [parV, plQ, *]) (by intro k; first | rfl | simp only [sq, sr, *]) ?_); simp only [↓pre, simprocAttr, parV, sx, tys87, onceA, postU, f1, q1, sr]
 · rw [if_neg he]
   refine fspec_of_body follows Tryz.func87 (by unfold Tryz.f87; rfl) (by unfold Tryz.f87; simp) onceA (by unfold Tryz.f87; simp) (by kernel_rfl) ?_; unfold Tryz.f87
   simp only [↓pre, simprocAttr, parV, sx, tys87, onceA, postU, f1, q1, sr]
   (first | refine call_plain (hg) (by first | rfl | simp only [parV, plQ, *]) ?_ | refine call_pure (hg) (by first | rfl | simp only [parV, plQ, *]) (by intro k; first | rfl | simp only [sq, sr, *]) ?_); simp only [↓pre, simprocAttr, parV, sx, tys87, onceA, postU, f1, q1, he, sr]
theorem commit_winner (k r c w : Int) (v : AV) (ps : List PairB) (cells : List AV) (hv : RowV v ps cells) : FSpec Tryz.prog 88 [rowA k r c w v] ⟨winV k r c w ps, []⟩ := by
 have h := census_Winner k r c w v ps cells hv
 have f1 := rd_fz hv.rd
 have q1 := rd_one hv.rd
 have hp := hv.rd.plain
 unfold winV at h ⊢
 generalize (cntP k r c w ps).getD 0 0 = a at *
 generalize decide (1 ≤ (cntP k r c w ps).length) = b at *
 generalize chkI k r c w ps = e at *
 refine fspec_of_body follows Tryz.func88 (by unfold Tryz.f88; rfl) (by unfold Tryz.f88; simp) onceA (by unfold Tryz.f88; simp) (by kernel_rfl) ?_; unfold Tryz.f88
 simp only [↓pre, simprocAttr, parV, sx, tys88, onceA, f1, q1]
 (first | refine call_plain (h) (by first | rfl | simp only [parV, plQ, *]) ?_ | refine call_pure (h) (by first | rfl | simp only [parV, plQ, *]) (by intro k; first | rfl | simp only [sq, sr, *]) ?_); simp only [↓pre, simprocAttr, parV, sx, tys88, onceA, f1, q1, boolV]
def winI (k r c w : Int) (ps : List PairB) : Int := (cntP k r c w ps).getD 0 0
theorem version_win (k r c w : Int) (v : AV) (ps : List PairB) (cells : List AV) (hv : RowV v ps cells) : FSpec Tryz.prog 87 [rowA k r c w v, .clo 88 []] ⟨.tup [intV (if chkI k r c w ps = 0 then winI k r c w ps else 0), intV (chkI k r c w ps)], []⟩ := by
 have h := commit_version k r c w v _ _ hv.rd _ _ _ _ (commit_winner k r c w v ps cells hv)
 have e : (if decide (1 ≤ (cntP k r c w ps).length) = true then (cntP k r c w ps).getD 0 0 else 0) = winI k r c w ps := by
   unfold winI
   split
   · rfl
   · rename_i h1
     have : (cntP k r c w ps).length = 0 := by simp at h1; simp [h1]
     rw [List.eq_nil_of_length_eq_zero this]
     rfl
 rw [e] at h
 exact h
def comD (k r c w : Int) (ps : List PairB) : List UInt8 := dataL k r c w ps 2 (winI k r c w ps) k.toNat
def comE (k r c w : Int) (ps : List PairB) : Int := if chkI k r c w ps = 0 then (if winI k r c w ps = 0 then 5 else if manyN k r c w ps 2 (winI k r c w ps) < k.toNat then 5 else parseE k r c w (comD k r c w ps)) else chkI k r c w ps
def comV (k r c w : Int) (ps : List PairB) : AV := if comE k r c w ps = 0 then .tup [descA (pLen (comD k r c w ps)) (pDep (comD k r c w ps)) (pRefs (comD k r c w ps)), intV (winI k r c w ps), intV 0] else .tup [desc0, intV 0, intV (comE k r c w ps)]
theorem chk_parts {k r c w : Int} {ps : List PairB} (h : chkI k r c w ps = 0) : mayB k r c w = true ∧ rowB k r c ps = true := by
 unfold chkI at h
 split at h
 · rename_i h1
   split at h
   · rename_i h2; exact ⟨h1, h2⟩
   · omega
 · omega
theorem win_ver {k r c w : Int} {ps : List PairB} (hc : chkI k r c w ps = 0) (h : winI k r c w ps ≠ 0) : verB (winI k r c w ps) = true := by
 have hl : 1 ≤ (cntP k r c w ps).length := by
   rcases Nat.eq_zero_or_pos (cntP k r c w ps).length with h0 | h0
   · exfalso
     apply h
     unfold winI
     rw [List.eq_nil_of_length_eq_zero h0]
     rfl
   · exact h0
 have hm := win_mem hl
 have hm2 : winI k r c w ps ∈ (talT k r c w ps).filter (cntB k (heldsP k r c w ps)) := hm
 have := (tal_pw k r c w ps).2 _ (List.mem_filter.1 hm2).1
 unfold verB
 exact decide_eq_true this
theorem bytes_rd (bs : List UInt8) (n : Nat) (h : bs.length = n) : RdSl (treeR n (bytesA bs)) bs.length (bytesA bs ++ []) := by rw [h, List.append_nil]; exact treeR_rd _ _
theorem comD_len {k r c w : Int} {ps : List PairB} (hm : mayB k r c w = true) : (comD k r c w ps).length = k.toNat * c.toNat := dataL_len _ _ _ _ _ _ _ _
def onceCR : Nat → Bool := fun d => d != 4
theorem commit_Read (k r c w : Int) (v : AV) (ps : List PairB) (cells : List AV) (hv : RowV v ps cells) : FSpec Tryz.prog 17 [parV k r c w, v] ⟨comV k r c w ps, []⟩ := by
 refine fspec_fzT ?_
 have h1 := version_win k r c w v ps cells hv
 have hvc := rd_cells hv.rd
 have hvo := rd_okA hv.rd
 have f1 := rd_fz hv.rd
 have q1 := rd_one hv.rd
 have hp := hv.rd.plain
 have hz : comE k r c w ps ≠ 0 → ∀ m, fzT 0 m (.tup [.agg [.val (.int .i64 0), .val (.int .i64 0), .val (.slice none 0 0)], .val (.int .i64 0), .val (.int .i64 (comE k r c w ps))]) = some (comV k r c w ps) := fun h m => by
   unfold comV
   rw [if_neg h]
   exact fzId_tup (fun x hx => by
     simp only [List.mem_cons, List.not_mem_nil, or_false] at hx
     rcases hx with rfl | rfl | rfl
     · exact fzId_agg fun c hc => by
         simp only [List.mem_cons, List.not_mem_nil, or_false] at hc
         rcases hc with rfl | rfl | rfl <;> exact fzId_val _
     · exact fzId_val _
     · exact fzId_val _) 0 m
 by_cases hc : chkI k r c w ps = 0
 · obtain ⟨hm, hr⟩ := chk_parts hc
   have hE : comE k r c w ps = if winI k r c w ps = 0 then 5 else if manyN k r c w ps 2 (winI k r c w ps) < k.toNat then 5 else parseE k r c w (comD k r c w ps) := by unfold comE; rw [if_pos hc]
   rw [if_pos hc, hc] at h1
   have hver := win_ver hc
   have hrd := fun h => stripe_Read k r c w 2 (winI k r c w ps) v ps cells hv hm hr (.inr rfl) (hver h)
   have hcv : comE k r c w ps = 0 → comV k r c w ps = .tup [descA (pLen (comD k r c w ps)) (pDep (comD k r c w ps)) (pRefs (comD k r c w ps)), intV (winI k r c w ps), intV 0] := fun h => by unfold comV; rw [if_pos h]
   have hdl := comD_len (ps := ps) hm
   have hcD : comD k r c w ps = dataL k r c w ps 2 (winI k r c w ps) k.toNat := rfl
   unfold sreadV at hrd
   rw [← hcD] at hrd
   clear hcD
   generalize winI k r c w ps = W at *
   generalize comD k r c w ps = D at *
   by_cases hW : W = 0
   · subst hW
     rw [if_pos rfl] at hE
     have hz := hz (by rw [hE]; decide)
     rw [hE] at hz
     replace hz := Hid.mk hz
     replace hE := Hid.mk hE
     clear hrd hver hcv
     refine ospec_of_body follows Tryz.func17 (by unfold Tryz.f17; rfl) (by unfold Tryz.f17; simp) onceCR (by unfold Tryz.f17; simp) (by kernel_rfl) ?_; unfold Tryz.f17
     simp only [↓pre, simprocAttr, parV, sx, tys17, onceCR, bne, postU, postFz, storeE, allocE, put_at, push_at, me0, f1, q1, Nat.one_ne_zero, Nat.zero_ne_one, ↓hvc, ↓hvo, sr]
     (first | refine call_plain (h1) (by first | rfl | simp only [parV, plQ, *]) ?_ | refine call_pure (h1) (by first | rfl | simp only [parV, plQ, *]) (by intro k; first | rfl | simp only [sq, sr, *]) ?_); simp only [↓pre, simprocAttr, parV, sx, tys17, onceCR, bne, postU, postFz, storeE, allocE, put_at, push_at, me0, f1, q1, Nat.one_ne_zero, Nat.zero_ne_one, ↓hvc, ↓hvo, sr]
     exact ⟨0, hz.out _⟩
   · rw [if_neg hW] at hE
     have hrd := hrd hW
     clear hver
     by_cases hlt : manyN k r c w ps 2 W < k.toNat
     · rw [if_pos hlt] at hE hrd
       have hz := hz (by rw [hE]; decide)
       rw [hE] at hz
       replace hz := Hid.mk hz
       replace hE := Hid.mk hE
       clear hcv
       simp only [nilS] at hrd
       refine ospec_of_body follows Tryz.func17 (by unfold Tryz.f17; rfl) (by unfold Tryz.f17; simp) onceCR (by unfold Tryz.f17; simp) (by kernel_rfl) ?_; unfold Tryz.f17
       simp only [↓pre, simprocAttr, parV, sx, tys17, onceCR, bne, postU, postFz, storeE, allocE, put_at, push_at, me0, f1, q1, Nat.one_ne_zero, Nat.zero_ne_one, ↓hvc, ↓hvo, sr]
       (first | refine call_plain (h1) (by first | rfl | simp only [parV, plQ, *]) ?_ | refine call_pure (h1) (by first | rfl | simp only [parV, plQ, *]) (by intro k; first | rfl | simp only [sq, sr, *]) ?_); simp only [↓pre, simprocAttr, parV, sx, tys17, onceCR, bne, postU, postFz, storeE, allocE, put_at, push_at, me0, f1, q1, Nat.one_ne_zero, Nat.zero_ne_one, ↓hvc, ↓hvo, hW, sr]; (first | refine call_plain (hrd) (by first | rfl | simp only [parV, plQ, *]) ?_ | refine call_pure (hrd) (by first | rfl | simp only [parV, plQ, *]) (by intro k; first | rfl | simp only [sq, sr, *]) ?_); simp only [↓pre, simprocAttr, parV, sx, tys17, onceCR, bne, postU, postFz, storeE, allocE, put_at, push_at, me0, f1, q1, Nat.one_ne_zero, Nat.zero_ne_one, ↓hvc, ↓hvo, hW, sr]
       exact ⟨0, hz.out _⟩
     · rw [if_neg hlt] at hE hrd
       have hpa := desc_Parse k r c w (treeR (k.toNat * c.toNat) (bytesA D)) D [] (bytes_rd D _ hdl)
       unfold parseD at hpa
       have pt := (treeR_rd (k.toNat * c.toNat) (bytesA D)).plain
       rw [← hE] at hpa
       replace hlt := Hid.mk hlt
       by_cases he : comE k r c w ps = 0
       · rw [he, if_pos rfl] at hpa
         have hcv := hcv he
         have hf := fun m => fzId_tup (fun x (hx : x ∈ [descA (pLen D) (pDep D) (pRefs D), intV W, intV 0]) => by
           simp only [List.mem_cons, List.not_mem_nil, or_false] at hx
           rcases hx with rfl | rfl | rfl
           · exact descA_id _ _ _
           · exact fzId_val _
           · exact fzId_val _) 0 m
         rw [← hcv] at hf
         unfold descA at hpa
         rw [hcv] at hf
         unfold descA at hf
         rw [hcv]
         unfold descA
         replace hcv := Hid.mk hcv
         replace hE := Hid.mk hE
         replace hz := Hid.mk hz
         generalize pLen D = pl at *
         generalize pDep D = pd at *
         generalize pRefs D = pr at *
         have hTRf : treeR pr.length (refsA pr) = .val (.slice none 0 0) ∨ treeR pr.length (refsA pr) = .tree pr.length pr.length (refsA pr) false := by unfold treeR; split; exact .inl rfl; exact .inr rfl
         rcases hTRf with hT | hT
         all_goals rw [hT] at hpa hf ⊢
         all_goals replace hT := Hid.mk hT
         all_goals replace hf := Hid.mk hf
         all_goals (
           refine ospec_of_body follows Tryz.func17 (by unfold Tryz.f17; rfl) (by unfold Tryz.f17; simp) onceCR (by unfold Tryz.f17; simp) (by kernel_rfl) ?_; unfold Tryz.f17
           simp only [↓pre, simprocAttr, parV, sx, tys17, onceCR, bne, postU, postFz, storeE, allocE, put_at, push_at, me0, f1, q1, Nat.one_ne_zero, Nat.zero_ne_one, ↓hvc, ↓hvo, sr]
           (first | refine call_plain (h1) (by first | rfl | simp only [parV, plQ, *]) ?_ | refine call_pure (h1) (by first | rfl | simp only [parV, plQ, *]) (by intro k; first | rfl | simp only [sq, sr, *]) ?_); simp only [↓pre, simprocAttr, parV, sx, tys17, onceCR, bne, postU, postFz, storeE, allocE, put_at, push_at, me0, f1, q1, Nat.one_ne_zero, Nat.zero_ne_one, ↓hvc, ↓hvo, hW, sr]; (first | refine call_plain (hrd) (by first | rfl | simp only [parV, plQ, *]) ?_ | refine call_pure (hrd) (by first | rfl | simp only [parV, plQ, *]) (by intro k; first | rfl | simp only [sq, sr, *]) ?_); simp only [↓pre, simprocAttr, parV, sx, tys17, onceCR, bne, postU, postFz, storeE, allocE, put_at, push_at, me0, f1, q1, Nat.one_ne_zero, Nat.zero_ne_one, ↓hvc, ↓hvo, hW, sr]; (first | refine call_plain (hpa) (by first | rfl | simp only [parV, plQ, *]) ?_ | refine call_pure (hpa) (by first | rfl | simp only [parV, plQ, *]) (by intro k; first | rfl | simp only [sq, sr, *]) ?_); simp only [↓pre, simprocAttr, parV, sx, tys17, onceCR, bne, postU, postFz, storeE, allocE, put_at, push_at, me0, f1, q1, Nat.one_ne_zero, Nat.zero_ne_one, ↓hvc, ↓hvo, hW, sr]
           exact ⟨0, hf.out _⟩
         )
       · rw [if_neg he] at hpa
         have hz := hz he
         replace hz := Hid.mk hz
         replace hE := Hid.mk hE
         replace hcv := Hid.mk hcv
         generalize comE k r c w ps = CE at *
         unfold desc0 nilS at hpa
         refine ospec_of_body follows Tryz.func17 (by unfold Tryz.f17; rfl) (by unfold Tryz.f17; simp) onceCR (by unfold Tryz.f17; simp) (by kernel_rfl) ?_; unfold Tryz.f17
         simp only [↓pre, simprocAttr, parV, sx, tys17, onceCR, bne, postU, postFz, storeE, allocE, put_at, push_at, me0, f1, q1, Nat.one_ne_zero, Nat.zero_ne_one, ↓hvc, ↓hvo, sr]
         (first | refine call_plain (h1) (by first | rfl | simp only [parV, plQ, *]) ?_ | refine call_pure (h1) (by first | rfl | simp only [parV, plQ, *]) (by intro k; first | rfl | simp only [sq, sr, *]) ?_); simp only [↓pre, simprocAttr, parV, sx, tys17, onceCR, bne, postU, postFz, storeE, allocE, put_at, push_at, me0, f1, q1, Nat.one_ne_zero, Nat.zero_ne_one, ↓hvc, ↓hvo, hW, he, sr]; (first | refine call_plain (hrd) (by first | rfl | simp only [parV, plQ, *]) ?_ | refine call_pure (hrd) (by first | rfl | simp only [parV, plQ, *]) (by intro k; first | rfl | simp only [sq, sr, *]) ?_); simp only [↓pre, simprocAttr, parV, sx, tys17, onceCR, bne, postU, postFz, storeE, allocE, put_at, push_at, me0, f1, q1, Nat.one_ne_zero, Nat.zero_ne_one, ↓hvc, ↓hvo, hW, he, sr]; (first | refine call_plain (hpa) (by first | rfl | simp only [parV, plQ, *]) ?_ | refine call_pure (hpa) (by first | rfl | simp only [parV, plQ, *]) (by intro k; first | rfl | simp only [sq, sr, *]) ?_); simp only [↓pre, simprocAttr, parV, sx, tys17, onceCR, bne, postU, postFz, storeE, allocE, put_at, push_at, me0, f1, q1, Nat.one_ne_zero, Nat.zero_ne_one, ↓hvc, ↓hvo, hW, he, sr]
         exact ⟨0, hz.out _⟩
 · have hE : comE k r c w ps = chkI k r c w ps := by unfold comE; rw [if_neg hc]
   rw [if_neg hc] at h1
   have hz := hz (by rw [hE]; exact hc)
   rw [hE] at hz
   replace hz := Hid.mk hz
   replace hE := Hid.mk hE
   refine ospec_of_body follows Tryz.func17 (by unfold Tryz.f17; rfl) (by unfold Tryz.f17; simp) onceCR (by unfold Tryz.f17; simp) (by kernel_rfl) ?_; unfold Tryz.f17
   simp only [↓pre, simprocAttr, parV, sx, tys17, onceCR, bne, postU, postFz, storeE, allocE, put_at, push_at, me0, f1, q1, Nat.one_ne_zero, Nat.zero_ne_one, ↓hvc, ↓hvo, sr]
   (first | refine call_plain (h1) (by first | rfl | simp only [parV, plQ, *]) ?_ | refine call_pure (h1) (by first | rfl | simp only [parV, plQ, *]) (by intro k; first | rfl | simp only [sq, sr, *]) ?_); simp only [↓pre, simprocAttr, parV, sx, tys17, onceCR, bne, postU, postFz, storeE, allocE, put_at, push_at, me0, f1, q1, Nat.one_ne_zero, Nat.zero_ne_one, ↓hvc, ↓hvo, hc, sr]
   exact ⟨0, hz.out _⟩
def imV (k r c w : Int) (v : AV) : AV := .agg [intV k, intV r, intV c, intV w, v]
theorem image_size (k r c w : Int) (hm : mayB k r c w = true) : FSpec Tryz.prog 211 [parV k r c w] ⟨intV (sizeI k r c), []⟩ := by
 have hmn := may_n hm
 have w1 : IntKind.i64.wrap (k + r) = k + r := wrap_id (by omega) (by omega)
 have w2 : IntKind.i64.wrap (4 * (k + r)) = 4 * (k + r) := wrap_id (by omega) (by omega)
 have w3 : IntKind.i64.wrap (12 + 4 * (k + r)) = 12 + 4 * (k + r) := wrap_id (by omega) (by omega)
 have w4 : IntKind.i64.wrap (12 + 4 * (k + r) + c) = sizeI k r c := wrap_id (by omega) (by omega)
 replace hmn := Hid.mk hmn
 refine fspec_of_body follows Tryz.func211 (by unfold Tryz.f211; rfl) (by unfold Tryz.f211; simp) onceA (by unfold Tryz.f211; simp) (by kernel_rfl) ?_; unfold Tryz.f211
 simp only [↓pre, simprocAttr, parV, sx, tys211, onceA, w1, w2, w3, w4]
def imB (k r c w : Int) (L : List (List UInt8)) : Bool := decide ((L.length : Int) = (k + r) * w * 2) && L.all fun b => lenB k r c b.length
def imE (k r c w : Int) (L : List (List UInt8)) : Int := if mayB k r c w = true then (if imB k r c w L = true then 0 else 90) else 2
theorem im_bound {k r c w : Int} (h : mayB k r c w = true) : 0 ≤ (k + r) * w ∧ (k + r) * w ≤ 4096 := by
 have h1 := mayB_of.1 h
 have h2 : (k + r) * w ≤ 16 * w := Int.mul_le_mul_of_nonneg_right (by omega) (by omega)
 exact ⟨Int.mul_nonneg (by omega) (by omega), by omega⟩
theorem image_Check (k r c w : Int) (v : AV) (L : List (List UInt8)) (cells : List AV) (hv : RowsV v L cells) : FSpec Tryz.prog 124 [imV k r c w v] ⟨intV (imE k r c w L), []⟩ := by
 have hp := hv.rd.plain
 have hf := rd_fz hv.rd
 have ho := rd_one hv.rd
 have hd := layout_Drives k r c w
 unfold imE imV
 cases hm : mayB k r c w with
 | false =>
   simp only [hm, Bool.false_eq_true, if_false] at hd ⊢
   refine fspec_of_body follows Tryz.func124 (by unfold Tryz.f124; rfl) (by unfold Tryz.f124; simp) onceA (by unfold Tryz.f124; simp) (by kernel_rfl) ?_; unfold Tryz.f124
   simp only [↓pre, simprocAttr, parV, sx, tys124, onceA, postU, hf, ho]
   (first | refine call_plain (hd) (by first | rfl | simp only [parV, plQ, *]) ?_ | refine call_pure (hd) (by first | rfl | simp only [parV, plQ, *]) (by intro k; first | rfl | simp only [sq, sr, *]) ?_); simp only [↓pre, simprocAttr, parV, sx, tys124, onceA, postU, boolV, cond_t, cond_f]
 | true =>
   simp only [hm, if_true] at hd ⊢
   have hmn := may_n hm
   have hb := im_bound hm
   have hs := image_size k r c w hm
   have w1 : IntKind.i64.wrap ((k + r) * w) = (k + r) * w := wrap_id (by omega) (by omega)
   have w2 : IntKind.i64.wrap ((k + r) * w * 2) = (k + r) * w * 2 := wrap_id (by omega) (by omega)
   by_cases hl : (L.length : Int) = (k + r) * w * 2
   · generalize hres : (if imB k r c w L = true then (0 : Int) else 90) = E
     have hno : ∀ b : List UInt8, b ∈ L → lenB k r c b.length = false → E = 90 := fun b hb h => by
       rw [← hres, if_neg]
       intro h2
       unfold imB at h2
       rw [Bool.and_eq_true, List.all_eq_true] at h2
       rw [h2.2 b hb] at h
       cases h
     have hyes : (∀ b ∈ L, lenB k r c b.length = true) → E = 0 := fun h => by
       rw [← hres, if_pos]
       unfold imB
       rw [decide_eq_true hl, Bool.true_and, List.all_eq_true]
       exact h
     have hln : ∀ n : Nat, lenB k r c n = (decide ((n : Int) = 0) || decide ((n : Int) = sizeI k r c)) := fun _ => rfl
     obtain ⟨N, hN⟩ : ∃ N : Nat, L.length = N := ⟨_, rfl⟩
     have hN2 : N ≤ 8192 := by omega
     replace hmn := Hid.mk hmn
     replace hb := Hid.mk hb
     replace hres := Hid.mk hres
     replace hno := Hid.mk hno
     replace hyes := Hid.mk hyes
     replace hN := Hid.mk hN
     have hN' := hN.out
     refine fspec_of_body follows Tryz.func124 (by unfold Tryz.f124; rfl) (by unfold Tryz.f124; simp) onceA (by unfold Tryz.f124; simp) (by kernel_rfl) ?_; unfold Tryz.f124
     simp only [↓pre, simprocAttr, parV, sx, tys124, onceA, postU, postA, hf, ho, hv.rd.len', w1, w2, sr]
     (first | refine call_plain (hd) (by first | rfl | simp only [parV, plQ, *]) ?_ | refine call_pure (hd) (by first | rfl | simp only [parV, plQ, *]) (by intro k; first | rfl | simp only [sq, sr, *]) ?_); simp only [↓pre, simprocAttr, parV, sx, tys124, onceA, postU, postA, hf, ho, hv.rd.len', w1, w2, hl, sr]
     rw [codeW_loop]
     refine loop_intro (fun q e m => ∃ i, q + i = N ∧ e 1 = .tptr 0 [intV k, intV r, intV c, intV w, v] ∧ e 27 = v ∧ e 28 = intV ((k + r) * w * 2) ∧ e 29 = intV (i : Nat) ∧ Hid (∀ j b, j < i → L[j]? = some b → lenB k r c b.length = true)) N ⟨0, by omega, rfl, rfl, rfl, rfl, ⟨fun j b h => by omega⟩⟩ ?_
     rintro q e m ⟨i, hq, e1, e27, e28, e29, hJ⟩
     replace hq := Hid.mk hq
     by_cases hlt : i < N
     · have hlt' : ((i : Nat) : Int) < (k + r) * w * 2 := by omega
       have wi := wrap_succ (n := i) (by omega)
       obtain ⟨b, hbi⟩ : ∃ b, L[i]? = some b := ⟨_, List.getElem?_eq_getElem (by omega)⟩
       obtain ⟨a, x, ha, hra⟩ := hv.at_ i b hbi
       have hil : i < L.length := by omega
       have fa := rd_fz hra
       have oa := rd_one hra
       have step : lenB k r c b.length = true → ∀ j b', j < i + 1 → L[j]? = some b' → lenB k r c b'.length = true := fun h j b' hj hb' => by
         by_cases hji : j = i
         · subst hji
           rw [hbi] at hb'
           cases hb'
           exact h
         · exact hJ.out j b' (by omega) hb'
       replace step := Hid.mk step
       by_cases h1 : (b.length : Int) = 0
       · simp only [↓pre, simprocAttr, parV, sx, tys124, onceA, postU, postA, hf, ho, hv.rd.len', w1, w2, e1, e27, e28, e29, hlt', hv.rd.addr', hil, ha, oa, hra.len', h1, wi, sr]
         exact ⟨q - 1, by have := hq.out; omega, i + 1, by have := hq.out; omega, rfl, ⟨step.out (by rw [hln, decide_eq_true h1]; rfl)⟩⟩
       · by_cases h2 : (b.length : Int) = sizeI k r c
         · have hz : ¬ sizeI k r c = 0 := fun h => h1 (h2.trans h)
           simp only [↓pre, simprocAttr, parV, sx, tys124, onceA, postU, postA, hf, ho, hv.rd.len', w1, w2, e1, e27, e28, e29, hlt', hv.rd.addr', hil, ha, oa, hra.len', h2, hz, sr]
           (first | refine call_plain (hs) (by first | rfl | simp only [parV, plQ, *]) ?_ | refine call_pure (hs) (by first | rfl | simp only [parV, plQ, *]) (by intro k; first | rfl | simp only [sq, sr, *]) ?_); simp only [↓pre, simprocAttr, parV, sx, tys124, onceA, postU, postA, hf, ho, hv.rd.len', w1, w2, e1, e27, e28, e29, wi, sr]
           exact ⟨q - 1, by have := hq.out; omega, i + 1, by have := hq.out; omega, rfl, ⟨step.out (by rw [hln, decide_eq_true h2, Bool.or_true])⟩⟩
         · have hE := hno.out b (List.mem_of_getElem? hbi) (by rw [hln, decide_eq_false h1, decide_eq_false h2]; rfl)
           subst hE
           simp only [↓pre, simprocAttr, parV, sx, tys124, onceA, postU, postA, hf, ho, hv.rd.len', w1, w2, e1, e27, e28, e29, hlt', hv.rd.addr', hil, ha, oa, hra.len', h1, h2, sr]
           (first | refine call_plain (hs) (by first | rfl | simp only [parV, plQ, *]) ?_ | refine call_pure (hs) (by first | rfl | simp only [parV, plQ, *]) (by intro k; first | rfl | simp only [sq, sr, *]) ?_); simp only [↓pre, simprocAttr, parV, sx, tys124, onceA, postU, postA, hf, ho, hv.rd.len', w1, w2, e1, e27, e28, e29, h2, sr]
     · have hlt' : ¬ ((i : Nat) : Int) < (k + r) * w * 2 := by omega
       have hE := hyes.out fun b hb => by
         obtain ⟨j, hj⟩ := List.getElem?_of_mem hb
         have := (List.getElem?_eq_some_iff.1 hj).1
         exact hJ.out j b (by omega) hj
       subst hE
       simp only [↓pre, simprocAttr, parV, sx, tys124, onceA, postU, postA, hf, ho, hv.rd.len', w1, w2, e1, e27, e28, e29, hlt', sr]
   · have hB : imB k r c w L = false := by unfold imB; rw [decide_eq_false hl]; rfl
     rw [hB, if_neg (by decide)]
     replace hmn := Hid.mk hmn
     replace hb := Hid.mk hb
     refine fspec_of_body follows Tryz.func124 (by unfold Tryz.f124; rfl) (by unfold Tryz.f124; simp) onceA (by unfold Tryz.f124; simp) (by kernel_rfl) ?_; unfold Tryz.f124
     simp only [↓pre, simprocAttr, parV, sx, tys124, onceA, postU, postA, hf, ho, hv.rd.len', w1, w2, sr]
     (first | refine call_plain (hd) (by first | rfl | simp only [parV, plQ, *]) ?_ | refine call_pure (hd) (by first | rfl | simp only [parV, plQ, *]) (by intro k; first | rfl | simp only [sq, sr, *]) ?_); simp only [↓pre, simprocAttr, parV, sx, tys124, onceA, postU, postA, hf, ho, hv.rd.len', w1, w2, hl, sr]
theorem image_taken (v : AV) (b : List UInt8) (x : List AV) (hv : RdSl v b.length (bytesA b ++ x)) (hb : b.length ≤ 65536) : FSpec Tryz.prog 153 [v] ⟨if b.length = 0 then nilS else .tree b.length b.length (bytesA b) true, []⟩ := by
 refine fspec_fzT ?_
 have hp := hv.plain
 by_cases h0 : b.length = 0
 · rw [if_pos h0]
   have h0' : (b.length : Int) = 0 := by omega
   refine ospec_of_body follows Tryz.func153 (by unfold Tryz.f153; rfl) (by unfold Tryz.f153; simp) onceA (by unfold Tryz.f153; simp) (by kernel_rfl) ?_; unfold Tryz.f153
   simp only [↓pre, simprocAttr, parV, sx, tys153, onceA, postU, postV, hv.len', copy2, h0', sr]
   exact ⟨0, fzT_val⟩
 · rw [if_neg h0]
   have h0' : ¬ (b.length : Int) = 0 := by omega
   have hmk := fun m => make_bytes m (n := b.length) hb
   have hsrc : ∀ m, srcE Tryz.prog 5 1 m v = some (bytesA b, b.length) := fun m => by
     rcases hv.form with ⟨_, h⟩ | ⟨_, _, _, h⟩ | ⟨c, f, rfl, hle⟩
     · exact absurd h h0
     · exact absurd h h0
     · rw [src_tree (by rw [List.length_append, bytesA_len]; omega), Nat.mul_one, List.take_left' (bytesA_len b)]
   have hcp : ∀ m : Mem, copyE Tryz.prog 5 (m.push ⟨tabA b.length fun _ => 0, 5, .flat, true⟩) (.sl m.next 0 b.length b.length true) v = some ⟨intV (b.length : Nat), m.push ⟨bytesA b, 5, .flat, true⟩, none⟩ := fun m => by
     have h2 : szE Tryz.prog 5 = some 1 := by kernel_rfl
     have h4 : kindT Tryz.prog 5 = .flat := by kernel_rfl
     have hb : (m.push ⟨tabA b.length fun _ => 0, 5, .flat, true⟩).at_ m.next = some ⟨tabA b.length fun _ => 0, 5, .flat, true⟩ := by rw [push_at, if_pos rfl]
     simp only [copyE, h2, hsrc, hb, Option.bind_some, h4]
     rw [if_pos ⟨trivial, trivial, by rw [tabA_len]; omega⟩, push_put rfl, Nat.min_self, Nat.mul_one, List.take_of_length_le (by rw [bytesA_len]; omega)]
     congr 4
     unfold splice
     rw [bytesA_len, List.take_zero, List.nil_append, Nat.zero_add, List.drop_eq_nil_of_le (by rw [tabA_len]; omega), List.append_nil]
   refine ospec_of_body follows Tryz.func153 (by unfold Tryz.f153; rfl) (by unfold Tryz.f153; simp) onceA (by unfold Tryz.f153; simp) (by kernel_rfl) ?_; unfold Tryz.f153
   simp only [↓pre, simprocAttr, parV, sx, tys153, onceA, postU, postV, hv.len', copy2, h0', hmk, hcp, sr]
   exact ⟨0, by rw [fzT_flat (by rw [push_at, if_pos rfl]), List.drop_zero]⟩
theorem taken_rd (b : List UInt8) : RdSl (if b.length = 0 then nilS else .tree b.length b.length (bytesA b) true) b.length (bytesA b ++ []) := by
 rw [List.append_nil]
 split
 · rename_i h; exact ⟨.inl ⟨rfl, h⟩⟩
 · exact ⟨.inr (.inr ⟨_, _, rfl, Nat.le_refl _⟩)⟩
theorem rd_ref {v : AV} {n : Nat} {cs : List AV} (h : RdSl v n cs) : hasRef v = false := by
 rcases h.form with ⟨rfl, _⟩ | ⟨_, _, rfl, _⟩ | ⟨_, _, rfl, _⟩ <;> rfl
theorem rd_cutM {P : Program} {t : TypeId} {v : AV} {n sz i j : Nat} {cs : List AV} (h : RdSl v n cs) (h1 : (elE P t).bind (szE P) = some sz) (hi : i < j) (hj : j ≤ n) : ∃ v', sliceE P t (some i) (some j) (some j) v = some v' ∧ RdSl v' (j - i) (cs.drop (i * sz)) := by
 obtain ⟨el, hel, hsz⟩ := Option.bind_eq_some_iff.1 h1
 rcases h.form with ⟨rfl, h0⟩ | ⟨_, _, rfl, h0⟩ | ⟨c, f, rfl, hc⟩
 · omega
 · omega
 · refine ⟨.tree (j - i) (j - i) (cs.drop (i * sz)) true, ?_, ⟨.inr (.inr ⟨_, true, rfl, Nat.le_refl _⟩)⟩⟩
   simp only [sliceE, hel, hsz, cutE, Option.isSome_some, Option.isNone_some, Bool.and_false, Bool.false_eq_true, if_false, Option.bind_some, Option.getD_some, Option.getD_none]
   rw [if_pos (by omega), if_neg (by omega)]
   simp
def rowP (L : List (List UInt8)) (W row : Nat) (n : Nat) : List PairB := (List.range n).map fun i => (L.getD ((i * W + row) * 2) [], L.getD ((i * W + row) * 2 + 1) [])
theorem rowP_len (L : List (List UInt8)) (W row n : Nat) : (rowP L W row n).length = n := by simp [rowP]
theorem rowP_succ (L : List (List UInt8)) (W row n : Nat) : rowP L W row (n + 1) = rowP L W row n ++ [(L.getD ((n * W + row) * 2) [], L.getD ((n * W + row) * 2 + 1) [])] := by
 unfold rowP
 rw [List.range_succ, List.map_append]
 rfl
def takA (b : List UInt8) : AV := if b.length = 0 then nilS else .tree b.length b.length (bytesA b) true
def prA (ps : List PairB) : List AV := ps.flatMap fun p => [takA p.1, takA p.2]
theorem prA_append (ps : List PairB) (p : PairB) : prA (ps ++ [p]) = prA ps ++ [takA p.1, takA p.2] := by simp [prA]
theorem prA_len (ps : List PairB) : (prA ps).length = ps.length * 2 := by
 induction ps with
 | nil => rfl
 | cons p ps ih =>
   simp only [prA, List.flatMap_cons, List.length_append, List.length_cons, List.length_nil] at ih ⊢
   omega
theorem prA_at {ps : List PairB} {i : Nat} {p : PairB} (h : ps[i]? = some p) : (prA ps)[i * 2]? = some (takA p.1) ∧ (prA ps)[i * 2 + 1]? = some (takA p.2) := by
 induction ps generalizing i with
 | nil => simp at h
 | cons q ps ih =>
   unfold prA
   rw [List.flatMap_cons]
   cases i with
   | zero => simp at h; subst h; exact ⟨rfl, rfl⟩
   | succ i =>
     have := ih (i := i) (by simpa using h)
     rw [show (i + 1) * 2 = i * 2 + 1 + 1 by omega]
     exact this
theorem pairs_rowV (ps : List PairB) : RowV (treeR ps.length (prA ps)) ps (prA ps) := by
 refine ⟨treeR_rd _ _, fun i p hp => ?_⟩
 obtain ⟨h1, h2⟩ := prA_at hp
 exact ⟨_, _, [], [], h1, h2, taken_rd _, taken_rd _⟩
theorem prA_id (ps : List PairB) : ∀ c ∈ prA ps, fzId c := by
 intro c hc
 obtain ⟨p, _, h⟩ := List.mem_flatMap.1 hc
 simp only [List.mem_cons, List.not_mem_nil, or_false] at h
 rcases h with rfl | rfl
 · exact fzId_rd (taken_rd _)
 · exact fzId_rd (taken_rd _)
def rowE (k r c w : Int) (L : List (List UInt8)) (row : Int) : Int := if imE k r c w L = 0 then (if row < 0 ∨ w ≤ row then 2 else 0) else imE k r c w L
def rowL (k r w : Int) (L : List (List UInt8)) (row : Int) : List PairB := rowP L w.toNat row.toNat (k + r).toNat
def rowVal (k r c w : Int) (L : List (List UInt8)) (row : Int) : AV := if rowE k r c w L row = 0 then .tup [treeR (k + r).toNat (prA (rowL k r w L row)), intV 0] else .tup [nilS, intV (rowE k r c w L row)]
theorem im_parts {k r c w : Int} {L : List (List UInt8)} (h : imE k r c w L = 0) : mayB k r c w = true ∧ (L.length : Int) = (k + r) * w * 2 ∧ ∀ b ∈ L, lenB k r c b.length = true := by
 unfold imE at h
 split at h
 · rename_i h1
   split at h
   · rename_i h2
     unfold imB at h2
     rw [Bool.and_eq_true, List.all_eq_true] at h2
     exact ⟨h1, of_decide_eq_true h2.1, h2.2⟩
   · omega
 · omega
theorem lenB_le {k r c w : Int} (hm : mayB k r c w = true) {n : Nat} (h : lenB k r c n = true) : n ≤ 140 := by
 have := mayB_of.1 hm
 unfold lenB sizeI at h
 rw [Bool.or_eq_true, decide_eq_true_eq, decide_eq_true_eq] at h
 omega
theorem row_index {k r w : Int} {row W N i : Nat} (hw : w = (W : Int)) (hN : k + r = (N : Int)) (hr : row < W) (hi : i < N) {n : Nat} (hl : (n : Int) = (k + r) * w * 2) : (i * W + row) * 2 + 2 ≤ n := by
 have h1 : (i + 1) * W ≤ N * W := Nat.mul_le_mul_right _ hi
 rw [Nat.add_mul, Nat.one_mul] at h1
 have h2 : (n : Int) = ((N * W * 2 : Nat) : Int) := by rw [hl, hw, hN]; simp
 omega
theorem image_Row (k r c w row : Int) (v : AV) (L : List (List UInt8)) (cells : List AV) (hv : RowsV v L cells) : FSpec Tryz.prog 83 [imV k r c w v, intV row] ⟨rowVal k r c w L row, []⟩ := by
 refine fspec_fzT ?_
 have hp := hv.rd.plain
 have hf := rd_fz hv.rd
 have ho := rd_one hv.rd
 have hck := image_Check k r c w v L cells hv
 unfold rowVal rowE
 unfold imV at hck ⊢
 by_cases hE : imE k r c w L = 0
 · rw [if_pos hE]
   rw [hE] at hck
   obtain ⟨hm, hl, hlen⟩ := im_parts hE
   by_cases hrow : row < 0 ∨ w ≤ row
   · rw [if_pos hrow, if_neg (by decide)]
     have hz := fun m => fzId_two (fzId_val (.slice none 0 0)) (fzId_val (.int .i64 2)) 1 m
     replace hz := Hid.mk hz
     replace hE := Hid.mk hE
     by_cases h1 : row < 0
     · refine ospec_of_body follows Tryz.func83 (by unfold Tryz.f83; rfl) (by unfold Tryz.f83; simp) onceA (by unfold Tryz.f83; simp) (by kernel_rfl) ?_; unfold Tryz.f83
       simp only [↓pre, simprocAttr, parV, sx, tys83, onceA, postU, postA, postV, hf, ho, sr]
       (first | refine call_plain (hck) (by first | rfl | simp only [parV, plQ, *]) ?_ | refine call_pure (hck) (by first | rfl | simp only [parV, plQ, *]) (by intro k; first | rfl | simp only [sq, sr, *]) ?_); simp only [↓pre, simprocAttr, parV, sx, tys83, onceA, postU, postA, postV, hf, ho, h1, sr]
       exact ⟨1, hz.out _⟩
     · have h2 : w ≤ row := by omega
       refine ospec_of_body follows Tryz.func83 (by unfold Tryz.f83; rfl) (by unfold Tryz.f83; simp) onceA (by unfold Tryz.f83; simp) (by kernel_rfl) ?_; unfold Tryz.f83
       simp only [↓pre, simprocAttr, parV, sx, tys83, onceA, postU, postA, postV, hf, ho, sr]
       (first | refine call_plain (hck) (by first | rfl | simp only [parV, plQ, *]) ?_ | refine call_pure (hck) (by first | rfl | simp only [parV, plQ, *]) (by intro k; first | rfl | simp only [sq, sr, *]) ?_); simp only [↓pre, simprocAttr, parV, sx, tys83, onceA, postU, postA, postV, hf, ho, h1, h2, sr]
       exact ⟨1, hz.out _⟩
   · rw [if_neg hrow, if_pos rfl]
     have hmn := may_n hm
     have hml := mayB_of.1 hm
     have h1 : ¬ row < 0 := by omega
     have h2 : ¬ w ≤ row := by omega
     obtain ⟨N, hN⟩ : ∃ N : Nat, k + r = (N : Int) := ⟨(k + r).toNat, by omega⟩
     obtain ⟨W, hW⟩ : ∃ W : Nat, w = (W : Int) := ⟨w.toNat, by omega⟩
     obtain ⟨ro, hro⟩ : ∃ ro : Nat, row = (ro : Int) := ⟨row.toNat, by omega⟩
     have hidx := fun i (hi : i < N) => row_index hW hN (row := ro) (by omega) hi hl
     have hps := rowP_succ L W ro
     have hpl := rowP_len L W ro
     unfold rowL
     rw [show (k + r).toNat = N by omega, show w.toNat = W by omega, show row.toNat = ro by omega]
     have wN : IntKind.i64.wrap (k + r) = (N : Int) := by rw [hN]; exact wrap_nat (by omega)
     have hWW : ∀ i : Nat, i < N → i * W ≤ 4096 := fun i hi => by
       have : i * W ≤ 16 * 256 := Nat.mul_le_mul (by omega) (by omega)
       omega
     generalize rowP L W ro = RP at *
     have hR0 : prA (RP 0) = [] := List.eq_nil_of_length_eq_zero (by rw [prA_len, hpl])
     replace hmn := Hid.mk hmn
     replace hml := Hid.mk hml
     replace hidx := Hid.mk hidx
     replace hps := Hid.mk hps
     replace hpl := Hid.mk hpl
     replace hE := Hid.mk hE
     replace hl := Hid.mk hl
     replace hN := Hid.mk hN
     replace hlen := Hid.mk hlen
     replace hWW := Hid.mk hWW
     replace hR0 := Hid.mk hR0
     replace hrow := Hid.mk hrow
     refine ospec_of_body follows Tryz.func83 (by unfold Tryz.f83; rfl) (by unfold Tryz.f83; simp) onceA (by unfold Tryz.f83; simp) (by kernel_rfl) ?_; unfold Tryz.f83
     simp only [↓pre, simprocAttr, parV, sx, tys83, onceA, postU, postA, postV, hf, ho, sr]
     (first | refine call_plain (hck) (by first | rfl | simp only [parV, plQ, *]) ?_ | refine call_pure (hck) (by first | rfl | simp only [parV, plQ, *]) (by intro k; first | rfl | simp only [sq, sr, *]) ?_); simp only [↓pre, simprocAttr, parV, sx, tys83, onceA, postU, postA, postV, hf, ho, h1, h2, wN, sr]
     rw [codeW_loop]
     refine loop_intro (fun q e m => ∃ i lv, q + i = N ∧ e 1 = intV row ∧ e 2 = .tptr 0 [intV k, intV r, intV c, intV w, v] ∧ e 7 = lv ∧ e 31 = intV (N : Nat) ∧ e 32 = intV (i : Nat) ∧ Hid (OwnK .var m 131 2 lv i (prA (RP i)))) N ⟨0, _, by omega, rfl, rfl, rfl, rfl, rfl, ⟨by rw [hR0.out]; exact own_nil⟩⟩ ?_
     rintro q e m ⟨i, lv, hq, e1, e2, e7, e31, e32, hJ⟩
     replace hq := Hid.mk hq
     by_cases hlt : i < N
     · have hlt' : ((i : Nat) : Int) < ((N : Nat) : Int) := by omega
       have wi := wrap_succ (n := i) (by have := hmn.out; have := hN.out; omega)
       have hix := hidx.out i hlt
       have hw4 := hWW.out i hlt
       have hro4 : ro ≤ 256 := by have := hml.out; have := hrow.out; omega
       have w1 : IntKind.i64.wrap ((i : Int) * w) = ((i * W : Nat) : Int) := by rw [hW, show (i : Int) * (W : Int) = ((i * W : Nat) : Int) by simp]; exact wrap_nat (by omega)
       have w2 : IntKind.i64.wrap (((i * W : Nat) : Int) + row) = ((i * W + ro : Nat) : Int) := by rw [hro, show ((i * W : Nat) : Int) + (ro : Int) = ((i * W + ro : Nat) : Int) by simp]; exact wrap_nat (by omega)
       have w3 : IntKind.i64.wrap (((i * W + ro : Nat) : Int) * 2) = (((i * W + ro) * 2 : Nat) : Int) := by rw [show ((i * W + ro : Nat) : Int) * 2 = (((i * W + ro) * 2 : Nat) : Int) by simp]; exact wrap_nat (by omega)
       have w4 : IntKind.i64.wrap ((((i * W + ro) * 2 : Nat) : Int) + 2) = (((i * W + ro) * 2 + 2 : Nat) : Int) := by rw [show ((((i * W + ro) * 2 : Nat) : Int) + 2) = (((i * W + ro) * 2 + 2 : Nat) : Int) by simp]; exact wrap_nat (by omega)
       have hps := hps.out i
       generalize hat : (i * W + ro) * 2 = at_ at *
       have n1 : natOf (.val (.int .i64 (at_ : Nat))) = some at_ := nat_of
       have n2 : natOf (.val (.int .i64 ((at_ + 2 : Nat) : Int))) = some (at_ + 2) := nat_of
       obtain ⟨u, su, ru⟩ := rd_cutM (P := Tryz.prog) (t := 45) (sz := 1) hv.rd (by kernel_rfl) (i := at_) (j := at_ + 2) (by omega) (by omega)
       rw [show at_ + 2 - at_ = 2 by omega, Nat.mul_one] at ru
       have hb0 : L[at_]? = some (L.getD at_ []) := by rw [List.getD_eq_getElem?_getD, List.getElem?_eq_getElem (by omega)]; rfl
       have hb1 : L[at_ + 1]? = some (L.getD (at_ + 1) []) := by rw [List.getD_eq_getElem?_getD, List.getElem?_eq_getElem (by omega)]; rfl
       have hm0 := lenB_le hm (hlen.out _ (List.mem_of_getElem? hb0))
       have hm1 := lenB_le hm (hlen.out _ (List.mem_of_getElem? hb1))
       obtain ⟨a0, x0, ha0, ra0⟩ := hv.at_ _ _ hb0
       obtain ⟨a1, x1, ha1, ra1⟩ := hv.at_ _ _ hb1
       have hc0 : (cells.drop at_)[0]? = some a0 := by rw [List.getElem?_drop]; exact ha0
       have hc1 : (cells.drop at_)[1]? = some a1 := by rw [List.getElem?_drop]; exact ha1
       have t0 := image_taken a0 _ x0 ra0 (by omega)
       have t1 := image_taken a1 _ x1 ra1 (by omega)
       have r0 := taken_rd (L.getD at_ [])
       have r1 := taken_rd (L.getD (at_ + 1) [])
       rw [← show takA (L.getD at_ []) = (if (L.getD at_ []).length = 0 then nilS else .tree (L.getD at_ []).length (L.getD at_ []).length (bytesA (L.getD at_ [])) true) from rfl] at t0 r0
       rw [← show takA (L.getD (at_ + 1) []) = (if (L.getD (at_ + 1) []).length = 0 then nilS else .tree (L.getD (at_ + 1) []).length (L.getD (at_ + 1) []).length (bytesA (L.getD (at_ + 1) [])) true) from rfl] at t1 r1
       have hpp := prA_append (RP i) (L.getD at_ [], L.getD (at_ + 1) [])
       rw [← hps] at hpp
       simp only at hpp
       generalize takA (L.getD at_ []) = T0 at *
       generalize takA (L.getD (at_ + 1) []) = T1 at *
       have pu := ru.plain
       have pa0 := ra0.plain
       have pa1 := ra1.plain
       have oa0 := rd_one ra0
       have oa1 := rd_one ra1
       have o0 := rd_one r0
       have o1 := rd_one r1
       have k0 := rd_okA r0
       have k1 := rd_okA r1
       have c0 := rd_cells r0
       have c1 := rd_cells r1
       have s0 := rd_shift r0
       have s1 := rd_shift r1
       have hbt : ∀ m, buildTreeE Tryz.prog m 24 1 [(0, .agg [T0, T1])] = some ⟨.tree 1 1 [T0, T1] true, m, none⟩ := fun m => buildT_of (el := 131) (sz := 2) (z := [.val (.slice none 0 0), .val (.slice none 0 0)]) (by kernel_rfl) (by kernel_rfl) (by kernel_rfl) rfl (by simp [hasRefs, rd_ref r0, rd_ref r1]) (by decide)
       have hso := fun m => hv.rd.slOk (P := Tryz.prog) (m := m) (t := 45)
       replace hps := Hid.mk hps
       replace hpp := Hid.mk hpp
       replace hat := Hid.mk hat
       replace hix := Hid.mk hix
       simp only [↓pre, simprocAttr, parV, sx, tys83, onceA, postU, postA, postV, hf, ho, e1, e2, e7, e31, e32, hlt', w1, w2, w3, w4, hso, optNat, Option.map_some, Option.map_none, n1, n2, su, hv.rd.sliceX, ru.addr', hc0, hc1, oa0, oa1, ↓k0, ↓k1, ↓c0, ↓c1, s0, s1, o0, o1, hbt, Nat.zero_mul, Nat.one_mul, sr]
       (first | refine call_plain (t0) (by first | rfl | simp only [parV, plQ, *]) ?_ | refine call_pure (t0) (by first | rfl | simp only [parV, plQ, *]) (by intro k; first | rfl | simp only [sq, sr, *]) ?_); simp only [↓pre, simprocAttr, parV, sx, tys83, onceA, postU, postA, postV, hf, ho, e1, e2, e7, e31, e32, hlt', w1, w2, w3, w4, hso, optNat, Option.map_some, Option.map_none, n1, n2, su, hv.rd.sliceX, ru.addr', hc0, hc1, oa0, oa1, ↓k0, ↓k1, ↓c0, ↓c1, s0, s1, o0, o1, hbt, Nat.zero_mul, Nat.one_mul, sr]; (first | refine call_plain (t1) (by first | rfl | simp only [parV, plQ, *]) ?_ | refine call_pure (t1) (by first | rfl | simp only [parV, plQ, *]) (by intro k; first | rfl | simp only [sq, sr, *]) ?_); simp only [↓pre, simprocAttr, parV, sx, tys83, onceA, postU, postA, postV, hf, ho, e1, e2, e7, e31, e32, hlt', w1, w2, w3, w4, hso, optNat, Option.map_some, Option.map_none, n1, n2, su, hv.rd.sliceX, ru.addr', hc0, hc1, oa0, oa1, ↓k0, ↓k1, ↓c0, ↓c1, s0, s1, o0, o1, hbt, Nat.zero_mul, Nat.one_mul, sr]
       refine app_rule (sz := 2) (y := 48) (zl := [.slice none 0 0, .slice none 0 0]) (by kernel_rfl) hJ.out (by kernel_rfl) (by kernel_rfl) (by kernel_rfl) rfl srcT1a rfl (by have := hmn.out; have := hN.out; omega) (by have := hmn.out; have := hN.out; omega) ?_
       intro lv' m' ho' hn'
       refine contW_fixed (by kernel_rfl) ?_
       simp only [↓pre, simprocAttr, parV, sx, tys83, onceA, postU, postA, postV, hf, ho, e1, e2, e31, e32, wi, sr]
       refine ⟨q - 1, by have := hq.out; omega, i + 1, lv', by have := hq.out; omega, rfl, rfl, ⟨?_⟩⟩
       rw [hpp.out]
       exact ho'
     · have hlt' : ¬ ((i : Nat) : Int) < ((N : Nat) : Int) := by omega
       have hi : i = N := by have := hq.out; omega
       subst hi
       have hfin := fun k => own_fzTv hJ.out (prA_id _) k
       replace hfin := Hid.mk hfin
       simp only [↓pre, simprocAttr, parV, sx, tys83, onceA, postU, postA, postV, hf, ho, e1, e2, e7, e31, e32, hlt', sr]
       exact ⟨1, by rw [fzT_tup, fzTs_cons, hfin.out, Option.bind_some, fzTs_cons, fzT_val, fzTs_nil]; rfl⟩
 · rw [if_neg hE, if_neg hE]
   have hz := fun m => fzId_two (fzId_val (.slice none 0 0)) (fzId_val (.int .i64 (imE k r c w L))) 1 m
   replace hz := Hid.mk hz
   refine ospec_of_body follows Tryz.func83 (by unfold Tryz.f83; rfl) (by unfold Tryz.f83; simp) onceA (by unfold Tryz.f83; simp) (by kernel_rfl) ?_; unfold Tryz.f83
   simp only [↓pre, simprocAttr, parV, sx, tys83, onceA, postU, postA, postV, hf, ho, sr]
   (first | refine call_plain (hck) (by first | rfl | simp only [parV, plQ, *]) ?_ | refine call_pure (hck) (by first | rfl | simp only [parV, plQ, *]) (by intro k; first | rfl | simp only [sq, sr, *]) ?_); simp only [↓pre, simprocAttr, parV, sx, tys83, onceA, postU, postA, postV, hf, ho, hE, sr]
   exact ⟨1, hz.out _⟩
theorem row_rowV (k r c w : Int) (L : List (List UInt8)) (row : Int) (hk : 0 ≤ k + r) : RowV (treeR (k + r).toNat (prA (rowL k r w L row))) (rowL k r w L row) (prA (rowL k r w L row)) := by
 have := pairs_rowV (rowL k r w L row)
 unfold rowL at this ⊢
 rw [rowP_len] at this
 exact this
theorem row_rowB {k r c w : Int} {L : List (List UInt8)} {row : Int} (h : rowE k r c w L row = 0) : rowB k r c (rowL k r w L row) = true ∧ mayB k r c w = true := by
 unfold rowE at h
 split at h
 · rename_i hE
   obtain ⟨hm, hl, hlen⟩ := im_parts hE
   have hmn := may_n hm
   refine ⟨?_, hm⟩
   unfold rowB rowL
   rw [Bool.and_eq_true]
   refine ⟨decide_eq_true (by rw [rowP_len]; omega), List.all_eq_true.2 fun p hp => ?_⟩
   unfold rowP at hp
   obtain ⟨i, _, rfl⟩ := List.mem_map.1 hp
   have : ∀ j, lenB k r c (L.getD j []).length = true := fun j => by
     rw [List.getD_eq_getElem?_getD]
     cases hq : L[j]? with
     | none => rfl
     | some b => exact hlen b (List.mem_of_getElem? hq)
   unfold pairB
   rw [this, this]
   rfl
 · contradiction
def leafB (k c : Int) (l : List RefI) : List UInt8 := padB (refsB l) (wI k c).toNat
def leafBV (k c w : Int) (l : List RefI) : AV := if refsOk w l = true then .tup [.tree (wI k c).toNat (wI k c).toNat (bytesA (leafB k c l)) true, intV 0] else .tup [nilS, intV 150]
def onceLf : Nat → Bool := fun d => d != 31 && d != 32
theorem desc_Leaf (k r c w : Int) (hm : mayB k r c w = true) (v : AV) (l : List RefI) (hv : RefsV v l) (hl1 : 1 ≤ l.length) (hl2 : (l.length : Int) ≤ lI k c) : FSpec Tryz.prog 274 [parV k r c w, v] ⟨leafBV k c w l, []⟩ := by
 refine fspec_fzT ?_
 have hL := layout_Leaf k r c w
 simp only [hm, if_true] at hL
 have hw := may_w hm
 have hml := mayB_of.1 hm
 have hlb := l_bounds hw.1 hw.2
 have hl128 : l.length ≤ 128 := by unfold lI at hl2; omega
 have h1 := desc_may k r c w v l hv (by omega)
 obtain ⟨x, hr⟩ := hv
 have hp := hr.plain
 have g1 : ¬ ((l.length : Nat) : Int) < 1 := by omega
 have g2 : ¬ lI k c < ((l.length : Nat) : Int) := by omega
 unfold leafBV
 by_cases hok : refsOk w l = true
 · rw [if_pos hok]
   rw [hok] at h1
   have hlr : ∀ x ∈ l, (0 ≤ x.1 ∧ x.1 ≤ 1073741824) ∧ 0 ≤ x.2 ∧ x.2 ≤ 1073741824 := fun y hy => by
     have := List.all_eq_true.1 hok y hy
     unfold refB at this
     have := of_decide_eq_true this
     omega
   have ho0 : Own Mem.empty 5 1 nilS ([] : List AV).length [] := own_nil
   have t4 := desc_add Mem.empty nilS [] v l ⟨x, hr⟩ ho0 hlr (by omega) (by simp)
   have o4 := addG_own l _ _ _ ho0
   rw [List.nil_append, List.length_nil, Nat.zero_add] at o4
   have t5 := desc_wide k r c w hm _ _ _ o4 (by rw [refsB_len]; unfold wI; unfold lI at hl2; omega)
   generalize addG Mem.empty nilS [] l = G4 at *
   replace hlr := Hid.mk hlr
   replace o4 := Hid.mk o4
   replace hml := Hid.mk hml
   replace hlb := Hid.mk hlb
   simp only [intV, nilS] at t4 t5
   refine ospec_of_body follows Tryz.func274 (by unfold Tryz.f274; rfl) (by unfold Tryz.f274; simp) onceLf (by unfold Tryz.f274; simp) (by kernel_rfl) ?_; unfold Tryz.f274
   simp only [↓pre, simprocAttr, parV, sx, tys274, onceLf, bne, postU, hr.len', g1, g2, sr]
   (first | refine call_plain (hL) (by first | rfl | simp only [parV, plQ, *]) ?_ | refine call_pure (hL) (by first | rfl | simp only [parV, plQ, *]) (by intro k; first | rfl | simp only [sq, sr, *]) ?_); simp only [↓pre, simprocAttr, parV, sx, tys274, onceLf, bne, postU, hr.len', g1, g2, sr]; (first | refine call_plain (h1) (by first | rfl | simp only [parV, plQ, *]) ?_ | refine call_pure (h1) (by first | rfl | simp only [parV, plQ, *]) (by intro k; first | rfl | simp only [sq, sr, *]) ?_); simp only [↓pre, simprocAttr, parV, sx, tys274, onceLf, bne, postU, hr.len', g1, g2, sr]
   refine call_det t4 ?_
   refine contW_fixed (by kernel_rfl) ?_
   simp only [↓pre, simprocAttr, parV, sx, tys274, onceLf, bne, postU, hr.len', g1, g2, sr]
   refine call_det t5 ?_
   refine contW_fixed (by kernel_rfl) ?_
   simp only [↓pre, simprocAttr, parV, sx, tys274, onceLf, bne, postU, hr.len', g1, g2, sr]
   refine ⟨0, ?_⟩
   rw [fzT_tup, fzTs_cons, fzT_flat (by rw [push_at, if_pos rfl]), Option.bind_some, fzTs_cons, fzT_val, fzTs_nil, List.drop_zero]
   rfl
 · rw [if_neg hok]
   rw [Bool.not_eq_true] at hok
   rw [hok] at h1
   have hf := fun m => fzId_two (fzId_val (.slice none 0 0)) (fzId_val (.int .i64 150)) 1 m
   replace hf := Hid.mk hf
   refine ospec_of_body follows Tryz.func274 (by unfold Tryz.f274; rfl) (by unfold Tryz.f274; simp) onceA (by unfold Tryz.f274; simp) (by kernel_rfl) ?_; unfold Tryz.f274
   simp only [↓pre, simprocAttr, parV, sx, tys274, onceA, postU, hr.len', g1, g2, sr]
   (first | refine call_plain (hL) (by first | rfl | simp only [parV, plQ, *]) ?_ | refine call_pure (hL) (by first | rfl | simp only [parV, plQ, *]) (by intro k; first | rfl | simp only [sq, sr, *]) ?_); simp only [↓pre, simprocAttr, parV, sx, tys274, onceA, postU, hr.len', g1, g2, sr]; (first | refine call_plain (h1) (by first | rfl | simp only [parV, plQ, *]) ?_ | refine call_pure (h1) (by first | rfl | simp only [parV, plQ, *]) (by intro k; first | rfl | simp only [sq, sr, *]) ?_); simp only [↓pre, simprocAttr, parV, sx, tys274, onceA, postU, hr.len', g1, g2, sr]
   exact ⟨1, hf.out _⟩
def refsE (k c w : Int) (bs : List UInt8) (n : Int) : Int := if n < 1 ∨ lI k c < n then 20 else if refsOk w (refsOf bs n.toNat) = true ∧ leafB k c (refsOf bs n.toNat) = bs then 0 else 150
def refsV (k c w : Int) (bs : List UInt8) (n : Int) : AV := if refsE k c w bs n = 0 then .tup [treeR n.toNat (refsA (refsOf bs n.toNat)), intV 0] else .tup [nilS, intV (refsE k c w bs n)]
theorem desc_Refs (k r c w : Int) (hm : mayB k r c w = true) (v : AV) (bs : List UInt8) (x : List AV) (hv : RdSl v bs.length (bytesA bs ++ x)) (hl : (bs.length : Int) = wI k c) (n : Int) : FSpec Tryz.prog 217 [parV k r c w, v, intV n] ⟨refsV k c w bs n, []⟩ := by
 refine fspec_fzT ?_
 have hL := layout_Leaf k r c w
 have hz := desc_sized k r c w v bs.length _ hv
 simp only [hm, if_true, hl] at hL hz
 have hw := may_w hm
 have hlb := l_bounds hw.1 hw.2
 have hp := hv.plain
 unfold refsV refsE
 by_cases hn : n < 1 ∨ lI k c < n
 · rw [if_pos hn, if_neg (by decide)]
   have hf := fun m => fzId_two (fzId_val (.slice none 0 0)) (fzId_val (.int .i64 20)) 1 m
   replace hf := Hid.mk hf
   replace hlb := Hid.mk hlb
   by_cases h1 : n < 1
   · refine ospec_of_body follows Tryz.func217 (by unfold Tryz.f217; rfl) (by unfold Tryz.f217; simp) onceA (by unfold Tryz.f217; simp) (by kernel_rfl) ?_; unfold Tryz.f217
     simp only [↓pre, simprocAttr, parV, sx, tys217, onceA, postU, sr]
     (first | refine call_plain (hz) (by first | rfl | simp only [parV, plQ, *]) ?_ | refine call_pure (hz) (by first | rfl | simp only [parV, plQ, *]) (by intro k; first | rfl | simp only [sq, sr, *]) ?_); simp only [↓pre, simprocAttr, parV, sx, tys217, onceA, postU, h1, sr]; (first | refine call_plain (hL) (by first | rfl | simp only [parV, plQ, *]) ?_ | refine call_pure (hL) (by first | rfl | simp only [parV, plQ, *]) (by intro k; first | rfl | simp only [sq, sr, *]) ?_); simp only [↓pre, simprocAttr, parV, sx, tys217, onceA, postU, h1, sr]
     exact ⟨1, hf.out _⟩
   · have h2 : lI k c < n := by omega
     refine ospec_of_body follows Tryz.func217 (by unfold Tryz.f217; rfl) (by unfold Tryz.f217; simp) onceA (by unfold Tryz.f217; simp) (by kernel_rfl) ?_; unfold Tryz.f217
     simp only [↓pre, simprocAttr, parV, sx, tys217, onceA, postU, sr]
     (first | refine call_plain (hz) (by first | rfl | simp only [parV, plQ, *]) ?_ | refine call_pure (hz) (by first | rfl | simp only [parV, plQ, *]) (by intro k; first | rfl | simp only [sq, sr, *]) ?_); simp only [↓pre, simprocAttr, parV, sx, tys217, onceA, postU, h1, h2, sr]; (first | refine call_plain (hL) (by first | rfl | simp only [parV, plQ, *]) ?_ | refine call_pure (hL) (by first | rfl | simp only [parV, plQ, *]) (by intro k; first | rfl | simp only [sq, sr, *]) ?_); simp only [↓pre, simprocAttr, parV, sx, tys217, onceA, postU, h1, h2, sr]
     exact ⟨1, hf.out _⟩
 · rw [if_neg hn]
   have h1 : ¬ n < 1 := by omega
   have h2 : ¬ lI k c < n := by omega
   obtain ⟨N, hN⟩ : ∃ N : Nat, n = (N : Int) := ⟨n.toNat, by omega⟩
   subst hN
   rw [Int.toNat_natCast]
   have h6 : 6 * N ≤ bs.length := by unfold wI at hl; unfold lI at h2; omega
   have c4 := desc_read v bs x N hv h6 (by unfold wI at hl; omega)
   have hpl : (refsOf bs N).length = N := refsOf_len _ _
   have hrd := treeR_rd N (refsA (refsOf bs N))
   have c5 := desc_Leaf k r c w hm (treeR N (refsA (refsOf bs N))) (refsOf bs N) ⟨[], by rw [List.append_nil, hpl]; exact hrd⟩ (by omega) (by rw [hpl]; omega)
   have hll : (leafB k c (refsOf bs N)).length = (wI k c).toNat := by
     unfold leafB
     refine padB_len ?_
     rw [refsB_len, hpl]
     omega
   have c6 := bytes_Equal (.tree (wI k c).toNat (wI k c).toNat (bytesA (leafB k c (refsOf bs N))) true) v (leafB k c (refsOf bs N)) bs [] x ⟨.inr (.inr ⟨_, true, by rw [hll, List.append_nil], by rw [hll]; exact Nat.le_refl _⟩)⟩ hv
   have hfin := fun m => fzId_two (fzId_rd hrd) (fzId_val (.int .i64 0)) 1 m
   have hf := fun m => fzId_two (fzId_val (.slice none 0 0)) (fzId_val (.int .i64 150)) 1 m
   unfold leafBV at c5
   have pt := hrd.plain
   have st := rd_shift hrd
   generalize treeR N (refsA (refsOf bs N)) = TR at *
   generalize leafB k c (refsOf bs N) = LB at *
   replace hfin := Hid.mk hfin
   replace hf := Hid.mk hf
   replace hpl := Hid.mk hpl
   replace hrd := Hid.mk hrd
   replace hlb := Hid.mk hlb
   replace hn := Hid.mk hn
   by_cases hok : refsOk w (refsOf bs N) = true
   · rw [if_pos hok] at c5
     by_cases heq : LB = bs
     · rw [show (if refsOk w (refsOf bs N) = true ∧ LB = bs then (0 : Int) else 150) = 0 from if_pos ⟨hok, heq⟩, if_pos rfl]
       rw [decide_eq_true heq] at c6
       replace hok := Hid.mk hok
       replace heq := Hid.mk heq
       refine ospec_of_body follows Tryz.func217 (by unfold Tryz.f217; rfl) (by unfold Tryz.f217; simp) onceA (by unfold Tryz.f217; simp) (by kernel_rfl) ?_; unfold Tryz.f217
       simp only [↓pre, simprocAttr, parV, sx, tys217, onceA, postU, sr]
       (first | refine call_plain (hz) (by first | rfl | simp only [parV, plQ, *]) ?_ | refine call_pure (hz) (by first | rfl | simp only [parV, plQ, *]) (by intro k; first | rfl | simp only [sq, sr, *]) ?_); simp only [↓pre, simprocAttr, parV, sx, tys217, onceA, postU, h1, h2, st, sr]; (first | refine call_plain (hL) (by first | rfl | simp only [parV, plQ, *]) ?_ | refine call_pure (hL) (by first | rfl | simp only [parV, plQ, *]) (by intro k; first | rfl | simp only [sq, sr, *]) ?_); simp only [↓pre, simprocAttr, parV, sx, tys217, onceA, postU, h1, h2, st, sr]; (first | refine call_plain (c4) (by first | rfl | simp only [parV, plQ, *]) ?_ | refine call_pure (c4) (by first | rfl | simp only [parV, plQ, *]) (by intro k; first | rfl | simp only [sq, sr, *]) ?_); simp only [↓pre, simprocAttr, parV, sx, tys217, onceA, postU, h1, h2, st, sr]; (first | refine call_plain (c5) (by first | rfl | simp only [parV, plQ, *]) ?_ | refine call_pure (c5) (by first | rfl | simp only [parV, plQ, *]) (by intro k; first | rfl | simp only [sq, sr, *]) ?_); simp only [↓pre, simprocAttr, parV, sx, tys217, onceA, postU, h1, h2, st, sr]; (first | refine call_plain (c6) (by first | rfl | simp only [parV, plQ, *]) ?_ | refine call_pure (c6) (by first | rfl | simp only [parV, plQ, *]) (by intro k; first | rfl | simp only [sq, sr, *]) ?_); simp only [↓pre, simprocAttr, parV, sx, tys217, onceA, postU, h1, h2, st, sr]
       exact ⟨1, hfin.out _⟩
     · rw [show (if refsOk w (refsOf bs N) = true ∧ LB = bs then (0 : Int) else 150) = 150 from if_neg (fun h => heq h.2), if_neg (by decide)]
       rw [decide_eq_false heq] at c6
       replace hok := Hid.mk hok
       replace heq := Hid.mk heq
       refine ospec_of_body follows Tryz.func217 (by unfold Tryz.f217; rfl) (by unfold Tryz.f217; simp) onceA (by unfold Tryz.f217; simp) (by kernel_rfl) ?_; unfold Tryz.f217
       simp only [↓pre, simprocAttr, parV, sx, tys217, onceA, postU, sr]
       (first | refine call_plain (hz) (by first | rfl | simp only [parV, plQ, *]) ?_ | refine call_pure (hz) (by first | rfl | simp only [parV, plQ, *]) (by intro k; first | rfl | simp only [sq, sr, *]) ?_); simp only [↓pre, simprocAttr, parV, sx, tys217, onceA, postU, h1, h2, st, sr]; (first | refine call_plain (hL) (by first | rfl | simp only [parV, plQ, *]) ?_ | refine call_pure (hL) (by first | rfl | simp only [parV, plQ, *]) (by intro k; first | rfl | simp only [sq, sr, *]) ?_); simp only [↓pre, simprocAttr, parV, sx, tys217, onceA, postU, h1, h2, st, sr]; (first | refine call_plain (c4) (by first | rfl | simp only [parV, plQ, *]) ?_ | refine call_pure (c4) (by first | rfl | simp only [parV, plQ, *]) (by intro k; first | rfl | simp only [sq, sr, *]) ?_); simp only [↓pre, simprocAttr, parV, sx, tys217, onceA, postU, h1, h2, st, sr]; (first | refine call_plain (c5) (by first | rfl | simp only [parV, plQ, *]) ?_ | refine call_pure (c5) (by first | rfl | simp only [parV, plQ, *]) (by intro k; first | rfl | simp only [sq, sr, *]) ?_); simp only [↓pre, simprocAttr, parV, sx, tys217, onceA, postU, h1, h2, st, sr]; (first | refine call_plain (c6) (by first | rfl | simp only [parV, plQ, *]) ?_ | refine call_pure (c6) (by first | rfl | simp only [parV, plQ, *]) (by intro k; first | rfl | simp only [sq, sr, *]) ?_); simp only [↓pre, simprocAttr, parV, sx, tys217, onceA, postU, h1, h2, st, sr]
       exact ⟨1, hf.out _⟩
   · rw [if_neg hok] at c5
     rw [show (if refsOk w (refsOf bs N) = true ∧ LB = bs then (0 : Int) else 150) = 150 from if_neg (fun h => hok h.1), if_neg (by decide)]
     replace hok := Hid.mk hok
     simp only [nilS] at c5
     refine ospec_of_body follows Tryz.func217 (by unfold Tryz.f217; rfl) (by unfold Tryz.f217; simp) onceA (by unfold Tryz.f217; simp) (by kernel_rfl) ?_; unfold Tryz.f217
     simp only [↓pre, simprocAttr, parV, sx, tys217, onceA, postU, sr]
     (first | refine call_plain (hz) (by first | rfl | simp only [parV, plQ, *]) ?_ | refine call_pure (hz) (by first | rfl | simp only [parV, plQ, *]) (by intro k; first | rfl | simp only [sq, sr, *]) ?_); simp only [↓pre, simprocAttr, parV, sx, tys217, onceA, postU, h1, h2, st, sr]; (first | refine call_plain (hL) (by first | rfl | simp only [parV, plQ, *]) ?_ | refine call_pure (hL) (by first | rfl | simp only [parV, plQ, *]) (by intro k; first | rfl | simp only [sq, sr, *]) ?_); simp only [↓pre, simprocAttr, parV, sx, tys217, onceA, postU, h1, h2, st, sr]; (first | refine call_plain (c4) (by first | rfl | simp only [parV, plQ, *]) ?_ | refine call_pure (c4) (by first | rfl | simp only [parV, plQ, *]) (by intro k; first | rfl | simp only [sq, sr, *]) ?_); simp only [↓pre, simprocAttr, parV, sx, tys217, onceA, postU, h1, h2, st, sr]; (first | refine call_plain (c5) (by first | rfl | simp only [parV, plQ, *]) ?_ | refine call_pure (c5) (by first | rfl | simp only [parV, plQ, *]) (by intro k; first | rfl | simp only [sq, sr, *]) ?_); simp only [↓pre, simprocAttr, parV, sx, tys217, onceA, postU, h1, h2, st, sr]
     exact ⟨1, hf.out _⟩
theorem clone_refs (l : List RefI) (hl : l.length ≤ 1000000) : FSpec Tryz.prog 132 [treeR l.length (refsA l)] ⟨treeR l.length (refsA l), []⟩ := by
 refine fspec_fzT ?_
 by_cases h0 : l.length = 0
 · have e : treeR l.length (refsA l) = nilS := by unfold treeR; rw [if_pos h0]
   rw [e]
   refine ospec_of_body follows Tryz.func132 (by unfold Tryz.f132; rfl) (by unfold Tryz.f132; simp) onceA (by unfold Tryz.f132; simp) (by kernel_rfl) ?_; unfold Tryz.f132
   have hn : ∀ x y, binE Tryz.prog .eql 31 x y nilS (.val (.slice none 0 0)) = some (boolV true) := fun x y => by
     have : elE Tryz.prog 31 = some 67 := by kernel_rfl
     rfl
   unfold nilS at *
   simp only [↓pre, simprocAttr, parV, sx, tys132, onceA, postU, postV, hn, sr]
   exact ⟨0, fzT_val⟩
 · have e : treeR l.length (refsA l) = .tree l.length l.length (refsA l) false := by unfold treeR; rw [if_neg h0]
   rw [e]
   have hn : ∀ x y, binE Tryz.prog .eql 31 x y (.tree l.length l.length (refsA l) false) (.val (.slice none 0 0)) = some (boolV false) := fun x y => by
     have : elE Tryz.prog 31 = some 67 := by kernel_rfl
     simp [binE, this, isNil, boolV]
   have hbt : ∀ m, buildTreeE Tryz.prog m 31 0 [] = some ⟨.tree 0 0 [] true, m, none⟩ := fun m => buildT_of (el := 67) (sz := 2) (z := []) (by kernel_rfl) (by kernel_rfl) (by kernel_rfl) rfl rfl (by decide)
   have hap : ∀ m, appE Tryz.prog 67 m (.tree 0 0 [] true) (.tree l.length l.length (refsA l) false) = some ⟨.sl m.next 0 l.length l.length false, m.push ⟨refsA l, 67, .flat, true⟩, none⟩ := fun m => by
     have h1 : szE Tryz.prog 67 = some 2 := by kernel_rfl
     have h2 : byE Tryz.prog 67 = some 16 := by kernel_rfl
     have h3 : zeroE Tryz.prog 67 = some [.int .i64 0, .int .i64 0] := by kernel_rfl
     have h4 : kindT Tryz.prog 67 = .flat := by kernel_rfl
     have h5 := src_tree (P := Tryz.prog) (m := m) (el := 67) (sz := 2) (n := l.length) (c := l.length) (cs := refsA l) (f := false) (by rw [refsA_len]; omega)
     rw [List.take_of_length_le (by rw [refsA_len]; omega)] at h5
     simp only [appE, h1, h2, h3, h4, h5, slView, Option.bind_some]
     rw [if_pos ⟨by omega, by omega, rfl⟩]
     simp [h0, outV]
   replace e := Hid.mk e
   refine ospec_of_body follows Tryz.func132 (by unfold Tryz.f132; rfl) (by unfold Tryz.f132; simp) onceA (by unfold Tryz.f132; simp) (by kernel_rfl) ?_; unfold Tryz.f132
   simp only [↓pre, simprocAttr, parV, sx, tys132, onceA, postU, postV, hn, hbt, hap, sr]
   exact ⟨0, by rw [fzT_flat (by rw [push_at, if_pos rfl]), List.drop_zero]⟩
def leafD (k r c w : Int) (L : List (List UInt8)) (x : RefI) : List UInt8 := dataL k r c w (rowL k r w L x.1) 1 x.2 k.toNat
def leafE (k r c w : Int) (L : List (List UInt8)) (x : RefI) (n : Int) : Int := if manyN k r c w (rowL k r w L x.1) 1 x.2 < k.toNat then 5 else refsE k c w (leafD k r c w L x) n
def leafR (k r c w : Int) (L : List (List UInt8)) (x : RefI) (n : Int) : List RefI := refsOf (leafD k r c w L x) n.toNat
def leafV (k r c w : Int) (L : List (List UInt8)) (x : RefI) (n : Int) : AV := if leafE k r c w L x n = 0 then .tup [treeR n.toNat (refsA (leafR k r c w L x n)), intV 0] else .tup [nilS, intV (leafE k r c w L x n)]
theorem ref_parts {w : Int} {x : RefI} (h : refB w x = true) : (0 ≤ x.1 ∧ x.1 < w) ∧ 1 ≤ x.2 ∧ x.2 ≤ 1073741824 := by
 unfold refB at h
 exact of_decide_eq_true h
theorem rowE_ok {k r c w : Int} {L : List (List UInt8)} {row : Int} (hE : imE k r c w L = 0) (h : 0 ≤ row ∧ row < w) : rowE k r c w L row = 0 := by
 unfold rowE
 rw [if_pos hE, if_neg (by omega)]
theorem tree_leaf (k r c w : Int) (v : AV) (L : List (List UInt8)) (cells : List AV) (hv : RowsV v L cells) (hE : imE k r c w L = 0) (x : RefI) (hx : refB w x = true) (n : Int) : FSpec Tryz.prog 134 [imV k r c w v, .agg [intV x.1, intV x.2], intV n] ⟨leafV k r c w L x n, []⟩ := by
 refine fspec_fzT ?_
 obtain ⟨hx1, hx2⟩ := ref_parts hx
 have hp := hv.rd.plain
 have hf := rd_fz hv.rd
 have ho := rd_one hv.rd
 have hr := image_Row k r c w x.1 v L cells hv
 have hR0 := rowE_ok hE hx1
 unfold rowVal at hr
 rw [if_pos hR0] at hr
 obtain ⟨hrb, hm⟩ := row_rowB hR0
 have hmn := may_n hm
 have hrv := row_rowV k r c w L x.1 (by omega)
 have hsr := stripe_Read k r c w 1 x.2 _ _ _ hrv hm hrb (.inl rfl) (by unfold verB; exact decide_eq_true hx2)
 have pr := hrv.rd.plain
 have sr' := rd_shift hrv.rd
 unfold leafV leafE leafR leafD
 unfold sreadV at hsr
 unfold imV at hr ⊢
 generalize treeR (k + r).toNat (prA (rowL k r w L x.1)) = RV at *
 generalize rowL k r w L x.1 = ps at *
 by_cases hlt : manyN k r c w ps 1 x.2 < k.toNat
 · rw [if_pos hlt] at hsr
   rw [if_pos hlt, if_neg (by decide)]
   have hz := fun m => fzId_two (fzId_val (.slice none 0 0)) (fzId_val (.int .i64 5)) 1 m
   simp only [nilS] at hsr
   replace hz := Hid.mk hz
   replace hrv := Hid.mk hrv
   replace hmn := Hid.mk hmn
   replace hlt := Hid.mk hlt
   replace hR0 := Hid.mk hR0
   refine ospec_of_body follows Tryz.func134 (by unfold Tryz.f134; rfl) (by unfold Tryz.f134; simp) onceA (by unfold Tryz.f134; simp) (by kernel_rfl) ?_; unfold Tryz.f134
   simp only [↓pre, simprocAttr, parV, sx, tys134, onceA, postU, hf, ho, sr', sr]
   (first | refine call_plain (hr) (by first | rfl | simp only [parV, plQ, *]) ?_ | refine call_pure (hr) (by first | rfl | simp only [parV, plQ, *]) (by intro k; first | rfl | simp only [sq, sr, *]) ?_); simp only [↓pre, simprocAttr, parV, sx, tys134, onceA, postU, hf, ho, sr', sr]; (first | refine call_plain (hsr) (by first | rfl | simp only [parV, plQ, *]) ?_ | refine call_pure (hsr) (by first | rfl | simp only [parV, plQ, *]) (by intro k; first | rfl | simp only [sq, sr, *]) ?_); simp only [↓pre, simprocAttr, parV, sx, tys134, onceA, postU, hf, ho, sr', sr]
   exact ⟨1, hz.out _⟩
 · rw [if_neg hlt] at hsr
   rw [if_neg hlt]
   have hdl := dataL_len k r c w ps 1 x.2 k.toNat
   have hwc : ((k.toNat * c.toNat : Nat) : Int) = wI k c := by unfold wI; rw [Int.natCast_mul, Int.toNat_of_nonneg (by omega), Int.toNat_of_nonneg (by omega)]
   have hdr := treeR_rd (k.toNat * c.toNat) (bytesA (dataL k r c w ps 1 x.2 k.toNat))
   have hre := desc_Refs k r c w hm (treeR (k.toNat * c.toNat) (bytesA (dataL k r c w ps 1 x.2 k.toNat))) (dataL k r c w ps 1 x.2 k.toNat) [] (by rw [List.append_nil, hdl]; exact hdr) (by rw [hdl]; exact hwc) n
   have pd := hdr.plain
   have sd := rd_shift hdr
   unfold refsV at hre
   generalize dataL k r c w ps 1 x.2 k.toNat = D at *
   generalize treeR (k.toNat * c.toNat) (bytesA D) = DV at *
   replace hrv := Hid.mk hrv
   replace hdr := Hid.mk hdr
   replace hmn := Hid.mk hmn
   replace hlt := Hid.mk hlt
   replace hR0 := Hid.mk hR0
   by_cases h0 : refsE k c w D n = 0
   · rw [if_pos h0] at hre ⊢
     have hrt := treeR_rd n.toNat (refsA (refsOf D n.toNat))
     have hz := fun m => fzId_two (fzId_rd hrt) (fzId_val (.int .i64 0)) 1 m
     have st := rd_shift hrt
     generalize treeR n.toNat (refsA (refsOf D n.toNat)) = TR at *
     replace hz := Hid.mk hz
     replace h0 := Hid.mk h0
     replace hrt := Hid.mk hrt
     refine ospec_of_body follows Tryz.func134 (by unfold Tryz.f134; rfl) (by unfold Tryz.f134; simp) onceA (by unfold Tryz.f134; simp) (by kernel_rfl) ?_; unfold Tryz.f134
     simp only [↓pre, simprocAttr, parV, sx, tys134, onceA, postU, hf, ho, sr', sr]
     (first | refine call_plain (hr) (by first | rfl | simp only [parV, plQ, *]) ?_ | refine call_pure (hr) (by first | rfl | simp only [parV, plQ, *]) (by intro k; first | rfl | simp only [sq, sr, *]) ?_); simp only [↓pre, simprocAttr, parV, sx, tys134, onceA, postU, hf, ho, sr', sd, st, sr]; (first | refine call_plain (hsr) (by first | rfl | simp only [parV, plQ, *]) ?_ | refine call_pure (hsr) (by first | rfl | simp only [parV, plQ, *]) (by intro k; first | rfl | simp only [sq, sr, *]) ?_); simp only [↓pre, simprocAttr, parV, sx, tys134, onceA, postU, hf, ho, sr', sd, st, sr]; (first | refine call_plain (hre) (by first | rfl | simp only [parV, plQ, *]) ?_ | refine call_pure (hre) (by first | rfl | simp only [parV, plQ, *]) (by intro k; first | rfl | simp only [sq, sr, *]) ?_); simp only [↓pre, simprocAttr, parV, sx, tys134, onceA, postU, hf, ho, sr', sd, st, sr]
     exact ⟨1, hz.out _⟩
   · rw [if_neg h0] at hre ⊢
     have hz := fun m => fzId_two (fzId_val (.slice none 0 0)) (fzId_val (.int .i64 (refsE k c w D n))) 1 m
     generalize refsE k c w D n = E at *
     simp only [nilS] at hre
     replace hz := Hid.mk hz
     refine ospec_of_body follows Tryz.func134 (by unfold Tryz.f134; rfl) (by unfold Tryz.f134; simp) onceA (by unfold Tryz.f134; simp) (by kernel_rfl) ?_; unfold Tryz.f134
     simp only [↓pre, simprocAttr, parV, sx, tys134, onceA, postU, hf, ho, sr', sr]
     (first | refine call_plain (hr) (by first | rfl | simp only [parV, plQ, *]) ?_ | refine call_pure (hr) (by first | rfl | simp only [parV, plQ, *]) (by intro k; first | rfl | simp only [sq, sr, *]) ?_); simp only [↓pre, simprocAttr, parV, sx, tys134, onceA, postU, hf, ho, sr', sd, sr]; (first | refine call_plain (hsr) (by first | rfl | simp only [parV, plQ, *]) ?_ | refine call_pure (hsr) (by first | rfl | simp only [parV, plQ, *]) (by intro k; first | rfl | simp only [sq, sr, *]) ?_); simp only [↓pre, simprocAttr, parV, sx, tys134, onceA, postU, hf, ho, sr', sd, sr]; (first | refine call_plain (hre) (by first | rfl | simp only [parV, plQ, *]) ?_ | refine call_pure (hre) (by first | rfl | simp only [parV, plQ, *]) (by intro k; first | rfl | simp only [sq, sr, *]) ?_); simp only [↓pre, simprocAttr, parV, sx, tys134, onceA, postU, hf, ho, sr', sd, sr]
     exact ⟨1, hz.out _⟩
end Go.Proofs.YtaekhhlgnbhnpaaGreat
set_option linter.unusedVariables false
set_option linter.unusedSimpArgs false
set_option maxRecDepth 10000
namespace Go.Tw
open Go
theorem DSpec.mono {P : Program} {f : FuncId} {args : List AV} {m : Mem} {Q Q' : AV → Mem → Prop} (h : DSpec P f args m Q) (hq : ∀ r m', Q r m' → Q' r m') : DSpec P f args m Q' :=
 ⟨h.1, fun w I ρ vs a b c d => (h.2 w I ρ vs a b c d).mono fun en u w' ⟨h0, v, r, m', I', ρ', h1, h2, h3⟩ => ⟨h0, v, r, m', I', ρ', h1, hq _ _ h2, h3⟩⟩
section
variable {v : Value} {cs : List AV} {a b c d : Nat} {f : Bool} {k : IntKind} {n : Int}
theorem cells_val : (AV.val v).cells = [.val v] := rfl
theorem cells_agg : (AV.agg cs).cells = cs := rfl
theorem cells_sl : (AV.sl a b c d f).cells = [.sl a b c d f] := rfl
theorem cells_tree : (AV.tree a b cs f).cells = [.tree a b cs f] := rfl
theorem okA_agg : okA (.agg cs) = true := rfl
theorem okA_int : okA (.val (.int k n)) = true := rfl
theorem okA_bool : okA (.val (.bool f)) = true := rfl
theorem okA_nil : okA (.val (.slice none 0 0)) = true := rfl
theorem okA_sl : okA (.sl a b c d f) = true := rfl
theorem okA_tree : okA (.tree a b cs f) = true := rfl
end
theorem cellsR : (type_of% @cells_val) ∧ (type_of% @cells_agg) ∧ (type_of% @cells_sl) ∧ (type_of% @cells_tree) ∧ (type_of% @okA_agg) ∧ (type_of% @okA_int) ∧ (type_of% @okA_bool) ∧ (type_of% @okA_nil) ∧ (type_of% @okA_sl) ∧ (type_of% @okA_tree) := ⟨@cells_val, @cells_agg, @cells_sl, @cells_tree, @okA_agg, @okA_int, @okA_bool, @okA_nil, @okA_sl, @okA_tree⟩
end Go.Tw
namespace Go.Proofs.YtaekhhlgnbhnpaaGreat
open Go Go.Tw Go.Proofs Go.Gf
structure ObB (m : Mem) (d0 d1 d2 ve lv sv : AV) (E : Int) : Prop where
 d : m.at_ 0 = some ⟨[d0, d1, d2], 33, .var, true⟩
 v : m.at_ 1 = some ⟨[ve], 3, .var, true⟩
 l : m.at_ 2 = some ⟨[lv], 31, .var, true⟩
 s : m.at_ 3 = some ⟨[sv], 31, .var, true⟩
 e : m.at_ 4 = some ⟨[intV E], 28, .var, true⟩
theorem obj_ok (m : Mem) {d0 d1 d2 ve lv sv : AV} (h : ObB m d0 d1 d2 ve lv sv 0) : DSpec Tryz.prog 131 [.ptr 4 0, .ptr 0 0, .ptr 1 0, .ptr 2 0, .ptr 3 0] m fun _ m' => m' = m := by
 have he := h.e
 refine dspec_of_body follows Tryz.func131 (by unfold Tryz.f131; rfl) (by unfold Tryz.f131; simp) onceA (by unfold Tryz.f131; simp) (by kernel_rfl) ?_; unfold Tryz.f131
 simp only [↓pre, simprocAttr, parV, sx, tys131, onceA, postU, he]
theorem obj_err (m : Mem) {d0 d1 d2 ve lv sv : AV} {E : Int} (h0 : E ≠ 0) (h : ObB m d0 d1 d2 ve lv sv E) : DSpec Tryz.prog 131 [.ptr 4 0, .ptr 0 0, .ptr 1 0, .ptr 2 0, .ptr 3 0] m fun _ m' => ObB m' (intV 0) (intV 0) nilS (intV 0) nilS nilS E := by
 obtain ⟨hd, hv, hl, hs, he⟩ := h
 refine dspec_of_body follows Tryz.func131 (by unfold Tryz.f131; rfl) (by unfold Tryz.f131; simp) onceA (by unfold Tryz.f131; simp) (by kernel_rfl) ?_; unfold Tryz.f131
 simp only [↓pre, simprocAttr, parV, sx, tys131, onceA, postU, storeE, put_at, hd, hv, hl, hs, he, h0, Nat.one_ne_zero]
 refine ⟨?_, ?_, ?_, ?_, ?_⟩ <;> simp [put_at, hd, hv, hl, hs, he, nilS, intV]
def leavesE (k r c w : Int) (L : List (List UInt8)) : List RefI → Int → Int
 | [], _ => 0
 | x :: xs, n => if leafE k r c w L x (min n (lI k c)) = 0 then leavesE k r c w L xs (n - min n (lI k c)) else leafE k r c w L x (min n (lI k c))
def leavesR (k r c w : Int) (L : List (List UInt8)) : List RefI → Int → List RefI
 | [], _ => []
 | x :: xs, n => leafR k r c w L x (min n (lI k c)) ++ leavesR k r c w L xs (n - min n (lI k c))
theorem leafR_len (k r c w : Int) (L : List (List UInt8)) (x : RefI) (n : Int) : (leafR k r c w L x n).length = n.toNat := refsOf_len _ _
theorem leaf_ok {k r c w : Int} {L : List (List UInt8)} {x : RefI} {n : Int} (h : leafE k r c w L x n = 0) : 1 ≤ n ∧ n ≤ lI k c := by
 unfold leafE at h
 split at h
 · omega
 · unfold refsE at h
   split at h
   · omega
   · omega
def objD (k r c w : Int) (L : List (List UInt8)) (row : Int) : List UInt8 := comD k r c w (rowL k r w L row)
def objE (k r c w : Int) (L : List (List UInt8)) (row : Int) : Int := if rowE k r c w L row = 0 then (if comE k r c w (rowL k r w L row) = 0 then (if pDep (objD k r c w L row) = 0 then 0 else leavesE k r c w L (pRefs (objD k r c w L row)) (oS k r c w (pLen (objD k r c w L row)))) else comE k r c w (rowL k r w L row)) else rowE k r c w L row
def objL (k r c w : Int) (L : List (List UInt8)) (row : Int) : List RefI := if pDep (objD k r c w L row) = 0 then [] else pRefs (objD k r c w L row)
def objS (k r c w : Int) (L : List (List UInt8)) (row : Int) : List RefI := if pDep (objD k r c w L row) = 0 then pRefs (objD k r c w L row) else leavesR k r c w L (pRefs (objD k r c w L row)) (oS k r c w (pLen (objD k r c w L row)))
def refsT (l : List RefI) : AV := treeR l.length (refsA l)
def objV (k r c w : Int) (L : List (List UInt8)) (row : Int) : AV := if objE k r c w L row = 0 then .tup [descA (pLen (objD k r c w L row)) (pDep (objD k r c w L row)) (pRefs (objD k r c w L row)), intV (winI k r c w (rowL k r w L row)), refsT (objL k r c w L row), refsT (objS k r c w L row), intV 0] else .tup [desc0, intV 0, nilS, nilS, intV (objE k r c w L row)]
theorem fzId_five {a b c d e : AV} (ha : fzId a) (hb : fzId b) (hc : fzId c) (hd : fzId d) (he : fzId e) : fzId (.tup [a, b, c, d, e]) := fzId_tup fun x hx => by
 simp only [List.mem_cons, List.not_mem_nil, or_false] at hx
 rcases hx with rfl | rfl | rfl | rfl | rfl <;> assumption
theorem desc0_fz : fzId desc0 := fzId_agg fun c hc => by
 simp only [List.mem_cons, List.not_mem_nil, or_false] at hc
 rcases hc with rfl | rfl | rfl <;> exact fzId_val _
theorem com_chk {k r c w : Int} {ps : List PairB} (h : comE k r c w ps = 0) : chkI k r c w ps = 0 ∧ winI k r c w ps ≠ 0 ∧ ¬ manyN k r c w ps 2 (winI k r c w ps) < k.toNat ∧ parseE k r c w (comD k r c w ps) = 0 := by
 unfold comE at h
 split at h
 · rename_i hc
   split at h
   · contradiction
   · rename_i h1
     split at h
     · contradiction
     · rename_i h2
       exact ⟨hc, h1, h2, h⟩
 · contradiction
theorem com_desc {k r c w : Int} {ps : List PairB} (h : comE k r c w ps = 0) : chkD k r c w (pLen (comD k r c w ps)) (pDep (comD k r c w ps)) (pRefs (comD k r c w ps)) = 0 := by
 obtain ⟨hc, _, _, h3⟩ := com_chk h
 unfold parseE at h3
 split at h3
 · split at h3
   · split at h3
     · rename_i h4
       unfold parseOk at h4
       rw [Bool.and_eq_true, Bool.and_eq_true, decide_eq_true_eq, decide_eq_true_eq] at h4
       exact h4.2.1
     · contradiction
   · contradiction
 · contradiction
theorem desc_oE {k r c w len dep : Int} {l : List RefI} (h : chkD k r c w len dep l = 0) : oE k r c w len = 0 ∧ dep = min (oF k r c w len) 1 ∧ (l.length : Int) = if dep = 0 then oS k r c w len else oF k r c w len := by
 obtain ⟨hm, hd⟩ := desc_fit h
 unfold descOk at hd
 simp only [Bool.and_eq_true, decide_eq_true_eq] at hd
 obtain ⟨h1, h2, h3, h4⟩ := hd
 have hF := oF_nn (r := r) (w := w) (n := len) hm
 refine ⟨h1, by omega, ?_⟩
 rw [h3]
 by_cases hd0 : dep = 0
 · rw [if_neg (by omega), if_pos hd0]
 · rw [if_pos (by omega), if_neg hd0]
end Go.Proofs.YtaekhhlgnbhnpaaGreat
namespace Go.Proofs.YtaekhhlgnbhnpaaGreat
open Go Go.Tw Go.Proofs Go.Gf
abbrev obR : List ResultVar := [.cell 4 33, .cell 5 3, .cell 6 31, .cell 7 31, .cell 8 28]
abbrev obC : List AV := [.ptr 4 0, .ptr 0 0, .ptr 1 0, .ptr 2 0, .ptr 3 0]
structure ObE (e : Env) : Prop where
 a : e 4 = .ptr 0 0
 b : e 5 = .ptr 1 0
 c : e 6 = .ptr 2 0
 d : e 7 = .ptr 3 0
 e : e 8 = .ptr 4 0
theorem obj_res {m : Mem} {e : Env} {d0 d1 d2 ve lv sv : AV} {E : Int} (h : ObB m d0 d1 d2 ve lv sv E) (he : ObE e) : resultsE Tryz.prog obR e m = some (.tup [.agg [d0, d1, d2], ve, lv, sv, intV E]) := by
 obtain ⟨hd, hv, hl, hs, h4⟩ := h
 obtain ⟨ea, eb, ec, ed, ee⟩ := he
 simp only [resultsE, resEs, resE, loadE, ea, eb, ec, ed, ee, hd, hv, hl, hs, h4, Option.bind_some, if_neg (show ¬ Kind.var = Kind.hole by decide), partE, show aggE Tryz.prog 33 = some true by kernel_rfl, show szE Tryz.prog 33 = some 3 by kernel_rfl, show aggE Tryz.prog 3 = some false by kernel_rfl, show aggE Tryz.prog 31 = some false by kernel_rfl, show aggE Tryz.prog 28 = some false by kernel_rfl]
 rfl
theorem obj_endE {m : Mem} {e : Env} {d0 d1 d2 ve lv sv : AV} {E : Int} (h0 : E ≠ 0) (h : ObB m d0 d1 d2 ve lv sv E) (he : ObE e) : endD Tryz.prog obR 131 obC (fun v m => ∃ k, fzT k m v = some (.tup [desc0, intV 0, nilS, nilS, intV E])) .ret e m :=
 (obj_err m h0 h).mono fun _ m' h' => by
   rw [obj_res h' he]
   exact ⟨1, fzId_five desc0_fz (fzId_val _) (fzId_val _) (fzId_val _) (fzId_val _) 1 m'⟩
theorem obj_endO {m : Mem} {e : Env} {len dep W : Int} {DV lv sv LT ST : AV} {n : Nat} {cs : List AV} (hD : RdSl DV n cs) (h : ObB m (intV len) (intV dep) DV (intV W) lv sv 0) (hl : fzT 1 m lv = some LT) (hs : fzT 1 m sv = some ST) (he : ObE e) : endD Tryz.prog obR 131 obC (fun v m => ∃ k, fzT k m v = some (.tup [.agg [intV len, intV dep, DV], intV W, LT, ST, intV 0])) .ret e m :=
 (obj_ok m h).mono fun _ m' h' => by
   subst h'
   rw [obj_res h he]
   refine ⟨1, ?_⟩
   have h1 : fzT 1 m' (.agg [intV len, intV dep, DV]) = some (.agg [intV len, intV dep, DV]) := fzId_agg (fun c hc => by
     simp only [List.mem_cons, List.not_mem_nil, or_false] at hc
     rcases hc with rfl | rfl | rfl
     · exact fzId_val _
     · exact fzId_val _
     · exact fzId_rd hD) 1 m'
   simp only [intV] at h1 ⊢
   simp only [fzT_tup, fzTs_cons, h1, hl, hs, Option.bind_some, fzT_val, fzTs_nil, Option.map_some]
def onceOb : Nat → Bool := fun d => d != 4 && d != 5 && d != 6 && d != 7 && d != 8
theorem tree_Object (k r c w row : Int) (v : AV) (L : List (List UInt8)) (cells : List AV) (hv : RowsV v L cells) : FSpec Tryz.prog 59 [imV k r c w v, intV row] ⟨objV k r c w L row, []⟩ := by
 refine fspec_fzT ?_
 have hp := hv.rd.plain
 have hf := rd_fz hv.rd
 have ho := rd_one hv.rd
 have hck := image_Check k r c w v L cells hv
 have hrw := image_Row k r c w row v L cells hv
 unfold objV objE
 unfold imV at hck hrw ⊢
 unfold rowVal at hrw
 have hz3 : zeroE Tryz.prog 33 = some [.int .i64 0, .int .i64 0, .slice none 0 0] := by kernel_rfl
 by_cases hR : rowE k r c w L row = 0
 · rw [if_pos hR] at hrw ⊢
   obtain ⟨hrb, hm⟩ := row_rowB hR
   have hE : imE k r c w L = 0 := by
     unfold rowE at hR
     split at hR
     · assumption
     · assumption
   have hrow : ¬ row < 0 ∧ ¬ w ≤ row := by
     unfold rowE at hR
     rw [if_pos hE] at hR
     split at hR
     · omega
     · omega
   obtain ⟨h1, h2⟩ := hrow
   rw [hE] at hck
   have hmn := may_n hm
   have hrv := row_rowV k r c w L row (by omega)
   have hcr := commit_Read k r c w _ _ _ hrv
   have hpr := hrv.rd.plain
   have hsr := rd_shift hrv.rd
   have hoR := rd_one hrv.rd
   unfold objL objS objD
   generalize treeR (k + r).toNat (prA (rowL k r w L row)) = RV at *
   generalize rowL k r w L row = ps at *
   unfold comV at hcr
   refine ospec_of_defer follows Tryz.func59 (by unfold Tryz.f59; rfl) (by unfold Tryz.f59; simp) onceOb (by unfold Tryz.f59; simp) (by kernel_rfl) (by kernel_rfl) (by unfold Tryz.f59; decide) (by kernel_rfl) ?_
   unfold deferW Tryz.f59
   by_cases hC : comE k r c w ps = 0
   · rw [if_pos hC] at hcr ⊢
     have hD := com_desc hC
     obtain ⟨hl0, hl1, hdep, hll, hlr⟩ := desc_bounds hD
     obtain ⟨hoE, hdF, hlc⟩ := desc_oE hD
     have hRr := treeR_rd (pRefs (comD k r c w ps)).length (refsA (pRefs (comD k r c w ps)))
     have hw := may_w hm
     have hdb := d_bounds hw.1 hw.2
     have hcl := clone_refs (pRefs (comD k r c w ps)) (by unfold dI at hll; omega)
     have hst := layout_stripes k r c w (pLen (comD k r c w ps))
     have hlf := layout_Leaf k r c w
     simp only [hm, if_true] at hlf
     rw [hoE] at hst
     unfold descA at hcr ⊢
     unfold refsT
     generalize winI k r c w ps = W at *
     generalize pDep (comD k r c w ps) = PD at *
     generalize pLen (comD k r c w ps) = PL at *
     generalize pRefs (comD k r c w ps) = PR at *
     have hfR := rd_fz hRr
     have hoL := rd_one hRr
     have hsL := rd_shift hRr
     have hpL := hRr.plain
     by_cases hd0 : PD = 0
     · rw [if_pos hd0, if_pos hd0, if_pos hd0, if_pos rfl]
       rw [hd0] at hcr ⊢
       replace hd0 := Hid.mk hd0
       have hfin := fzId_rd hRr
       replace hfin := Hid.mk hfin
       have hcL := rd_cells hRr
       have hkL := rd_okA hRr
       generalize treeR PR.length (refsA PR) = RT at *
       simp only [intV] at hcr hrw
       simp only [↓pre, simprocAttr, parV, sx, tys59, cellsR, onceOb, bne, postU, storeE, allocE, put_at, push_at, put_next, push_next, me0, Nat.one_ne_zero, Nat.zero_ne_one, Nat.reduceEqDiff, hf, ho, sr]
       (first | refine call_plain (hck) (by first | rfl | simp only [parV, plQ, *]) ?_ | refine call_pure (hck) (by first | rfl | simp only [parV, plQ, *]) (by intro k; first | rfl | simp only [sq, sr, *]) ?_); simp only [↓pre, simprocAttr, parV, sx, tys59, cellsR, onceOb, bne, postU, storeE, allocE, put_at, push_at, put_next, push_next, me0, Nat.one_ne_zero, Nat.zero_ne_one, Nat.reduceEqDiff, hf, ho, h1, h2, hoR, hsr, hsL, hoL, hcL, hkL, sr]; (first | refine call_plain (hrw) (by first | rfl | simp only [parV, plQ, *]) ?_ | refine call_pure (hrw) (by first | rfl | simp only [parV, plQ, *]) (by intro k; first | rfl | simp only [sq, sr, *]) ?_); simp only [↓pre, simprocAttr, parV, sx, tys59, cellsR, onceOb, bne, postU, storeE, allocE, put_at, push_at, put_next, push_next, me0, Nat.one_ne_zero, Nat.zero_ne_one, Nat.reduceEqDiff, hf, ho, h1, h2, hoR, hsr, hsL, hoL, hcL, hkL, sr]; (first | refine call_plain (hcr) (by first | rfl | simp only [parV, plQ, *]) ?_ | refine call_pure (hcr) (by first | rfl | simp only [parV, plQ, *]) (by intro k; first | rfl | simp only [sq, sr, *]) ?_); simp only [↓pre, simprocAttr, parV, sx, tys59, cellsR, onceOb, bne, postU, storeE, allocE, put_at, push_at, put_next, push_next, me0, Nat.one_ne_zero, Nat.zero_ne_one, Nat.reduceEqDiff, hf, ho, h1, h2, hoR, hsr, hsL, hoL, hcL, hkL, sr]; (first | refine call_plain (hcl) (by first | rfl | simp only [parV, plQ, *]) ?_ | refine call_pure (hcl) (by first | rfl | simp only [parV, plQ, *]) (by intro k; first | rfl | simp only [sq, sr, *]) ?_); simp only [↓pre, simprocAttr, parV, sx, tys59, cellsR, onceOb, bne, postU, storeE, allocE, put_at, push_at, put_next, push_next, me0, Nat.one_ne_zero, Nat.zero_ne_one, Nat.reduceEqDiff, hf, ho, h1, h2, hoR, hsr, hsL, hoL, hcL, hkL, sr]
       exact obj_endO hRr ⟨rfl, rfl, rfl, rfl, rfl⟩ fzT_val (hfin.out _ _) ⟨rfl, rfl, rfl, rfl, rfl⟩
     · rw [if_neg hd0, if_neg hd0, if_neg hd0]
       have hPD : PD = 1 := by omega
       rw [if_neg hd0] at hlc
       have hos : 0 ≤ oS k r c w PL ∧ oS k r c w PL ≤ 40000 := by
         have := up_bounds (a := PL) (b := wI k c) hl0 hl1 (by unfold wI; omega) (by unfold wI; omega)
         unfold oS
         rw [if_pos hoE]
         unfold sI
         omega
       have hlb := l_bounds hw.1 hw.2
       have hlfb : 5 ≤ lI k c ∧ lI k c ≤ 128 := hlb
       have hPRl : PR.length ≤ 126 := by unfold dI at hll; omega
       have hlea := fun (i : Nat) (x : RefI) (hi : PR[i]? = some x) n => tree_leaf k r c w v L cells hv hE x (by
         have := hlr x (List.mem_of_getElem? hi)
         unfold refB
         exact decide_eq_true this) n
       have hcells := fun i x hi => refsA_at PR [] i x hi
       rw [List.append_nil] at hcells
       unfold imV at hlea
       have hlenRT := fun t ht => hRr.len' (P := Tryz.prog) (t := t) ht
       have haddRT := fun t j ht => hRr.addr' (P := Tryz.prog) (t := t) (k := j) ht
       have hcL := rd_cells hRr
       have hkL := rd_okA hRr
       generalize treeR PR.length (refsA PR) = RT at *
       generalize hEE : leavesE k r c w L PR (oS k r c w PL) = EE at *
       generalize hRR : leavesR k r c w L PR (oS k r c w PL) = RR at *
       generalize oS k r c w PL = OS at *
       generalize hLI : lI k c = LI at *
       replace hLI := Hid.mk hLI
       simp only [intV] at hcr hrw
       generalize hRES : (if EE = 0 then AV.tup [AV.agg [intV PL, intV PD, RT], intV W, RT, treeR RR.length (refsA RR), intV 0] else AV.tup [desc0, intV 0, nilS, nilS, intV EE]) = RES
       replace hRES := Hid.mk hRES
       replace hPD := Hid.mk hPD
       replace hEE := Hid.mk hEE
       replace hRR := Hid.mk hRR
       replace hos := Hid.mk hos
       replace hlr := Hid.mk hlr
       replace hlea := Hid.mk hlea
       replace hcells := Hid.mk hcells
       replace hdF := Hid.mk hdF
       replace hlc := Hid.mk hlc
       replace hrv := Hid.mk hrv
       replace hmn := Hid.mk hmn
       replace hlfb := Hid.mk hlfb
       replace hlb := Hid.mk hlb
       replace hw := Hid.mk hw
       replace hdb := Hid.mk hdb
       replace hD := Hid.mk hD
       simp only [↓pre, simprocAttr, parV, sx, tys59, cellsR, onceOb, bne, postU, storeE, allocE, put_at, push_at, put_next, push_next, me0, Nat.one_ne_zero, Nat.zero_ne_one, Nat.reduceEqDiff, hf, ho, sr]
       (first | refine call_plain (hck) (by first | rfl | simp only [parV, plQ, *]) ?_ | refine call_pure (hck) (by first | rfl | simp only [parV, plQ, *]) (by intro k; first | rfl | simp only [sq, sr, *]) ?_); simp only [↓pre, simprocAttr, parV, sx, tys59, cellsR, onceOb, bne, postU, storeE, allocE, put_at, push_at, put_next, push_next, me0, Nat.one_ne_zero, Nat.zero_ne_one, Nat.reduceEqDiff, hf, ho, h1, h2, hoR, hsr, hsL, hoL, hcL, hkL, hd0, hlenRT, sr]; (first | refine call_plain (hrw) (by first | rfl | simp only [parV, plQ, *]) ?_ | refine call_pure (hrw) (by first | rfl | simp only [parV, plQ, *]) (by intro k; first | rfl | simp only [sq, sr, *]) ?_); simp only [↓pre, simprocAttr, parV, sx, tys59, cellsR, onceOb, bne, postU, storeE, allocE, put_at, push_at, put_next, push_next, me0, Nat.one_ne_zero, Nat.zero_ne_one, Nat.reduceEqDiff, hf, ho, h1, h2, hoR, hsr, hsL, hoL, hcL, hkL, hd0, hlenRT, sr]; (first | refine call_plain (hcr) (by first | rfl | simp only [parV, plQ, *]) ?_ | refine call_pure (hcr) (by first | rfl | simp only [parV, plQ, *]) (by intro k; first | rfl | simp only [sq, sr, *]) ?_); simp only [↓pre, simprocAttr, parV, sx, tys59, cellsR, onceOb, bne, postU, storeE, allocE, put_at, push_at, put_next, push_next, me0, Nat.one_ne_zero, Nat.zero_ne_one, Nat.reduceEqDiff, hf, ho, h1, h2, hoR, hsr, hsL, hoL, hcL, hkL, hd0, hlenRT, sr]; (first | refine call_plain (hcl) (by first | rfl | simp only [parV, plQ, *]) ?_ | refine call_pure (hcl) (by first | rfl | simp only [parV, plQ, *]) (by intro k; first | rfl | simp only [sq, sr, *]) ?_); simp only [↓pre, simprocAttr, parV, sx, tys59, cellsR, onceOb, bne, postU, storeE, allocE, put_at, push_at, put_next, push_next, me0, Nat.one_ne_zero, Nat.zero_ne_one, Nat.reduceEqDiff, hf, ho, h1, h2, hoR, hsr, hsL, hoL, hcL, hkL, hd0, hlenRT, sr]; (first | refine call_plain (hst) (by first | rfl | simp only [parV, plQ, *]) ?_ | refine call_pure (hst) (by first | rfl | simp only [parV, plQ, *]) (by intro k; first | rfl | simp only [sq, sr, *]) ?_); simp only [↓pre, simprocAttr, parV, sx, tys59, cellsR, onceOb, bne, postU, storeE, allocE, put_at, push_at, put_next, push_next, me0, Nat.one_ne_zero, Nat.zero_ne_one, Nat.reduceEqDiff, hf, ho, h1, h2, hoR, hsr, hsL, hoL, hcL, hkL, hd0, hlenRT, sr]; (first | refine call_plain (hlf) (by first | rfl | simp only [parV, plQ, *]) ?_ | refine call_pure (hlf) (by first | rfl | simp only [parV, plQ, *]) (by intro k; first | rfl | simp only [sq, sr, *]) ?_); simp only [↓pre, simprocAttr, parV, sx, tys59, cellsR, onceOb, bne, postU, storeE, allocE, put_at, push_at, put_next, push_next, me0, Nat.one_ne_zero, Nat.zero_ne_one, Nat.reduceEqDiff, hf, ho, h1, h2, hoR, hsr, hsL, hoL, hcL, hkL, hd0, hlenRT, sr]
       rw [codeW_loop]
       refine loop_intro (fun q e m => ∃ i left acc lv, q + i = PR.length ∧ ObE e ∧ e 2 = .tptr 0 [intV k, intV r, intV c, intV w, v] ∧ e 10 = intV left ∧ e 11 = intV LI ∧ e 74 = RT ∧ e 75 = intV (PR.length : Nat) ∧ e 76 = intV (i : Nat) ∧ Hid ((0 ≤ left ∧ left ≤ 40000) ∧ ObB m (intV PL) (intV PD) RT (intV W) RT lv 0 ∧ 4 < m.next ∧ Own m 67 2 lv acc.length (refsA acc) ∧ (∀ j, blkOf lv = some j → 4 < j) ∧ leavesE k r c w L (PR.drop i) left = EE ∧ acc ++ leavesR k r c w L (PR.drop i) left = RR ∧ acc.length ≤ i * 128)) PR.length ⟨0, OS, [], nilS, by omega, ⟨rfl, rfl, rfl, rfl, rfl⟩, rfl, rfl, rfl, rfl, rfl, rfl, ⟨hos.out, ⟨rfl, rfl, rfl, rfl, rfl⟩, by simp [put_next, push_next, me0], own_nil, fun j h => by simp [blkOf, nilS] at h, hEE.out, hRR.out, by simp⟩⟩ ?_
       rintro q e m ⟨i, left, acc, lv, hq, he, e2, e10, e11, e74, e75, e76, hJ⟩
       replace hq := Hid.mk hq
       obtain ⟨hleft, hB, hnx, hown, hblk, hLE, hLR, hacc⟩ := hJ.out
       clear hJ
       obtain ⟨e4, e5, e6, e7, e8⟩ := he
       obtain ⟨b0, b1, b2, b3, b4⟩ := hB
       have g0 : ¬ (0 = m.next) := by omega
       have g1 : ¬ (1 = m.next) := by omega
       have g2 : ¬ (2 = m.next) := by omega
       have g3 : ¬ (3 = m.next) := by omega
       have g4 : ¬ (4 = m.next) := by omega
       by_cases hlt : i < PR.length
       · have hlt' : ((i : Nat) : Int) < ((PR.length : Nat) : Int) := by omega
         have wi := wrap_succ (n := i) (by omega)
         obtain ⟨x, hx⟩ : ∃ x, PR[i]? = some x := ⟨_, List.getElem?_eq_getElem hlt⟩
         obtain ⟨ha, hb⟩ := hcells.out i x hx
         obtain ⟨ht, htl⟩ := take2 ha hb
         have hdrop : PR.drop i = x :: PR.drop (i + 1) := by
           rw [List.drop_eq_getElem_cons hlt]
           congr 1
           rw [List.getElem?_eq_getElem hlt] at hx
           exact Option.some.inj hx
         have hlf2 := hlea.out i x hx (min left LI)
         rw [hdrop] at hLE hLR
         simp only [leavesE, leavesR, hLI.out] at hLE hLR
         unfold leafV at hlf2
         replace hdrop := Hid.mk hdrop
         replace hx := Hid.mk hx
         have hlL := leafR_len k r c w L x (min left LI)
         have hok := leaf_ok (k := k) (r := r) (c := c) (w := w) (L := L) (x := x) (n := min left LI)
         by_cases hE0 : leafE k r c w L x (min left LI) = 0
         · rw [if_pos hE0] at hLE hlf2
           obtain ⟨hn1, hn2⟩ := hok hE0
           obtain ⟨N, hN⟩ : ∃ N : Nat, min left LI = (N : Int) := ⟨(min left LI).toNat, by omega⟩
           rw [hN] at hLE hlf2 hLR hlL hn1 hn2
           rw [Int.toNat_natCast] at hlf2 hlL
           generalize leafR k r c w L x ↑N = LR at *
           have hTr := treeR_rd N (refsA LR)
           have pT := hTr.plain
           have sT := rd_shift hTr
           have lT := fun t ht => hTr.len' (P := Tryz.prog) (t := t) ht
           have hsrc := fun m => hTr.src (P := Tryz.prog) (m := m) (el := 67) (sz := 2) (by rw [refsA_len]; omega)
           rw [show (refsA LR).take (N * 2) = refsA LR from List.take_of_length_le (by rw [refsA_len]; omega)] at hsrc
           generalize treeR N (refsA LR) = TR at *
           have hNl : N ≤ 128 := by have := hlfb.out; omega
           have wl : IntKind.i64.wrap (left - (N : Int)) = left - (N : Int) := wrap_id (by omega) (by omega)
           replace hlL := Hid.mk hlL
           replace hLE := Hid.mk hLE
           replace hLR := Hid.mk hLR
           replace hown := Hid.mk hown
           replace hblk := Hid.mk hblk
           replace hacc := Hid.mk hacc
           replace hok := Hid.mk hok
           replace hTr := Hid.mk hTr
           replace hsrc := Hid.mk hsrc
           replace hE0 := Hid.mk hE0
           have hne : 4 < m.next := hnx
           simp only [↓pre, simprocAttr, parV, sx, tys59, cellsR, onceOb, bne, postU, storeE, allocE, put_at, push_at, put_next, push_next, me0, Nat.one_ne_zero, Nat.zero_ne_one, Nat.reduceEqDiff, hf, ho, e2, e4, e5, e6, e7, e8, e10, e11, e74, e75, e76, b0, b1, b2, b3, b4, g0, g1, g2, g3, g4, hoL, hcL, hkL, postV, hlt', hlt, haddRT, ht, htl, hN, sr]
           (first | refine call_plain (hlf2) (by first | rfl | simp only [parV, plQ, *]) ?_ | refine call_pure (hlf2) (by first | rfl | simp only [parV, plQ, *]) (by intro k; first | rfl | simp only [sq, sr, *]) ?_); simp only [↓pre, simprocAttr, parV, sx, tys59, cellsR, onceOb, bne, postU, storeE, allocE, put_at, push_at, put_next, push_next, me0, Nat.one_ne_zero, Nat.zero_ne_one, Nat.reduceEqDiff, hf, ho, e2, e4, e5, e6, e7, e8, e10, e11, e74, e75, e76, b0, b1, b2, b3, b4, g0, g1, g2, g3, g4, hoL, hcL, hkL, postV, hN, sT, sr]
           generalize hm3 : Mem.put (Mem.put (Mem.push m _) _ _) _ _ = m3
           have c0 : m3.at_ 0 = some ⟨[intV PL, intV PD, RT], 33, .var, true⟩ := by rw [← hm3]; simp [put_at, push_at, b0, g0]
           have c1 : m3.at_ 1 = some ⟨[intV W], 3, .var, true⟩ := by rw [← hm3]; simp [put_at, push_at, b1, g1]
           have c2 : m3.at_ 2 = some ⟨[RT], 31, .var, true⟩ := by rw [← hm3]; simp [put_at, push_at, b2, g2]
           have c3 : m3.at_ 3 = some ⟨[lv], 31, .var, true⟩ := by rw [← hm3]; simp [put_at, push_at, b3, g3]
           have c4 : m3.at_ 4 = some ⟨[intV 0], 28, .var, true⟩ := by rw [← hm3]; simp [put_at, push_at, intV]
           have cn : 4 < m3.next := by rw [← hm3]; simp only [put_next, push_next]; omega
           have co : Own m3 67 2 lv acc.length (refsA acc) := hown.out.keep (by rw [← hm3]; simp only [put_next, push_next]; omega) fun j kk hj hk => by
             have h4 := hblk.out j hj
             have hjl : j < m.next := by
               rcases hown.out.form with ⟨rfl, _⟩ | ⟨b, rfl, _, hb, _⟩
               · simp [blkOf, nilS] at hj
               · simp only [blkOf, Option.some.injEq] at hj; omega
             rw [← hm3, put_at, if_neg (by omega), put_at, if_neg (by omega), push_at, if_neg (by omega)]
             exact hk
           clear hm3 hown
           have hacc2 := hacc.out
           have hNb : N ≤ 1000000 := by omega
           refine app_keep (kd := .flat) (y := 16) (zl := [.int .i64 0, .int .i64 0]) (by kernel_rfl) co (by kernel_rfl) (by kernel_rfl) (by kernel_rfl) rfl (hsrc.out m3) (by rw [refsA_len]; have := hlL.out; omega) (by omega) (by omega) ?_
           intro lv' m4 ho' hn' hkp hbk
           have hnb : ∀ j, j ≤ 4 → blkOf lv ≠ some j := fun j h1 h2 => by have := hblk.out j h2; omega
           have d0 := hkp 0 _ c0 (by omega) (hnb 0 (by omega))
           have d1 := hkp 1 _ c1 (by omega) (hnb 1 (by omega))
           have d2 := hkp 2 _ c2 (by omega) (hnb 2 (by omega))
           have d3 := hkp 3 _ c3 (by omega) (hnb 3 (by omega))
           have d4 := hkp 4 _ c4 (by omega) (hnb 4 (by omega))
           have hbk' : ∀ j, blkOf lv' = some j → 4 < j := fun j hj => by
             rcases hbk j hj with h | h
             · omega
             · exact hblk.out j h
           have ocl : lv'.cells = [lv'] ∧ okA lv' = true := by
             rcases ho'.form with ⟨rfl, _⟩ | ⟨b, rfl, _⟩
             · exact ⟨rfl, rfl⟩
             · exact ⟨rfl, rfl⟩
           obtain ⟨ok1, ok2⟩ := ocl
           replace hkp := Hid.mk hkp
           replace hbk := Hid.mk hbk
           replace hbk' := Hid.mk hbk'
           replace hnb := Hid.mk hnb
           replace ho' := Hid.mk ho'
           replace hacc2 := Hid.mk hacc2
           simp only [↓pre, simprocAttr, parV, sx, tys59, cellsR, onceOb, bne, postU, storeE, allocE, put_at, push_at, put_next, push_next, me0, Nat.one_ne_zero, Nat.zero_ne_one, Nat.reduceEqDiff, hf, ho, e2, e4, e5, e6, e7, e8, e10, e11, e74, e75, e76, d3, ok1, ok2, lT, wl, wi, sr]
           refine ⟨q - 1, by have := hq.out; omega, i + 1, left - N, acc ++ LR, lv', by have := hq.out; omega, ⟨e4, e5, e6, e7, e8⟩, rfl, rfl, ⟨⟨by omega, by omega⟩, ⟨?_, ?_, ?_, ?_, ?_⟩, by omega, ?_, hbk'.out, hLE.out, by rw [List.append_assoc]; exact hLR.out, by rw [List.length_append]; have := hlL.out; have := hacc2.out; omega⟩⟩
           · rw [put_at, if_neg (by decide)]; exact d0
           · rw [put_at, if_neg (by decide)]; exact d1
           · rw [put_at, if_neg (by decide)]; exact d2
           · rw [put_at, if_pos rfl]
           · rw [put_at, if_neg (by decide)]; exact d4
           · rw [refsA_append, List.length_append, hlL.out]
             exact ho'.out.keep (by rw [put_next]; exact Nat.le_refl _) fun j kk hj hk => by
               have := hbk'.out j hj
               rw [put_at, if_neg (by omega)]
               exact hk
         · rw [if_neg hE0] at hLE hlf2
           have hres := hRES.out
           rw [← hLE, if_neg hE0] at hres
           generalize leafE k r c w L x (min left LI) = E at *
           replace hres := Hid.mk hres
           replace hLE := Hid.mk hLE
           replace hown := Hid.mk hown
           replace hok := Hid.mk hok
           unfold nilS at hlf2
           simp only [↓pre, simprocAttr, parV, sx, tys59, cellsR, onceOb, bne, postU, storeE, allocE, put_at, push_at, put_next, push_next, me0, Nat.one_ne_zero, Nat.zero_ne_one, Nat.reduceEqDiff, hf, ho, e2, e4, e5, e6, e7, e8, e10, e11, e74, e75, e76, b0, b1, b2, b3, b4, g0, g1, g2, g3, g4, hoL, hcL, hkL, hlt', hlt, haddRT, ht, htl, sr]
           (first | refine call_plain (hlf2) (by first | rfl | simp only [parV, plQ, *]) ?_ | refine call_pure (hlf2) (by first | rfl | simp only [parV, plQ, *]) (by intro k; first | rfl | simp only [sq, sr, *]) ?_); simp only [↓pre, simprocAttr, parV, sx, tys59, cellsR, onceOb, bne, postU, storeE, allocE, put_at, push_at, put_next, push_next, me0, Nat.one_ne_zero, Nat.zero_ne_one, Nat.reduceEqDiff, hf, ho, e2, e4, e5, e6, e7, e8, e10, e11, e74, e75, e76, b0, b1, b2, b3, b4, g0, g1, g2, g3, g4, hoL, hcL, hkL, hE0, sr]
           rw [← hres.out]
           refine obj_endE (d0 := intV PL) (d1 := intV PD) (d2 := RT) (ve := intV W) (lv := RT) (sv := lv) hE0 ⟨?_, ?_, ?_, ?_, ?_⟩ ⟨e4, e5, e6, e7, e8⟩
           all_goals simp [put_at, push_at, b0, b1, b2, b3, b4, g0, g1, g2, g3, g4, intV]
       · have hlt' : ¬ ((i : Nat) : Int) < ((PR.length : Nat) : Int) := by omega
         rw [List.drop_of_length_le (by omega)] at hLE hLR
         simp only [leavesE, leavesR, List.append_nil] at hLE hLR
         have hres := hRES.out
         rw [← hLE, if_pos rfl] at hres
         replace hres := Hid.mk hres
         replace hLE := Hid.mk hLE
         replace hLR := Hid.mk hLR
         replace hown := Hid.mk hown
         simp only [↓pre, simprocAttr, parV, sx, tys59, cellsR, onceOb, bne, postU, storeE, allocE, put_at, push_at, put_next, push_next, me0, Nat.one_ne_zero, Nat.zero_ne_one, Nat.reduceEqDiff, hf, ho, e2, e4, e5, e6, e7, e8, e10, e11, e74, e75, e76, b0, b1, b2, b3, b4, g0, g1, g2, g3, g4, hoL, hcL, hkL, hlt', sr]
         rw [← hres.out, ← hLR.out]
         exact obj_endO hRr ⟨b0, b1, b2, b3, b4⟩ (fzT_rd hRr) (own_fzT hown.out 1) ⟨e4, e5, e6, e7, e8⟩
   · rw [if_neg hC] at hcr
     rw [if_neg hC, if_neg hC]
     unfold desc0 nilS at hcr
     simp only [intV] at hcr hrw
     replace hrv := Hid.mk hrv
     replace hmn := Hid.mk hmn
     replace hR := Hid.mk hR
     generalize comE k r c w ps = E at *
     simp only [↓pre, simprocAttr, parV, sx, tys59, cellsR, onceOb, bne, postU, storeE, allocE, put_at, push_at, put_next, push_next, me0, Nat.one_ne_zero, Nat.zero_ne_one, Nat.reduceEqDiff, hf, ho, sr]
     (first | refine call_plain (hck) (by first | rfl | simp only [parV, plQ, *]) ?_ | refine call_pure (hck) (by first | rfl | simp only [parV, plQ, *]) (by intro k; first | rfl | simp only [sq, sr, *]) ?_); simp only [↓pre, simprocAttr, parV, sx, tys59, cellsR, onceOb, bne, postU, storeE, allocE, put_at, push_at, put_next, push_next, me0, Nat.one_ne_zero, Nat.zero_ne_one, Nat.reduceEqDiff, hf, ho, h1, h2, hoR, hsr, hC, sr]; (first | refine call_plain (hrw) (by first | rfl | simp only [parV, plQ, *]) ?_ | refine call_pure (hrw) (by first | rfl | simp only [parV, plQ, *]) (by intro k; first | rfl | simp only [sq, sr, *]) ?_); simp only [↓pre, simprocAttr, parV, sx, tys59, cellsR, onceOb, bne, postU, storeE, allocE, put_at, push_at, put_next, push_next, me0, Nat.one_ne_zero, Nat.zero_ne_one, Nat.reduceEqDiff, hf, ho, h1, h2, hoR, hsr, hC, sr]; (first | refine call_plain (hcr) (by first | rfl | simp only [parV, plQ, *]) ?_ | refine call_pure (hcr) (by first | rfl | simp only [parV, plQ, *]) (by intro k; first | rfl | simp only [sq, sr, *]) ?_); simp only [↓pre, simprocAttr, parV, sx, tys59, cellsR, onceOb, bne, postU, storeE, allocE, put_at, push_at, put_next, push_next, me0, Nat.one_ne_zero, Nat.zero_ne_one, Nat.reduceEqDiff, hf, ho, h1, h2, hoR, hsr, hC, sr]
     exact obj_endE hC ⟨rfl, rfl, rfl, rfl, rfl⟩ ⟨rfl, rfl, rfl, rfl, rfl⟩
 · have hRE : rowE k r c w L row = if imE k r c w L = 0 then (if row < 0 ∨ w ≤ row then 2 else 0) else imE k r c w L := rfl
   rw [if_neg hR, if_neg hR]
   refine ospec_of_defer follows Tryz.func59 (by unfold Tryz.f59; rfl) (by unfold Tryz.f59; simp) onceOb (by unfold Tryz.f59; simp) (by kernel_rfl) (by kernel_rfl) (by unfold Tryz.f59; decide) (by kernel_rfl) ?_
   unfold deferW Tryz.f59
   by_cases hE : imE k r c w L = 0
   · rw [if_pos hE] at hRE
     rw [hE] at hck
     have hrow : row < 0 ∨ w ≤ row := by
       by_cases h : row < 0 ∨ w ≤ row
       · exact h
       · rw [if_neg h] at hRE; exact absurd hRE hR
     rw [if_pos hrow] at hRE
     rw [hRE] at *
     by_cases h1 : row < 0
     · simp only [↓pre, simprocAttr, parV, sx, tys59, cellsR, onceOb, bne, postU, storeE, allocE, put_at, push_at, put_next, push_next, me0, Nat.one_ne_zero, Nat.zero_ne_one, Nat.reduceEqDiff, hf, ho, sr]
       (first | refine call_plain (hck) (by first | rfl | simp only [parV, plQ, *]) ?_ | refine call_pure (hck) (by first | rfl | simp only [parV, plQ, *]) (by intro k; first | rfl | simp only [sq, sr, *]) ?_); simp only [↓pre, simprocAttr, parV, sx, tys59, cellsR, onceOb, bne, postU, storeE, allocE, put_at, push_at, put_next, push_next, me0, Nat.one_ne_zero, Nat.zero_ne_one, Nat.reduceEqDiff, hf, ho, h1, sr]
       exact obj_endE (E := 2) (by decide) ⟨rfl, rfl, rfl, rfl, rfl⟩ ⟨rfl, rfl, rfl, rfl, rfl⟩
     · have h2 : w ≤ row := by omega
       simp only [↓pre, simprocAttr, parV, sx, tys59, cellsR, onceOb, bne, postU, storeE, allocE, put_at, push_at, put_next, push_next, me0, Nat.one_ne_zero, Nat.zero_ne_one, Nat.reduceEqDiff, hf, ho, sr]
       (first | refine call_plain (hck) (by first | rfl | simp only [parV, plQ, *]) ?_ | refine call_pure (hck) (by first | rfl | simp only [parV, plQ, *]) (by intro k; first | rfl | simp only [sq, sr, *]) ?_); simp only [↓pre, simprocAttr, parV, sx, tys59, cellsR, onceOb, bne, postU, storeE, allocE, put_at, push_at, put_next, push_next, me0, Nat.one_ne_zero, Nat.zero_ne_one, Nat.reduceEqDiff, hf, ho, h1, h2, sr]
       exact obj_endE (E := 2) (by decide) ⟨rfl, rfl, rfl, rfl, rfl⟩ ⟨rfl, rfl, rfl, rfl, rfl⟩
   · rw [if_neg hE] at hRE
     rw [hRE]
     simp only [↓pre, simprocAttr, parV, sx, tys59, cellsR, onceOb, bne, postU, storeE, allocE, put_at, push_at, put_next, push_next, me0, Nat.one_ne_zero, Nat.zero_ne_one, Nat.reduceEqDiff, hf, ho, sr]
     (first | refine call_plain (hck) (by first | rfl | simp only [parV, plQ, *]) ?_ | refine call_pure (hck) (by first | rfl | simp only [parV, plQ, *]) (by intro k; first | rfl | simp only [sq, sr, *]) ?_); simp only [↓pre, simprocAttr, parV, sx, tys59, cellsR, onceOb, bne, postU, storeE, allocE, put_at, push_at, put_next, push_next, me0, Nat.one_ne_zero, Nat.zero_ne_one, Nat.reduceEqDiff, hf, ho, hE, sr]
     exact obj_endE hE ⟨rfl, rfl, rfl, rfl, rfl⟩ ⟨rfl, rfl, rfl, rfl, rfl⟩
theorem tabA_splice {n o cnt : Nat} {f g : Nat → UInt8} {xs : List AV} (hl : xs.length = cnt) (ho : o + cnt ≤ n) (hx : ∀ j, j < cnt → xs[j]? = some (byteV (g (o + j)))) (hf : ∀ j, j < n → ¬ (o ≤ j ∧ j < o + cnt) → f j = g j) : splice (tabA n f) o xs = tabA n g := by
 refine List.ext_getElem? fun j => ?_
 rw [splice_get _ _ _ (by rw [tabA_len]; omega)]
 by_cases hj : j < n
 · rw [tabA_at g hj]
   by_cases h : o ≤ j ∧ j < o + xs.length
   · rw [if_pos h, hx _ (by omega), show o + (j - o) = j by omega]
   · rw [if_neg h, tabA_at f hj, hf j hj (by omega)]
 · rw [if_neg (by omega), List.getElem?_eq_none (by rw [tabA_len]; omega), List.getElem?_eq_none (by rw [tabA_len]; omega)]
def lostB (k r c w : Int) (L : List (List UInt8)) (x : RefI) : Bool := decide (manyN k r c w (rowL k r w L x.1) 1 x.2 < k.toNat)
def meetB (W fr to i : Nat) : Bool := decide (max fr (i * W) < min to ((i + 1) * W))
def cutE (k r c w : Int) (L : List (List UInt8)) (l : List RefI) (fr to : Nat) : Int := if (List.range l.length).any (fun i => meetB (wI k c).toNat fr to i && lostB k r c w L (l.getD i (0, 0))) = true then 5 else 0
def bytC (k r c w : Int) (L : List (List UInt8)) (l : List RefI) (p : Nat) : UInt8 := if p < l.length * (wI k c).toNat then (leafD k r c w L (l.getD (p / (wI k c).toNat) (0, 0))).getD (p % (wI k c).toNat) 0 else 0
def cutB (k r c w : Int) (L : List (List UInt8)) (l : List RefI) (fr to : Nat) : List UInt8 := tab (to - fr) fun j => bytC k r c w L l (fr + j)
def cutV (k r c w : Int) (L : List (List UInt8)) (l : List RefI) (fr to : Nat) : AV := if cutE k r c w L l fr to = 0 then .tup [takA (cutB k r c w L l fr to), intV 0] else .tup [nilS, intV (cutE k r c w L l fr to)]
theorem cut_none {k r c w : Int} {L : List (List UInt8)} {l : List RefI} {fr to : Nat} (h : to ≤ fr) : cutV k r c w L l fr to = .tup [nilS, intV 0] := by
 have h1 : cutE k r c w L l fr to = 0 := by
   unfold cutE
   rw [if_neg]
   intro h2
   obtain ⟨i, _, hi⟩ := List.any_eq_true.1 h2
   unfold meetB at hi
   rw [Bool.and_eq_true, decide_eq_true_eq] at hi
   omega
 have h2 : takA (cutB k r c w L l fr to) = nilS := by
   unfold takA cutB
   rw [tab_len, if_pos (by omega)]
 unfold cutV
 rw [if_pos h1, h2]
theorem cut_copy {m : Mem} {n fr to i W A Z : Nat} {FF : Nat → UInt8} {D : List UInt8} {dv : AV} (hb : m.at_ 0 = some ⟨tabA n fun j => if fr + j < i * W then FF j else 0, 5, .flat, true⟩) (hsrc : srcE Tryz.prog 5 1 m dv = some (((bytesA D).drop (A - i * W)).take ((W - (A - i * W)) * 1), W - (A - i * W))) (hDl : D.length = W) (hFx : ∀ j, i * W ≤ fr + j → fr + j < i * W + W → FF j = D.getD (fr + j - i * W) 0) (hA2 : A = max fr (i * W)) (hZ2 : Z = min to ((i + 1) * W)) (hsuc : (i + 1) * W = i * W + W) (hn : to - fr = n) (hAZ : A < Z) :
   copyE Tryz.prog 5 m (.sl 0 (A - fr) (Z - A) (n - (A - fr)) true) dv = some ⟨intV (min (W - (A - i * W)) (Z - A) : Nat), m.put 0 (some ⟨tabA n fun j => if fr + j < (i + 1) * W then FF j else 0, 5, .flat, true⟩), none⟩ := by
 have h2 : szE Tryz.prog 5 = some 1 := by kernel_rfl
 have h4 : kindT Tryz.prog 5 = .flat := by kernel_rfl
 simp only [copyE, h2, hsrc, hb, Option.bind_some, h4]
 rw [if_pos ⟨trivial, trivial, by rw [tabA_len]; omega⟩]
 have hmin : min (W - (A - i * W)) (Z - A) = Z - A := by omega
 rw [hmin, Nat.mul_one, Nat.mul_one]
 congr 4
 refine tabA_splice (cnt := Z - A) (by rw [List.length_take, List.length_take, List.length_drop, bytesA_len]; omega) (by omega) (fun j hj => ?_) (fun j hj hnj => ?_)
 · rw [List.getElem?_take, if_pos hj, List.getElem?_take, if_pos (by omega), List.getElem?_drop, if_pos (by omega), hFx (A - fr + j) (by omega) (by omega)]
   unfold bytesA
   have hlt : A - i * W + j < D.length := by omega
   rw [List.getElem?_map, List.getElem?_eq_getElem hlt, List.getD_eq_getElem?_getD, show fr + (A - fr + j) - i * W = A - i * W + j by omega, List.getElem?_eq_getElem hlt]
   rfl
 · by_cases h5 : fr + j < i * W
   · rw [if_pos h5, if_pos (by omega)]
   · rw [if_neg h5, if_neg (by omega)]
def onceCu : Nat → Bool := fun d => d != 89
set_option maxHeartbeats 2000000 in
theorem object_cut (k r c w : Int) (v : AV) (L : List (List UInt8)) (cells : List AV) (hv : RowsV v L cells) (hE : imE k r c w L = 0) (sv : AV) (l : List RefI) (hs : RefsV sv l) (hlr : ∀ x ∈ l, refB w x = true) (hl : l.length ≤ 20000) (fr to : Nat) (hto : to ≤ 40000) : FSpec Tryz.prog 103 [imV k r c w v, sv, intV (fr : Nat), intV (to : Nat)] ⟨cutV k r c w L l fr to, []⟩ := by
 refine fspec_fzT ?_
 have hp := hv.rd.plain
 have hf := rd_fz hv.rd
 have ho := rd_one hv.rd
 obtain ⟨hm, _, _⟩ := im_parts hE
 obtain ⟨x0, hsr⟩ := hs
 have hWd := layout_Width k r c w
 simp only [hm, if_true] at hWd
 have hw := may_w hm
 have hml := mayB_of.1 hm
 have hmn := may_n hm
 unfold imV
 by_cases hlt0 : to ≤ fr
 · rw [cut_none hlt0]
   have h1 : ((to : Nat) : Int) ≤ ((fr : Nat) : Int) := by omega
   have hz := fun m => fzId_two (fzId_val (.slice none 0 0)) (fzId_val (.int .i64 0)) 1 m
   replace hz := Hid.mk hz
   refine ospec_of_body follows Tryz.func103 (by unfold Tryz.f103; rfl) (by unfold Tryz.f103; simp) onceCu (by unfold Tryz.f103; simp) (by kernel_rfl) ?_; unfold Tryz.f103
   simp only [↓pre, simprocAttr, parV, sx, tys103, onceCu, bne, postU, postV, hf, ho, h1, sr]
   exact ⟨1, hz.out _⟩
 · have h1 : ¬ ((to : Nat) : Int) ≤ ((fr : Nat) : Int) := by omega
   obtain ⟨W, hW⟩ : ∃ W : Nat, wI k c = (W : Int) := ⟨(wI k c).toNat, by unfold wI; omega⟩
   have hWn : (wI k c).toNat = W := by omega
   have hW8 : 32 ≤ W ∧ W ≤ 768 := by unfold wI at hW; omega
   have hKC : k.toNat * c.toNat = W := by
     have : ((k.toNat * c.toNat : Nat) : Int) = wI k c := by unfold wI; rw [Int.natCast_mul, Int.toNat_of_nonneg (by omega), Int.toNat_of_nonneg (by omega)]
     omega
   obtain ⟨n, hn⟩ : ∃ n, to - fr = n := ⟨_, rfl⟩
   have wn : IntKind.i64.wrap (((to : Nat) : Int) - ((fr : Nat) : Int)) = ((n : Nat) : Int) := by rw [show ((to : Nat) : Int) - ((fr : Nat) : Int) = ((n : Nat) : Int) by omega]; exact wrap_nat (by omega)
   have hmk := fun m => make_bytes m (n := n) (by omega)
   have hrow := fun (x : RefI) (hx : x ∈ l) => by
     have hR0 := rowE_ok hE (ref_parts (hlr x hx)).1
     have h := image_Row k r c w x.1 v L cells hv
     unfold rowVal at h
     rw [if_pos hR0] at h
     exact h
   have hread := fun (x : RefI) (hx : x ∈ l) => stripe_Read k r c w 1 x.2 _ _ _ (row_rowV k r c w L x.1 (by omega)) hm (row_rowB (rowE_ok hE (ref_parts (hlr x hx)).1)).1 (.inl rfl) (by unfold verB; exact decide_eq_true (ref_parts (hlr x hx)).2)
   have hrdR := fun (x : RefI) => (row_rowV k r c w L x.1 (by omega)).rd
   have hdl := fun (x : RefI) => dataL_len k r c w (rowL k r w L x.1) 1 x.2 k.toNat
   unfold imV at hrow
   unfold cutV cutB bytC cutE
   rw [hW] at hWd
   rw [hWn, hn]
   unfold sreadV at hread
   rw [hKC] at hread hdl
   have hlB : ∀ x, lostB k r c w L x = decide (manyN k r c w (rowL k r w L x.1) 1 x.2 < k.toNat) := fun _ => rfl
   have hlD : ∀ x, leafD k r c w L x = dataL k r c w (rowL k r w L x.1) 1 x.2 k.toNat := fun _ => rfl
   generalize hEE : (if (List.range l.length).any (fun i => meetB W fr to i && lostB k r c w L (l.getD i (0, 0))) = true then (5 : Int) else 0) = EE
   have hbad : ∀ (i : Nat) (x : RefI), l[i]? = some x → meetB W fr to i = true → lostB k r c w L x = true → EE = 5 := fun i x hx h1 h2 => by
     rw [← hEE, if_pos]
     refine List.any_eq_true.2 ⟨i, List.mem_range.2 (List.getElem?_eq_some_iff.1 hx).1, ?_⟩
     rw [h1, List.getD_eq_getElem?_getD, hx]
     exact h2
   have hgood : (∀ (i : Nat) (x : RefI), l[i]? = some x → meetB W fr to i = true → lostB k r c w L x = false) → EE = 0 := fun h => by
     rw [← hEE, if_neg]
     intro h2
     obtain ⟨i, hi, h3⟩ := List.any_eq_true.1 h2
     have hi' := List.mem_range.1 hi
     rw [Bool.and_eq_true, List.getD_eq_getElem?_getD, List.getElem?_eq_getElem hi'] at h3
     have := h i _ (List.getElem?_eq_getElem hi') h3.1
     rw [show (some l[i]).getD (0, 0) = l[i] from rfl, this] at h3
     exact absurd h3.2 (by decide)
   generalize hFF : (fun j => if fr + j < l.length * W then (leafD k r c w L (l.getD ((fr + j) / W) (0, 0))).getD ((fr + j) % W) 0 else (0 : UInt8)) = FF
   have hFb : ∀ (i : Nat) (x : RefI) (j : Nat), l[i]? = some x → i * W ≤ fr + j → fr + j < i * W + W → FF j = (leafD k r c w L x).getD (fr + j - i * W) 0 := fun i x j hx h1 h2 => by
     rw [← hFF]
     have hi := (List.getElem?_eq_some_iff.1 hx).1
     have h3 : (i + 1) * W ≤ l.length * W := Nat.mul_le_mul_right _ hi
     rw [Nat.add_mul, Nat.one_mul] at h3
     have hdv : (fr + j) / W = i := by
       refine Nat.div_eq_of_lt_le h1 ?_
       rw [Nat.add_mul, Nat.one_mul]; exact h2
     have hmd : (fr + j) % W = fr + j - i * W := by
       have := Nat.div_add_mod (fr + j) W
       rw [hdv, Nat.mul_comm] at this
       omega
     simp only [hdv, hmd]
     rw [if_pos (by omega), List.getD_eq_getElem?_getD (l := l), hx]
     rfl
   have hF0 : ∀ j, ¬ fr + j < l.length * W → FF j = 0 := fun j h => by rw [← hFF]; simp only; rw [if_neg h]
   clear hFF hEE hWn
   generalize hRES : (if EE = 0 then AV.tup [takA (tab n FF), intV 0] else AV.tup [nilS, intV EE]) = RES
   replace hRES := Hid.mk hRES
   replace hbad := Hid.mk hbad
   replace hgood := Hid.mk hgood
   replace hFb := Hid.mk hFb
   replace hF0 := Hid.mk hF0
   replace hml := Hid.mk hml
   replace hmn := Hid.mk hmn
   replace hw := Hid.mk hw
   replace hW8 := Hid.mk hW8
   replace hrow := Hid.mk hrow
   replace hread := Hid.mk hread
   replace hrdR := Hid.mk hrdR
   replace hdl := Hid.mk hdl
   replace hKC := Hid.mk hKC
   replace hn := Hid.mk hn
   replace hlr := Hid.mk hlr
   replace hlB := Hid.mk hlB
   replace hlD := Hid.mk hlD
   replace hW := Hid.mk hW
   have hsa := fun (i : Nat) (x : RefI) (hi : l[i]? = some x) => refsA_at l x0 i x hi
   replace hsa := Hid.mk hsa
   have hps := hsr.plain
   refine ospec_of_body follows Tryz.func103 (by unfold Tryz.f103; rfl) (by unfold Tryz.f103; simp) onceCu (by unfold Tryz.f103; simp) (by kernel_rfl) ?_; unfold Tryz.f103
   simp only [↓pre, simprocAttr, parV, sx, tys103, onceCu, bne, postU, postV, hf, ho, h1, sr]
   (first | refine call_plain (hWd) (by first | rfl | simp only [parV, plQ, *]) ?_ | refine call_pure (hWd) (by first | rfl | simp only [parV, plQ, *]) (by intro k; first | rfl | simp only [sq, sr, *]) ?_); simp only [↓pre, simprocAttr, parV, sx, tys103, onceCu, bne, postU, postV, hf, ho, h1, wn, hmk, hsr.len', sr]
   rw [codeW_loop]
   refine loop_intro (fun q e m => ∃ i, q + i = l.length ∧ e 1 = sv ∧ e 2 = intV (fr : Nat) ∧ e 3 = intV (to : Nat) ∧ e 4 = .tptr 0 [intV k, intV r, intV c, intV w, v] ∧ e 10 = intV (W : Nat) ∧ e 12 = .sl 0 0 n n true ∧ e 36 = intV (l.length : Nat) ∧ e 37 = intV (i : Nat) ∧ Hid (m.at_ 0 = some ⟨tabA n fun j => if fr + j < i * W then FF j else 0, 5, .flat, true⟩ ∧ ∀ (j : Nat) (x : RefI), j < i → l[j]? = some x → meetB W fr to j = true → lostB k r c w L x = false)) l.length ⟨0, by omega, rfl, rfl, rfl, rfl, rfl, rfl, rfl, rfl, ⟨by rw [push_at, if_pos (by decide)]; congr 3; funext j; rw [Nat.zero_mul, if_neg (by omega)], fun j x h => by omega⟩⟩ ?_
   rintro q e m ⟨i, hq, e1, e2, e3, e4, e10, e12, e36, e37, hJ⟩
   replace hq := Hid.mk hq
   obtain ⟨hb, hno⟩ := hJ.out
   clear hJ
   by_cases hlt : i < l.length
   · have hlt' : ((i : Nat) : Int) < ((l.length : Nat) : Int) := by omega
     have wi := wrap_succ (n := i) (by omega)
     obtain ⟨x, hx⟩ : ∃ x, l[i]? = some x := ⟨_, List.getElem?_eq_getElem hlt⟩
     have hiW : (i + 1) * W ≤ 20000 * 768 := Nat.mul_le_mul (by omega) hW8.out.2
     have hsuc : (i + 1) * W = i * W + W := by rw [Nat.add_mul, Nat.one_mul]
     have w1 : IntKind.i64.wrap (((i : Nat) : Int) * ((W : Nat) : Int)) = ((i * W : Nat) : Int) := by rw [show ((i : Nat) : Int) * ((W : Nat) : Int) = ((i * W : Nat) : Int) by simp]; exact wrap_nat (by omega)
     have w2 : IntKind.i64.wrap (((i + 1 : Nat) : Int) * ((W : Nat) : Int)) = (((i + 1) * W : Nat) : Int) := by rw [show ((i + 1 : Nat) : Int) * ((W : Nat) : Int) = (((i + 1) * W : Nat) : Int) by simp]; exact wrap_nat (by omega)
     obtain ⟨A, hA, hA2⟩ : ∃ A : Nat, max ((fr : Nat) : Int) ((i * W : Nat) : Int) = (A : Int) ∧ A = max fr (i * W) := ⟨max fr (i * W), by omega, rfl⟩
     obtain ⟨Z, hZ, hZ2⟩ : ∃ Z : Nat, min ((to : Nat) : Int) (((i + 1) * W : Nat) : Int) = (Z : Int) ∧ Z = min to ((i + 1) * W) := ⟨min to ((i + 1) * W), by omega, rfl⟩
     have hmeet : meetB W fr to i = decide (A < Z) := by unfold meetB; rw [hA2, hZ2]
     by_cases hAZ : A < Z
     · rw [decide_eq_true hAZ] at hmeet
       have hAZ' : ¬ ((Z : Nat) : Int) ≤ ((A : Nat) : Int) := by omega
       obtain ⟨ha, hb2⟩ := hsa.out i x hx
       have hxm := List.mem_of_getElem? hx
       have hr := hrow.out x hxm
       have hrd := hread.out x hxm
       have hRr := hrdR.out x
       have pR := hRr.plain
       have sR := rd_shift hRr
       have hlBx := hlB.out x
       generalize treeR (k + r).toNat (prA (rowL k r w L x.1)) = RV at *
       by_cases hlo : manyN k r c w (rowL k r w L x.1) 1 x.2 < k.toNat
       · rw [if_pos hlo] at hrd
         rw [decide_eq_true hlo] at hlBx
         have h5 := hbad.out i x hx hmeet hlBx
         have hres := hRES.out
         rw [h5, if_neg (by decide)] at hres
         have hz := fun m => fzId_two (fzId_val (.slice none 0 0)) (fzId_val (.int .i64 5)) 1 m
         replace hz := Hid.mk hz
         replace hres := Hid.mk hres
         replace hno := Hid.mk hno
         replace hb := Hid.mk hb
         replace hRr := Hid.mk hRr
         simp only [nilS] at hrd
         simp only [↓pre, simprocAttr, parV, sx, tys103, onceCu, bne, postU, postV, hf, ho, e1, e2, e3, e4, e10, e12, e36, e37, hlt', hlt, w1, wi, w2, hA, hZ, hAZ', hsr.addr', ha, hb2, sr]
         (first | refine call_plain (hr) (by first | rfl | simp only [parV, plQ, *]) ?_ | refine call_pure (hr) (by first | rfl | simp only [parV, plQ, *]) (by intro k; first | rfl | simp only [sq, sr, *]) ?_); simp only [↓pre, simprocAttr, parV, sx, tys103, onceCu, bne, postU, postV, hf, ho, e1, e2, e3, e4, e10, e12, e36, e37, hlt', hlt, hsr.addr', ha, hb2, sR, sr]; (first | refine call_plain (hrd) (by first | rfl | simp only [parV, plQ, *]) ?_ | refine call_pure (hrd) (by first | rfl | simp only [parV, plQ, *]) (by intro k; first | rfl | simp only [sq, sr, *]) ?_); simp only [↓pre, simprocAttr, parV, sx, tys103, onceCu, bne, postU, postV, hf, ho, e1, e2, e3, e4, e10, e12, e36, e37, hlt', hlt, hsr.addr', ha, hb2, sR, sr]
         rw [← hres.out]
         exact ⟨1, hz.out _⟩
       · rw [if_neg hlo] at hrd
         rw [decide_eq_false hlo] at hlBx
         have hDl := hdl.out x
         have hFx := hFb.out i x
         rw [hlD.out x] at hFx
         generalize dataL k r c w (rowL k r w L x.1) 1 x.2 k.toNat = D at *
         have hDr := treeR_rd W (bytesA D)
         have pD := hDr.plain
         have sD := rd_shift hDr
         obtain ⟨dv, s2, r2⟩ := hDr.slice (P := Tryz.prog) (t := 52) (sz := 1) (lo := some (A - i * W)) (hi := none) (by kernel_rfl) (by simp only [Option.getD_some, Option.getD_none]; omega) (by simp)
         simp only [Option.getD_some, Option.getD_none, Nat.mul_one] at r2
         have hsrc := fun m => r2.src (P := Tryz.prog) (m := m) (el := 5) (sz := 1) (by rw [List.length_drop, bytesA_len]; omega)
         have hsx := fun d c m lo hi mx => hDr.sliceX (P := Tryz.prog) (m := m) (t := 52) (d := d) (c := c) (lo := lo) (hi := hi) (mx := mx)
         generalize treeR W (bytesA D) = DV at *
         have wA : IntKind.i64.wrap (((A : Nat) : Int) - ((fr : Nat) : Int)) = ((A - fr : Nat) : Int) := by rw [show ((A : Nat) : Int) - ((fr : Nat) : Int) = ((A - fr : Nat) : Int) by omega]; exact wrap_nat (by omega)
         have wZ : IntKind.i64.wrap (((Z : Nat) : Int) - ((fr : Nat) : Int)) = ((Z - fr : Nat) : Int) := by rw [show ((Z : Nat) : Int) - ((fr : Nat) : Int) = ((Z - fr : Nat) : Int) by omega]; exact wrap_nat (by omega)
         have wD : IntKind.i64.wrap (((A : Nat) : Int) - ((i * W : Nat) : Int)) = ((A - i * W : Nat) : Int) := by rw [show ((A : Nat) : Int) - ((i * W : Nat) : Int) = ((A - i * W : Nat) : Int) by omega]; exact wrap_nat (by omega)
         have hn' := hn.out
         have hso : slOk Tryz.prog m 52 (.sl 0 0 n n true) = true := by
           have : elE Tryz.prog 52 = some 5 := by kernel_rfl
           simp [slOk, hb, this]
         have hsl : sliceE Tryz.prog 52 (some (A - fr)) (some (Z - fr)) none (.sl 0 0 n n true) = some (.sl 0 (A - fr) (Z - A) (n - (A - fr)) true) := by
           have h3 : elE Tryz.prog 52 = some 5 := by kernel_rfl
           have h4 : szE Tryz.prog 5 = some 1 := by kernel_rfl
           simp only [sliceE, h3, h4, Option.isSome_none, Bool.false_and, Bool.false_eq_true, if_false, Option.bind_some, Option.getD_some, Option.getD_none, Go.Tw.cutE]
           rw [if_pos (by omega), if_neg (by omega)]
           simp
           omega
         have hcp : copyE Tryz.prog 5 m (.sl 0 (A - fr) (Z - A) (n - (A - fr)) true) dv = some ⟨intV (min (W - (A - i * W)) (Z - A) : Nat), m.put 0 (some ⟨tabA n fun j => if fr + j < (i + 1) * W then FF j else 0, 5, .flat, true⟩), none⟩ := cut_copy hb (hsrc m) hDl (fun j => hFx j hx) hA2 hZ2 hsuc hn' hAZ
         have hstep : ∀ (j : Nat) (y : RefI), j < i + 1 → l[j]? = some y → meetB W fr to j = true → lostB k r c w L y = false := fun j y hj hy hmt => by
           by_cases hji : j = i
           · subst hji
             rw [hx] at hy
             cases hy
             exact hlBx
           · exact hno j y (by omega) hy hmt
         replace hno := Hid.mk hno
         replace hstep := Hid.mk hstep
         replace hb := Hid.mk hb
         replace hRr := Hid.mk hRr
         replace hDr := Hid.mk hDr
         replace r2 := Hid.mk r2
         replace hsrc := Hid.mk hsrc
         replace hFx := Hid.mk hFx
         simp only [↓pre, simprocAttr, parV, sx, tys103, onceCu, bne, postU, postV, hf, ho, e1, e2, e3, e4, e10, e12, e36, e37, hlt', hlt, w1, wi, w2, hA, hZ, hAZ', hsr.addr', ha, hb2, sR, sD, wA, wZ, wD, hso, hsl, hsx, s2, hcp, copy2, optNat, Option.map_some, Option.map_none, sr]
         (first | refine call_plain (hr) (by first | rfl | simp only [parV, plQ, *]) ?_ | refine call_pure (hr) (by first | rfl | simp only [parV, plQ, *]) (by intro k; first | rfl | simp only [sq, sr, *]) ?_); simp only [↓pre, simprocAttr, parV, sx, tys103, onceCu, bne, postU, postV, hf, ho, e1, e2, e3, e4, e10, e12, e36, e37, hlt', hlt, w1, wi, w2, hA, hZ, hAZ', hsr.addr', ha, hb2, sR, sD, wA, wZ, wD, hso, hsl, hsx, s2, hcp, copy2, optNat, Option.map_some, Option.map_none, sr]; (first | refine call_plain (hrd) (by first | rfl | simp only [parV, plQ, *]) ?_ | refine call_pure (hrd) (by first | rfl | simp only [parV, plQ, *]) (by intro k; first | rfl | simp only [sq, sr, *]) ?_); simp only [↓pre, simprocAttr, parV, sx, tys103, onceCu, bne, postU, postV, hf, ho, e1, e2, e3, e4, e10, e12, e36, e37, hlt', hlt, w1, wi, w2, hA, hZ, hAZ', hsr.addr', ha, hb2, sR, sD, wA, wZ, wD, hso, hsl, hsx, s2, hcp, copy2, optNat, Option.map_some, Option.map_none, sr]
         refine contW_fixed (by kernel_rfl) ?_
         simp only [↓pre, simprocAttr, parV, sx, tys103, onceCu, bne, postU, postV, hf, ho, e1, e2, e3, e4, e10, e12, e36, e37, hlt', hlt, w1, wi, w2, hA, hZ, hAZ', hsr.addr', ha, hb2, sR, sD, wA, wZ, wD, hso, hsl, hsx, s2, hcp, copy2, optNat, Option.map_some, Option.map_none, sr]
         exact ⟨q - 1, by have := hq.out; omega, i + 1, by have := hq.out; omega, rfl, ⟨rfl, hstep.out⟩⟩
     · rw [decide_eq_false hAZ] at hmeet
       have hAZ' : ((Z : Nat) : Int) ≤ ((A : Nat) : Int) := by omega
       have hstep : ∀ (j : Nat) (y : RefI), j < i + 1 → l[j]? = some y → meetB W fr to j = true → lostB k r c w L y = false := fun j y hj hy hmt => by
         by_cases hji : j = i
         · subst hji
           rw [hmeet] at hmt
           cases hmt
         · exact hno j y (by omega) hy hmt
       have hn' := hn.out
       have heq : (tabA n fun j => if fr + j < i * W then FF j else 0) = tabA n fun j => if fr + j < (i + 1) * W then FF j else 0 := tabA_congr fun j hj => by
         by_cases h5 : fr + j < i * W
         · rw [if_pos h5, if_pos (by omega)]
         · rw [if_neg h5, if_neg (by omega)]
       rw [heq] at hb
       replace hno := Hid.mk hno
       replace hstep := Hid.mk hstep
       replace hb := Hid.mk hb
       replace heq := Hid.mk heq
       simp only [↓pre, simprocAttr, parV, sx, tys103, onceCu, bne, postU, postV, hf, ho, e1, e2, e3, e4, e10, e12, e36, e37, hlt', hlt, w1, wi, w2, hA, hZ, hAZ', sr]
       exact ⟨q - 1, by have := hq.out; omega, i + 1, by have := hq.out; omega, rfl, ⟨hb.out, hstep.out⟩⟩
   · have hlt' : ¬ ((i : Nat) : Int) < ((l.length : Nat) : Int) := by omega
     have hi : i = l.length := by have := hq.out; omega
     have h0 := hgood.out fun j x hx hmt => hno j x (by have := (List.getElem?_eq_some_iff.1 hx).1; omega) hx hmt
     have hres := hRES.out
     rw [h0, if_pos rfl] at hres
     have heq : (tabA n fun j => if fr + j < i * W then FF j else 0) = bytesA (tab n FF) := by
       rw [show bytesA (tab n FF) = tabA n FF from rfl]
       refine tabA_congr fun j hj => ?_
       rw [hi]
       by_cases h5 : fr + j < l.length * W
       · rw [if_pos h5]
       · rw [if_neg h5, hF0.out j h5]
     rw [heq] at hb
     have htk : takA (tab n FF) = .tree n n (bytesA (tab n FF)) true := by
       unfold takA
       rw [tab_len, if_neg (by have := hn.out; omega)]
     rw [htk] at hres
     replace hno := Hid.mk hno
     replace hb := Hid.mk hb
     replace heq := Hid.mk heq
     replace hres := Hid.mk hres
     replace htk := Hid.mk htk
     simp only [↓pre, simprocAttr, parV, sx, tys103, onceCu, bne, postU, postV, hf, ho, e1, e2, e3, e4, e10, e12, e36, e37, hlt', sr]
     rw [← hres.out]
     exact ⟨0, by rw [fzT_tup, fzTs_cons, fzT_flat hb.out, Option.bind_some, fzTs_cons, fzT_val, fzTs_nil, List.drop_zero]; rfl⟩
end Go.Proofs.YtaekhhlgnbhnpaaGreat