import Derived.Test.YtaekhhlgnbhnpaaGreatPtcG19
import Derived.Test.YtaekhhlgnbhnpaaGreatPtcG17
set_option linter.unusedVariables false
set_option linter.unusedSimpArgs false
set_option maxRecDepth 10000
namespace Go.Proofs.YtaekhhlgnbhnpaaGreat
open Go Go.Tw Go.Proofs Go.Gf
theorem copy2 {P : Program} {m : Mem} {t t2 ty : TypeId} {d x : AV} : builtinE P m #[t, t2] ty [d, x] .copy = (elE P t).bind fun el => copyE P el m d x := rfl
def padB (bs : List UInt8) (W : Nat) : List UInt8 := bs ++ List.replicate (W - bs.length) 0
theorem padB_len {bs : List UInt8} {W : Nat} (h : bs.length ≤ W) : (padB bs W).length = W := by simp [padB]; omega
theorem tabA_zero (W : Nat) : tabA W (fun _ => 0) = bytesA (List.replicate W 0) := by
 unfold tabA tab bytesA
 congr 1
 apply List.ext_getElem
 · simp
 · intro i h1 h2; simp
theorem desc_wide (k r c w : Int) (hm : mayB k r c w = true) (m0 : Mem) (lv : AV) (bs : List UInt8) (ho : Own m0 5 1 lv bs.length (bytesA bs)) (hl : bs.length ≤ (wI k c).toNat) : OSpec Tryz.prog 193 [parV k r c w, lv] m0 fun res m' => res = .tup [.sl m0.next 0 (wI k c).toNat (wI k c).toNat true, intV 0] ∧ m' = m0.push ⟨bytesA (padB bs (wI k c).toNat), 5, .flat, true⟩ := by
 have hw := layout_Width k r c w
 have hwb := may_w hm
 simp only [hm, if_true] at hw
 obtain ⟨W, hW⟩ : ∃ W : Nat, wI k c = (W : Int) := ⟨(wI k c).toNat, by unfold wI; omega⟩
 have hWn : (wI k c).toNat = W := by omega
 have hW8 : W ≤ 768 := by unfold wI at hW; omega
 rw [hWn] at hl ⊢
 rw [hW] at hw
 have hmk := fun m => make_bytes m (n := W) (by omega)
 have hown := ho.push (x := ⟨tabA W fun _ => 0, 5, .flat, true⟩)
 have hsrc := own_src (P := Tryz.prog) (el' := 5) (kd := .flat) hown (by kernel_rfl)
 have hcp : copyE Tryz.prog 5 (m0.push ⟨tabA W fun _ => 0, 5, .flat, true⟩) (.sl m0.next 0 W W true) lv = some ⟨intV (bs.length : Nat), m0.push ⟨bytesA (padB bs W), 5, .flat, true⟩, none⟩ := by
   have h2 : szE Tryz.prog 5 = some 1 := by kernel_rfl
   have h4 : kindT Tryz.prog 5 = .flat := by kernel_rfl
   have hb : (m0.push ⟨tabA W fun _ => 0, 5, .flat, true⟩).at_ m0.next = some ⟨tabA W fun _ => 0, 5, .flat, true⟩ := by rw [push_at, if_pos rfl]
   simp only [copyE, h2, hsrc, hb, Option.bind_some, h4]
   rw [if_pos ⟨trivial, trivial, by rw [tabA_len]; omega⟩, push_put rfl]
   have hmin : min bs.length W = bs.length := by omega
   rw [hmin, Nat.mul_one, List.take_of_length_le (by rw [bytesA_len]; omega), tabA_zero]
   congr 4
   unfold padB splice
   rw [bytesA_append, bytesA_len, List.take_zero, List.nil_append, Nat.zero_add]
   congr 1
   unfold bytesA
   rw [← List.map_drop, List.drop_replicate]
 refine ospec_of_body follows Tryz.func193 (by unfold Tryz.f193; rfl) (by unfold Tryz.f193; simp) onceA (by unfold Tryz.f193; simp) (by kernel_rfl) ?_; unfold Tryz.f193
 simp only [↓pre, simprocAttr, parV, sx, tys193, onceA, postU, sr]
 refine call_plain (hw) (by rfl) ?_; simp only [↓pre, simprocAttr, parV, sx, tys193, onceA, postU, hmk, copy2, hcp, sr]
def headB (len dep : Int) (n : Nat) : List UInt8 := numB len 4 ++ (numB dep 1 ++ numB (n : Nat) 2)
def madeB (k c len dep : Int) (l : List RefI) : List UInt8 := padB (headB len dep l.length ++ refsB l) (wI k c).toNat
def descBV (k r c w len dep : Int) (l : List RefI) : AV := if chkD k r c w len dep l = 0 then .tup [.tree (wI k c).toNat (wI k c).toNat (bytesA (madeB k c len dep l)) true, intV 0] else .tup [nilS, intV (chkD k r c w len dep l)]
theorem desc_fit {k r c w len dep : Int} {l : List RefI} (h : chkD k r c w len dep l = 0) : mayB k r c w = true ∧ descOk k r c w len dep l = true := by
 unfold chkD at h
 split at h
 · rename_i h1
   split at h
   · rename_i h2; exact ⟨h1, h2⟩
   · omega
 · omega
theorem up_div {a b d : Int} (hb : 0 < b) (h : a ≤ d * b) : upI a b ≤ d := by
 unfold upI
 have : a + b - 1 < (d + 1) * b := by rw [Int.add_mul, Int.one_mul]; omega
 have := Int.ediv_lt_of_lt_mul hb this
 omega
theorem desc_bounds {k r c w len dep : Int} {l : List RefI} (h : chkD k r c w len dep l = 0) : 0 ≤ len ∧ len ≤ 32768 ∧ (dep = 0 ∨ dep = 1) ∧ (l.length : Int) ≤ dI k c ∧ (∀ x ∈ l, (0 ≤ x.1 ∧ x.1 < w) ∧ 1 ≤ x.2 ∧ x.2 ≤ 1073741824) := by
 obtain ⟨hm, hd⟩ := desc_fit h
 unfold descOk at hd
 simp only [Bool.and_eq_true, decide_eq_true_eq] at hd
 obtain ⟨h1, h2, h3, h4⟩ := hd
 have hF0 := oF_nn (n := len) hm
 have hml := m_le k c
 have hw := may_w hm
 have hl0 : 0 ≤ len ∧ len ≤ mI k c := by
   unfold oE at h1
   rw [hm, if_pos rfl] at h1
   split at h1
   · omega
   · split at h1
     · omega
     · omega
 have hrf : ∀ x ∈ l, (0 ≤ x.1 ∧ x.1 < w) ∧ 1 ≤ x.2 ∧ x.2 ≤ 1073741824 := fun x hx => by
   have := List.all_eq_true.1 h4 x hx
   unfold refB at this
   exact of_decide_eq_true this
 refine ⟨hl0.1, by omega, by omega, ?_, hrf⟩
 rw [h3]
 have hdb := d_bounds hw.1 hw.2
 have hlb := l_bounds hw.1 hw.2
 have hmd : len ≤ dI k c * lI k c * (k * c) := by unfold mI at hl0; omega
 unfold oF oS at *
 rw [h1, if_pos rfl] at *
 have hs : sI k c len ≤ dI k c * lI k c := up_div (by unfold wI; omega) (by unfold wI; omega)
 by_cases hf : sI k c len ≤ dI k c
 · have : fI k c len = 0 := by unfold fI; rw [if_pos hf]
   rw [this] at h2 ⊢
   have hd0 : dep = 0 := by omega
   rw [if_neg (by omega)]
   exact hf
 · have hfi : fI k c len = upI (sI k c len) (lI k c) := by unfold fI; rw [if_neg hf]
   have hle : upI (sI k c len) (lI k c) ≤ dI k c := up_div (by unfold lI; omega) hs
   split
   · rw [hfi]; exact hle
   · rename_i hd1
     exfalso
     have hpos : 1 ≤ upI (sI k c len) (lI k c) := by
       unfold upI
       have h9 : 1 * lI k c ≤ sI k c len + lI k c - 1 := by unfold dI at hf; omega
       exact (Int.le_ediv_iff_mul_le (by unfold lI; omega)).2 h9
     rw [hfi] at h2
     omega
def onceBy : Nat → Bool := fun d => d != 30 && d != 31
theorem desc_Bytes (k r c w len dep : Int) (v : AV) (l : List RefI) (hv : RefsV v l) (hn : l.length ≤ 9223372036854775807) : FSpec Tryz.prog 109 [parV k r c w, .agg [intV len, intV dep, v]] ⟨descBV k r c w len dep l, []⟩ := by
 refine fspec_fzT ?_
 have h1 := desc_Check k r c w len dep v l hv hn
 unfold descBV
 by_cases hc : chkD k r c w len dep l = 0
 · rw [if_pos hc]
   rw [hc] at h1
   obtain ⟨hlen0, hlen1, hdep, hll, hlr⟩ := desc_bounds hc
   obtain ⟨hm, _⟩ := desc_fit hc
   have hw := may_w hm
   have hdb := d_bounds hw.1 hw.2
   have hl126 : l.length ≤ 126 := by unfold dI at hll; omega
   have ho0 : Own Mem.empty 5 1 nilS ([] : List AV).length [] := own_nil
   have t1 := desc_told Mem.empty nilS [] len 4 ho0 hlen0 (by omega) (by omega) (by simp)
   have o1 := growB_own (bytesA (numB len 4)) _ _ _ ho0
   rw [← List.length_append] at o1
   have t2 := desc_told _ _ _ dep 1 o1 (by omega) (by omega) (by omega) (by rw [List.length_append, bytesA_len, numB_len]; simp)
   have o2 := growB_own (bytesA (numB dep 1)) _ _ _ o1
   rw [← List.length_append] at o2
   have t3 := desc_told _ _ _ (l.length : Nat) 2 o2 (by omega) (by omega) (by omega) (by rw [List.length_append, List.length_append, bytesA_len, numB_len, bytesA_len, numB_len]; simp)
   have o3 := growB_own (bytesA (numB (l.length : Nat) 2)) _ _ _ o2
   rw [← List.length_append] at o3
   have t4 := desc_add _ _ _ v l hv o3 (fun x hx => by have := hlr x hx; have := mayB_of.1 hm; omega) (by omega) (by rw [List.length_append, List.length_append, List.length_append, bytesA_len, numB_len, bytesA_len, numB_len, bytesA_len, numB_len]; simp)
   have o4 := addG_own l _ _ _ o3
   have hcs : (([] : List AV) ++ bytesA (numB len 4) ++ bytesA (numB dep 1) ++ bytesA (numB (l.length : Nat) 2)) ++ bytesA (refsB l) = bytesA (headB len dep l.length ++ refsB l) := by
     unfold headB
     simp only [bytesA_append, List.nil_append, List.append_assoc]
   have hcl : (([] : List AV) ++ bytesA (numB len 4) ++ bytesA (numB dep 1) ++ bytesA (numB (l.length : Nat) 2)).length + (refsB l).length = (headB len dep l.length ++ refsB l).length := by
     unfold headB
     simp [bytesA_len, numB_len]
     omega
   rw [hcs, hcl] at o4
   have hfit : (headB len dep l.length ++ refsB l).length ≤ (wI k c).toNat := by
     unfold headB
     simp only [List.length_append, numB_len, refsB_len]
     unfold dI at hll
     unfold wI
     omega
   have t5 := desc_wide k r c w hm _ _ _ o4 hfit
   obtain ⟨x, hv⟩ := hv
   have f1 := rd_fz hv
   have q1 := rd_one hv
   have hp := hv.plain
   replace hlr := Hid.mk hlr
   replace hfit := Hid.mk hfit
   replace o4 := Hid.mk o4
   replace hcs := Hid.mk hcs
   replace hcl := Hid.mk hcl
   replace o1 := Hid.mk o1
   replace o2 := Hid.mk o2
   replace o3 := Hid.mk o3
   generalize growB 5 Mem.empty nilS [] (bytesA (numB len 4)) = G1 at *
   generalize growB 5 G1.1 G1.2 ([] ++ bytesA (numB len 4)) (bytesA (numB dep 1)) = G2 at *
   generalize growB 5 G2.1 G2.2 ([] ++ bytesA (numB len 4) ++ bytesA (numB dep 1)) (bytesA (numB (l.length : Nat) 2)) = G3 at *
   generalize addG G3.1 G3.2 ([] ++ bytesA (numB len 4) ++ bytesA (numB dep 1) ++ bytesA (numB (l.length : Nat) 2)) l = G4 at *
   have n4 : (((4 : Nat) : Nat) : Int) = 4 := rfl
   have n1 : (((1 : Nat) : Nat) : Int) = 1 := rfl
   have n2 : (((2 : Nat) : Nat) : Int) = 2 := rfl
   rw [n4] at t1
   rw [n1] at t2
   rw [n2] at t3
   simp only [intV, nilS] at t1 t2 t3 t4 t5
   refine ospec_of_body follows Tryz.func109 (by unfold Tryz.f109; rfl) (by unfold Tryz.f109; simp) onceBy (by unfold Tryz.f109; simp) (by kernel_rfl) ?_; unfold Tryz.f109
   simp only [↓pre, simprocAttr, parV, sx, tys109, onceBy, bne, postU, f1, q1, sr]
   refine call_plain (h1) (by simp only [parV, plQ, *]) ?_; simp only [↓pre, simprocAttr, parV, sx, tys109, onceBy, bne, postU, f1, q1, sr]
   refine call_det t1 ?_
   simp only [↓pre, simprocAttr, parV, sx, tys109, onceBy, bne, postU, f1, q1, sr]
   refine call_det t2 ?_
   simp only [↓pre, simprocAttr, parV, sx, tys109, onceBy, bne, postU, f1, q1, hv.len', sr]
   refine call_det t3 ?_
   simp only [↓pre, simprocAttr, parV, sx, tys109, onceBy, bne, postU, f1, q1, sr]
   refine call_det t4 ?_
   refine contW_fixed (by kernel_rfl) ?_
   simp only [↓pre, simprocAttr, parV, sx, tys109, onceBy, bne, postU, f1, q1, sr]
   refine call_det t5 ?_
   refine contW_fixed (by kernel_rfl) ?_
   simp only [↓pre, simprocAttr, parV, sx, tys109, onceBy, bne, postU, f1, q1, sr]
   refine ⟨0, ?_⟩
   rw [fzT_tup, fzTs_cons, fzT_flat (by rw [push_at, if_pos rfl]), Option.bind_some, fzTs_cons, fzT_val, fzTs_nil, List.drop_zero]
   rfl
 · rw [if_neg hc]
   obtain ⟨x, hv⟩ := hv
   have f1 := rd_fz hv
   have q1 := rd_one hv
   have hp := hv.plain
   have hf := fun m => fzId_two (fzId_val (.slice none 0 0)) (fzId_val (.int .i64 (chkD k r c w len dep l))) 1 m
   replace hf := Hid.mk hf
   refine ospec_of_body follows Tryz.func109 (by unfold Tryz.f109; rfl) (by unfold Tryz.f109; simp) onceA (by unfold Tryz.f109; simp) (by kernel_rfl) ?_; unfold Tryz.f109
   simp only [↓pre, simprocAttr, parV, sx, tys109, onceA, postU, f1, q1]
   refine call_plain (h1) (by simp only [parV, plQ, *]) ?_; simp only [↓pre, simprocAttr, parV, sx, tys109, onceA, postU, hc, nilS]
   exact ⟨1, hf.out _⟩
theorem desc_number (v : AV) (n : Nat) (bs : List UInt8) (x : List AV) (hv : RdSl v n (bytesA bs ++ x)) (hn : n ≤ bs.length) (hn4 : n ≤ 4) : FSpec Tryz.prog 167 [v] ⟨intV (beN (bs.take n) : Nat), []⟩ := by
 have hp := hv.plain
 refine fspec_of_body follows Tryz.func167 (by unfold Tryz.f167; rfl) (by unfold Tryz.f167; simp) onceA (by unfold Tryz.f167; simp) (by kernel_rfl) ?_; unfold Tryz.f167
 simp only [↓pre, simprocAttr, parV, sx, tys167, onceA, postU, postV, postX, hv.len']
 rw [codeW_loop]
 refine loop_intro (fun q e m => ∃ i, q + i = n ∧ e 6 = v ∧ e 7 = intV (n : Nat) ∧ e 8 = intV (i : Nat) ∧ e 3 = intV (beN (bs.take i) : Nat)) n ⟨0, by omega, rfl, rfl, rfl, by simp [Env.set, intV, beN]⟩ ?_
 rintro q e m ⟨i, hi, e6, e7, e8, e3⟩
 replace hi := Hid.mk hi
 by_cases hlt : i < n
 · have hlt' : ((i : Nat) : Int) < ((n : Nat) : Int) := by omega
   obtain ⟨a, ha⟩ : ∃ a, bs[i]? = some a := ⟨_, List.getElem?_eq_getElem (by omega)⟩
   have a1 := byte_at (x := x) ha
   have a2 := be_take ha
   have hle := be_le i bs
   have ha256 := a.toNat_lt
   have w1 := wrap_succ (n := i) (by omega)
   have hpow : 256 ^ i ≤ 256 ^ 3 := Nat.pow_le_pow_right (by decide) (by omega)
   have h3 : 256 ^ 3 = 16777216 := by decide
   have w5 : IntKind.i64.wrap (a.toNat : Int) = (a.toNat : Int) := wrap_nat (by omega)
   have w7 : IntKind.i64.wrap (((beN (bs.take i) : Nat) : Int) * 2 ^ min 8 IntKind.i64.bits) = ((beN (bs.take i) * 256 : Nat) : Int) := by
     rw [show (((beN (bs.take i) : Nat) : Int) * 2 ^ min 8 IntKind.i64.bits) = ((beN (bs.take i) * 256 : Nat) : Int) by simp [IntKind.bits]]
     exact wrap_nat (by omega)
   have w8 : borI .i64 ((beN (bs.take i) * 256 : Nat) : Int) (a.toNat : Int) = ((beN (bs.take i) * 256 + a.toNat : Nat) : Int) := by
     rw [borI_i64 (by omega) (by omega), or_add (by omega)]
   replace hle := Hid.mk hle
   replace hpow := Hid.mk hpow
   replace ha256 := Hid.mk ha256
   replace a2 := Hid.mk a2
   simp only [↓pre, simprocAttr, parV, sx, tys167, onceA, postU, postV, postX, e6, e7, e8, e3, hlt', hv.addr', hlt, Nat.mul_one, a1, w1, w5, cond_t, cond_f]
   exact ⟨q - 1, by have := hi.out; omega, i + 1, by have := hi.out; omega, rfl, by rw [w7, w8, a2.out]⟩
 · have hlt' : ¬ ((i : Nat) : Int) < ((n : Nat) : Int) := by omega
   have hi4 : i = n := by have := hi.out; omega
   subst hi4
   simp only [↓pre, simprocAttr, parV, sx, tys167, onceA, postU, e6, e7, e8, e3, hlt', cond_t, cond_f]
def refAt (bs : List UInt8) (i : Nat) : RefI := ((beN ((bs.drop (6 * i)).take 2) : Nat), (beN ((bs.drop (6 * i + 2)).take 4) : Nat))
def refsOf (bs : List UInt8) (n : Nat) : List RefI := (List.range n).map (refAt bs)
theorem refsOf_len (bs : List UInt8) (n : Nat) : (refsOf bs n).length = n := by simp [refsOf]
theorem refsOf_succ (bs : List UInt8) (n : Nat) : refsOf bs (n + 1) = refsOf bs n ++ [refAt bs n] := by unfold refsOf; rw [List.range_succ, List.map_append]; rfl
theorem desc_read (v : AV) (bs : List UInt8) (x : List AV) (n : Nat) (hv : RdSl v bs.length (bytesA bs ++ x)) (hn : 6 * n ≤ bs.length) (hb : bs.length ≤ 100000) : FSpec Tryz.prog 168 [v, intV (n : Nat)] ⟨treeR n (refsA (refsOf bs n)), []⟩ := by
 refine fspec_fzT ?_
 have nt2 : natOf (.val (.int .i64 2)) = some 2 := rfl
 have nt6 : natOf (.val (.int .i64 6)) = some 6 := rfl
 refine ospec_of_body follows Tryz.func168 (by unfold Tryz.f168; rfl) (by unfold Tryz.f168; simp) onceA (by unfold Tryz.f168; simp) (by kernel_rfl) ?_; unfold Tryz.f168
 simp only [↓pre, simprocAttr, parV, sx, tys168, onceA, postU, postV, optNat, Option.map_none, Option.map_some, nt2, nt6, sr]
 rw [codeW_loop]
 refine loop_intro (fun q e m => ∃ i u, q + i = n ∧ e 0 = u ∧ e 6 = intV (n : Nat) ∧ e 7 = intV (i : Nat) ∧ RdSl u (bs.drop (6 * i)).length (bytesA (bs.drop (6 * i)) ++ x) ∧ Hid (Own m 67 2 (e 5) i (refsA (refsOf bs i)))) n ⟨0, v, by omega, rfl, rfl, rfl, by simpa using hv, ⟨own_nil⟩⟩ ?_
 rintro q e m ⟨i, u, hq, e0, e6, e7, hu, hJ⟩
 replace hq := Hid.mk hq
 generalize hv0 : e 5 = v0 at *
 by_cases hlt : i < n
 · have hlt' : ((i : Nat) : Int) < ((n : Nat) : Int) := by omega
   have w1 := wrap_succ (n := i) (by omega)
   have hdl : (bs.drop (6 * i)).length = bs.length - 6 * i := List.length_drop
   obtain ⟨v1, s1, r1⟩ := hu.slice (P := Tryz.prog) (t := 52) (sz := 1) (lo := none) (hi := some 2) (by kernel_rfl) (by simp) (by simp only [Option.getD_some]; omega)
   obtain ⟨v2, s2, r2⟩ := hu.slice (P := Tryz.prog) (t := 52) (sz := 1) (lo := some 2) (hi := some 6) (by kernel_rfl) (by simp) (by simp only [Option.getD_some]; omega)
   obtain ⟨v3, s3, r3⟩ := hu.slice (P := Tryz.prog) (t := 52) (sz := 1) (lo := some 6) (hi := none) (by kernel_rfl) (by simp only [Option.getD_some, Option.getD_none]; omega) (by simp)
   simp only [Option.getD_some, Option.getD_none, Nat.mul_one, Nat.sub_zero, List.drop_zero] at r1 r2 r3
   rw [bytesA_drop _ x 2 (by omega), List.drop_drop] at r2
   rw [bytesA_drop _ x 6 (by omega), List.drop_drop, show (bs.drop (6 * i)).length - 6 = (bs.drop (6 * i + 6)).length by rw [List.length_drop, List.length_drop]; omega] at r3
   have c1 := desc_number v1 2 (bs.drop (6 * i)) x r1 (by omega) (by omega)
   have c2 := desc_number v2 4 (bs.drop (6 * i + 2)) x r2 (by rw [List.length_drop]; omega) (by omega)
   have hpu := hu.slOk (P := Tryz.prog) (m := m) (t := 52)
   have pl1 := r1.plain
   have pl2 := r2.plain
   have hso := refsOf_succ bs i
   have href : refAt bs i = (((beN ((bs.drop (6 * i)).take 2) : Nat) : Int), ((beN ((bs.drop (6 * i + 2)).take 4) : Nat) : Int)) := rfl
   generalize beN ((bs.drop (6 * i)).take 2) = b1 at *
   generalize beN ((bs.drop (6 * i + 2)).take 4) = b2 at *
   replace hso := Hid.mk hso
   replace href := Hid.mk href
   replace r1 := Hid.mk r1
   replace r2 := Hid.mk r2
   replace r3 := Hid.mk r3
   replace hdl := Hid.mk hdl
   have hbt : ∀ m, buildTreeE Tryz.prog m 31 1 [(0, .agg [.val (.int .i64 (b1 : Nat)), .val (.int .i64 (b2 : Nat))])] = some ⟨.tree 1 1 [.val (.int .i64 (b1 : Nat)), .val (.int .i64 (b2 : Nat))] true, m, none⟩ := fun m => buildT1a rfl rfl (by kernel_rfl) (by kernel_rfl)
   simp only [↓pre, simprocAttr, parV, sx, tys168, onceA, postU, postV, optNat, Option.map_none, Option.map_some, nt2, nt6, hv0, e0, e6, e7, hlt', hu.slOk, hu.sliceX, s1, s2, sr]
   (refine call_pure (c1) (by simp only [parV, plQ, *]) (by intro k; rfl) ?_); simp only [↓pre, simprocAttr, parV, sx, tys168, onceA, postU, postV, optNat, Option.map_none, Option.map_some, nt2, nt6, hv0, e0, e6, e7, hu.slOk, hu.sliceX, s1, s2, hbt, sr]; (refine call_pure (c2) (by simp only [parV, plQ, *]) (by intro k; rfl) ?_); simp only [↓pre, simprocAttr, parV, sx, tys168, onceA, postU, postV, optNat, Option.map_none, Option.map_some, nt2, nt6, hv0, e0, e6, e7, hu.slOk, hu.sliceX, s1, s2, hbt, sr]
   refine app_rule (sz := 2) (y := 16) (zl := [.int .i64 0, .int .i64 0]) (by kernel_rfl) hJ.out (by kernel_rfl) (by kernel_rfl) (by kernel_rfl) rfl srcT1a rfl (by omega) (by omega) ?_
   intro lv' m' ho' hn'
   refine contW_fixed (by kernel_rfl) ?_
   simp only [↓pre, simprocAttr, parV, sx, tys168, onceA, postU, postV, optNat, Option.map_none, Option.map_some, nt2, nt6, hv0, e0, e6, e7, hu.slOk, hu.sliceX, s3, w1, sr]
   refine ⟨q - 1, by have := hq.out; omega, i + 1, v3, by have := hq.out; omega, rfl, rfl, by rw [show 6 * (i + 1) = 6 * i + 6 by omega]; exact r3.out, ⟨?_⟩⟩
   rw [hso.out, refsA_append, href.out]
   exact ho'
 · have hlt' : ¬ ((i : Nat) : Int) < ((n : Nat) : Int) := by omega
   have hi : i = n := by have := hq.out; omega
   subst hi
   simp only [↓pre, simprocAttr, parV, sx, tys168, onceA, postU, postV, optNat, Option.map_none, Option.map_some, nt2, nt6, hv0, e0, e6, e7, hlt', sr]
   exact ⟨0, own_fzT hJ.out 0⟩
theorem desc_sized (k r c w : Int) (v : AV) (n : Nat) (cs : List AV) (hv : RdSl v n cs) : FSpec Tryz.prog 166 [parV k r c w, v] ⟨intV (if mayB k r c w = true then (if (n : Int) = wI k c then 0 else 20) else 2), []⟩ := by
 have h1 := layout_Width k r c w
 have hp := hv.plain
 cases hm : mayB k r c w with
 | false =>
   simp only [hm, Bool.false_eq_true, if_false] at h1 ⊢
   refine fspec_of_body follows Tryz.func166 (by unfold Tryz.f166; rfl) (by unfold Tryz.f166; simp) onceA (by unfold Tryz.f166; simp) (by kernel_rfl) ?_; unfold Tryz.f166
   simp only [↓pre, simprocAttr, parV, sx, tys166, onceA, postU, pick_t, pick_f]
   refine call_plain (h1) (by rfl) ?_; simp only [↓pre, simprocAttr, parV, sx, tys166, onceA, postU, sr]
 | true =>
   simp only [hm, if_true] at h1 ⊢
   by_cases hl : (n : Int) = wI k c
   · rw [if_pos hl]
     refine fspec_of_body follows Tryz.func166 (by unfold Tryz.f166; rfl) (by unfold Tryz.f166; simp) onceA (by unfold Tryz.f166; simp) (by kernel_rfl) ?_; unfold Tryz.f166
     simp only [↓pre, simprocAttr, parV, sx, tys166, onceA, postU, pick_t, pick_f]
     refine call_plain (h1) (by rfl) ?_; simp only [↓pre, simprocAttr, parV, sx, tys166, onceA, postU, hv.len', hl, sr]
   · rw [if_neg hl]
     refine fspec_of_body follows Tryz.func166 (by unfold Tryz.f166; rfl) (by unfold Tryz.f166; simp) onceA (by unfold Tryz.f166; simp) (by kernel_rfl) ?_; unfold Tryz.f166
     simp only [↓pre, simprocAttr, parV, sx, tys166, onceA, postU, pick_t, pick_f]
     refine call_plain (h1) (by rfl) ?_; simp only [↓pre, simprocAttr, parV, sx, tys166, onceA, postU, hv.len', hl, sr]
def eqB (a b : List UInt8) : Bool := decide ((⟨a.toArray⟩ : ByteArray) = ⟨b.toArray⟩)
theorem eqB_iff (a b : List UInt8) : eqB a b = decide (a = b) := by
 unfold eqB
 by_cases h : a = b
 · subst h; simp
 · rw [decide_eq_false h, decide_eq_false]
   intro h2
   apply h
   have := congrArg (fun x : ByteArray => x.data.toList) h2
   simpa using this
theorem bytes_Equal (u v : AV) (a b : List UInt8) (x y : List AV) (hu : RdSl u a.length (bytesA a ++ x)) (hv : RdSl v b.length (bytesA b ++ y)) : FSpec Tryz.prog 169 [u, v] ⟨boolV (decide (a = b)), []⟩ := by
 rw [← eqB_iff]
 have s1 := fun (d c : Bool) (m : Mem) => rd_strX (d := d) (c := c) (m := m) hu
 have s2 := fun (d c : Bool) (m : Mem) => rd_strX (d := d) (c := c) (m := m) hv
 refine fspec_of_body follows Tryz.func169 (by unfold Tryz.f169; rfl) (by unfold Tryz.f169; simp) onceA (by unfold Tryz.f169; simp) (by kernel_rfl) ?_; unfold Tryz.f169
 simp only [↓pre, simprocAttr, parV, sx, tys169, onceA, postU, s1, s2, strB]
 rfl
def pN (bs : List UInt8) : Nat := beN ((bs.drop 5).take 2)
def pLen (bs : List UInt8) : Int := (beN (bs.take 4) : Nat)
def pDep (bs : List UInt8) : Int := (beN ((bs.drop 4).take 1) : Nat)
def pRefs (bs : List UInt8) : List RefI := refsOf (bs.drop 7) (pN bs)
def parseOk (k r c w : Int) (bs : List UInt8) : Bool := decide (7 + 6 * pN bs ≤ bs.length) && (decide (chkD k r c w (pLen bs) (pDep bs) (pRefs bs) = 0) && decide (madeB k c (pLen bs) (pDep bs) (pRefs bs) = bs))
def parseE (k r c w : Int) (bs : List UInt8) : Int := if mayB k r c w = true then (if (bs.length : Int) = wI k c then (if parseOk k r c w bs = true then 0 else 150) else 20) else 2
def descA (len dep : Int) (l : List RefI) : AV := .agg [intV len, intV dep, treeR l.length (refsA l)]
def desc0 : AV := .agg [intV 0, intV 0, nilS]
def parseD (k r c w : Int) (bs : List UInt8) : AV := if parseE k r c w bs = 0 then descA (pLen bs) (pDep bs) (pRefs bs) else desc0
theorem desc0_id (e : Int) (k : Nat) (m : Mem) : fzT k m (.tup [desc0, intV e]) = some (.tup [desc0, intV e]) := fzId_two (fzId_agg fun c hc => by
 simp only [List.mem_cons, List.not_mem_nil, or_false] at hc
 rcases hc with rfl | rfl | rfl <;> exact fzId_val _) (fzId_val _) k m
theorem descA_id (len dep : Int) (l : List RefI) : fzId (descA len dep l) := fzId_agg fun c hc => by
 simp only [List.mem_cons, List.not_mem_nil, or_false] at hc
 rcases hc with rfl | rfl | rfl
 · exact fzId_val _
 · exact fzId_val _
 · exact fzId_rd (treeR_rd _ _)
theorem treeR_cells {n : Nat} {cs : List AV} : (treeR n cs).cells = [treeR n cs] := by unfold treeR; split <;> rfl
theorem treeR_ok {n : Nat} {cs : List AV} : okA (treeR n cs) = true := by unfold treeR; split <;> rfl
theorem treeR_fz {n : Nat} {cs : List AV} {m : Mem} : fz m (treeR n cs) = some (treeR n cs, m) := rd_fz (treeR_rd _ _) m
theorem treeR_one {n : Nat} {cs : List AV} : oneA (treeR n cs) = true := rd_one (treeR_rd _ _)
def oncePa : Nat → Bool := fun d => d != 4 && d != 7
theorem desc_Parse (k r c w : Int) (v : AV) (bs : List UInt8) (x : List AV) (hv : RdSl v bs.length (bytesA bs ++ x)) : FSpec Tryz.prog 92 [parV k r c w, v] ⟨.tup [parseD k r c w bs, intV (parseE k r c w bs)], []⟩ := by
 refine fspec_fzT ?_
 have hp := hv.plain
 have h1 := desc_sized k r c w v bs.length _ hv
 have hfz : ∀ E, parseE k r c w bs = E → E ≠ 0 → ∀ m, fzT 0 m (.tup [.agg [.val (.int .i64 0), .val (.int .i64 0), .val (.slice none 0 0)], .val (.int .i64 E)]) = some (.tup [parseD k r c w bs, intV E]) := fun E hE h0 m => by
   unfold parseD
   rw [hE, if_neg h0]
   exact desc0_id E 0 m
 by_cases hg : mayB k r c w = true ∧ (bs.length : Int) = wI k c
 · obtain ⟨hm, hl⟩ := hg
   rw [if_pos hm, if_pos hl] at h1
   have hw := may_w hm
   have hbl : bs.length ≤ 768 ∧ 32 ≤ bs.length := by unfold wI at hl; omega
   have hE : parseE k r c w bs = if parseOk k r c w bs = true then 0 else 150 := by unfold parseE; rw [if_pos hm, if_pos hl]
   obtain ⟨v1, s1, r1⟩ := hv.slice (P := Tryz.prog) (t := 52) (sz := 1) (lo := none) (hi := some 4) (by kernel_rfl) (by simp) (by simp only [Option.getD_some]; omega)
   obtain ⟨v2, s2, r2⟩ := hv.slice (P := Tryz.prog) (t := 52) (sz := 1) (lo := some 4) (hi := some 5) (by kernel_rfl) (by simp) (by simp only [Option.getD_some]; omega)
   obtain ⟨v3, s3, r3⟩ := hv.slice (P := Tryz.prog) (t := 52) (sz := 1) (lo := some 5) (hi := some 7) (by kernel_rfl) (by simp) (by simp only [Option.getD_some]; omega)
   obtain ⟨v4, s4, r4⟩ := hv.slice (P := Tryz.prog) (t := 52) (sz := 1) (lo := some 7) (hi := none) (by kernel_rfl) (by simp only [Option.getD_some, Option.getD_none]; omega) (by simp)
   simp only [Option.getD_some, Option.getD_none, Nat.mul_one, Nat.sub_zero, List.drop_zero] at r1 r2 r3 r4
   rw [bytesA_drop _ x 4 (by omega)] at r2
   rw [bytesA_drop _ x 5 (by omega)] at r3
   rw [bytesA_drop _ x 7 (by omega), ← List.length_drop] at r4
   have c1 := desc_number v1 4 bs x r1 (by omega) (by omega)
   have c2 := desc_number v2 1 (bs.drop 4) x r2 (by rw [List.length_drop]; omega) (by omega)
   have c3 := desc_number v3 2 (bs.drop 5) x r3 (by rw [List.length_drop]; omega) (by omega)
   have pl1 := r1.plain
   have pl2 := r2.plain
   have pl3 := r3.plain
   have pl4 := r4.plain
   have hn2 : pN bs < 65536 := be_le 2 (bs.drop 5)
   rw [show beN ((bs.drop 5).take 2) = pN bs from rfl] at c3
   rw [show ((beN (bs.take 4) : Nat) : Int) = pLen bs from rfl] at c1
   rw [show ((beN ((bs.drop 4).take 1) : Nat) : Int) = pDep bs from rfl] at c2
   have n4 : natOf (.val (.int .i64 4)) = some 4 := rfl
   have n5 : natOf (.val (.int .i64 5)) = some 5 := rfl
   have n7 : natOf (.val (.int .i64 7)) = some 7 := rfl
   have w1 : IntKind.i64.wrap (6 * ((pN bs : Nat) : Int)) = ((6 * pN bs : Nat) : Int) := by rw [show 6 * ((pN bs : Nat) : Int) = ((6 * pN bs : Nat) : Int) by simp]; exact wrap_nat (by omega)
   have w2 : IntKind.i64.wrap (7 + ((6 * pN bs : Nat) : Int)) = ((7 + 6 * pN bs : Nat) : Int) := by rw [show 7 + ((6 * pN bs : Nat) : Int) = ((7 + 6 * pN bs : Nat) : Int) by simp]; exact wrap_nat (by omega)
   have hso := fun m => hv.slOk (P := Tryz.prog) (m := m) (t := 52)
   have hsx := fun d c m lo hi mx => hv.sliceX (P := Tryz.prog) (m := m) (t := 52) (d := d) (c := c) (lo := lo) (hi := hi) (mx := mx)
   by_cases hfit : 7 + 6 * pN bs ≤ bs.length
   · have hfit' : ¬ ((bs.length : Nat) : Int) < ((7 + 6 * pN bs : Nat) : Int) := by omega
     have c4 := desc_read v4 (bs.drop 7) x (pN bs) r4 (by rw [List.length_drop]; omega) (by rw [List.length_drop]; omega)
     rw [show refsOf (bs.drop 7) (pN bs) = pRefs bs from rfl] at c4
     have hpl : (pRefs bs).length = pN bs := refsOf_len _ _
     have c5 := desc_Bytes k r c w (pLen bs) (pDep bs) (treeR (pN bs) (refsA (pRefs bs))) (pRefs bs) ⟨[], by rw [List.append_nil, hpl]; exact treeR_rd _ _⟩ (by omega)
     have q1 := rd_one (treeR_rd (pN bs) (refsA (pRefs bs)))
     have pt := (treeR_rd (pN bs) (refsA (pRefs bs))).plain
     have hTRf : treeR (pN bs) (refsA (pRefs bs)) = .val (.slice none 0 0) ∨ treeR (pN bs) (refsA (pRefs bs)) = .tree (pN bs) (pN bs) (refsA (pRefs bs)) false := by unfold treeR; split; exact .inl rfl; exact .inr rfl
     unfold descBV at c5
     have hok : parseOk k r c w bs = (decide (chkD k r c w (pLen bs) (pDep bs) (pRefs bs) = 0) && decide (madeB k c (pLen bs) (pDep bs) (pRefs bs) = bs)) := by unfold parseOk; rw [decide_eq_true hfit]; rfl
     by_cases hck : chkD k r c w (pLen bs) (pDep bs) (pRefs bs) = 0
     · rw [if_pos hck] at c5
       rw [decide_eq_true hck, Bool.true_and] at hok
       have hml : (madeB k c (pLen bs) (pDep bs) (pRefs bs)).length = (wI k c).toNat := by
         unfold madeB
         refine padB_len ?_
         obtain ⟨_, _, _, hll, _⟩ := desc_bounds hck
         unfold headB
         simp only [List.length_append, numB_len, refsB_len]
         unfold dI at hll
         unfold wI
         omega
       have c6 := bytes_Equal (.tree (wI k c).toNat (wI k c).toNat (bytesA (madeB k c (pLen bs) (pDep bs) (pRefs bs))) true) v (madeB k c (pLen bs) (pDep bs) (pRefs bs)) bs [] x ⟨.inr (.inr ⟨_, true, by rw [hml, List.append_nil], by rw [hml]; exact Nat.le_refl _⟩)⟩ hv
       have hfin : parseOk k r c w bs = true → ∀ m, fzT 0 m (.tup [.agg [.val (.int .i64 (pLen bs)), .val (.int .i64 (pDep bs)), treeR (pN bs) (refsA (pRefs bs))], .val (.int .i64 0)]) = some (.tup [parseD k r c w bs, intV 0]) := fun h m => by
         have := fzId_two (descA_id (pLen bs) (pDep bs) (pRefs bs)) (fzId_val (.int .i64 0)) 0 m
         unfold parseD
         rw [hE, h, if_pos rfl, if_pos rfl]
         unfold descA at this ⊢
         rw [hpl] at this ⊢
         exact this
       by_cases heq : madeB k c (pLen bs) (pDep bs) (pRefs bs) = bs
       · rw [decide_eq_true heq] at hok c6
         rw [hok, if_pos rfl] at hE
         rw [hE]
         replace hfin := Hid.mk (hfin hok)
         replace hok := Hid.mk hok
         replace hE := Hid.mk hE
         replace hck := Hid.mk hck
         replace heq := Hid.mk heq
         replace hfz := Hid.mk hfz
         replace hfit := Hid.mk hfit
         replace hpl := Hid.mk hpl
         generalize madeB k c (pLen bs) (pDep bs) (pRefs bs) = MB at *
         rcases hTRf with hT | hT
         all_goals rw [hT] at c4 c5 hfin
         all_goals clear q1 pt
         all_goals replace hT := Hid.mk hT
         all_goals (
           refine ospec_of_body follows Tryz.func92 (by unfold Tryz.f92; rfl) (by unfold Tryz.f92; simp) oncePa (by unfold Tryz.f92; simp) (by kernel_rfl) ?_; unfold Tryz.f92
           simp only [↓pre, simprocAttr, parV, sx, tys92, oncePa, bne, postU, postFz, optNat, Option.map_none, Option.map_some, storeE, allocE, put_at, push_at, me0, Nat.one_ne_zero, Nat.zero_ne_one, ↓treeR_cells, ↓treeR_ok, ↓treeR_fz, ↓treeR_one, n4, n5, n7, hso, hsx, s1, s2, s3, s4, sr]
           refine call_plain (h1) (by simp only [parV, plQ, *]) ?_; simp only [↓pre, simprocAttr, parV, sx, tys92, oncePa, bne, postU, postFz, optNat, Option.map_none, Option.map_some, storeE, allocE, put_at, push_at, me0, Nat.one_ne_zero, Nat.zero_ne_one, ↓treeR_cells, ↓treeR_ok, ↓treeR_fz, ↓treeR_one, n4, n5, n7, hso, hsx, s1, s2, s3, s4, sr]; (refine call_pure (c1) (by simp only [parV, plQ, *]) (by intro k; rfl) ?_); simp only [↓pre, simprocAttr, parV, sx, tys92, oncePa, bne, postU, postFz, optNat, Option.map_none, Option.map_some, storeE, allocE, put_at, push_at, me0, Nat.one_ne_zero, Nat.zero_ne_one, ↓treeR_cells, ↓treeR_ok, ↓treeR_fz, ↓treeR_one, n4, n5, n7, hso, hsx, s1, s2, s3, s4, sr]; (refine call_pure (c2) (by simp only [parV, plQ, *]) (by intro k; rfl) ?_); simp only [↓pre, simprocAttr, parV, sx, tys92, oncePa, bne, postU, postFz, optNat, Option.map_none, Option.map_some, storeE, allocE, put_at, push_at, me0, Nat.one_ne_zero, Nat.zero_ne_one, ↓treeR_cells, ↓treeR_ok, ↓treeR_fz, ↓treeR_one, n4, n5, n7, hso, hsx, s1, s2, s3, s4, sr]
           refine contW_fixed (by kernel_rfl) ?_
           simp only [↓pre, simprocAttr, parV, sx, tys92, oncePa, bne, postU, postFz, optNat, Option.map_none, Option.map_some, storeE, allocE, put_at, push_at, me0, Nat.one_ne_zero, Nat.zero_ne_one, ↓treeR_cells, ↓treeR_ok, ↓treeR_fz, ↓treeR_one, n4, n5, n7, hso, hsx, s1, s2, s3, s4, sr]
           refine contW_fixed (by kernel_rfl) ?_
           simp only [↓pre, simprocAttr, parV, sx, tys92, oncePa, bne, postU, postFz, optNat, Option.map_none, Option.map_some, storeE, allocE, put_at, push_at, me0, Nat.one_ne_zero, Nat.zero_ne_one, ↓treeR_cells, ↓treeR_ok, ↓treeR_fz, ↓treeR_one, n4, n5, n7, hso, hsx, s1, s2, s3, s4, sr]
           refine call_plain (c3) (by simp only [parV, plQ, *]) ?_; simp only [↓pre, simprocAttr, parV, sx, tys92, oncePa, bne, postU, postFz, optNat, Option.map_none, Option.map_some, storeE, allocE, put_at, push_at, me0, Nat.one_ne_zero, Nat.zero_ne_one, ↓treeR_cells, ↓treeR_ok, ↓treeR_fz, ↓treeR_one, n4, n5, n7, hso, hsx, s1, s2, s3, s4, w1, w2, hv.len', hfit', sr]; refine call_plain (c4) (by simp only [parV, plQ, *]) ?_; simp only [↓pre, simprocAttr, parV, sx, tys92, oncePa, bne, postU, postFz, optNat, Option.map_none, Option.map_some, storeE, allocE, put_at, push_at, me0, Nat.one_ne_zero, Nat.zero_ne_one, ↓treeR_cells, ↓treeR_ok, ↓treeR_fz, ↓treeR_one, n4, n5, n7, hso, hsx, s1, s2, s3, s4, w1, w2, hv.len', hfit', sr]; refine call_plain (c5) (by rfl) ?_; simp only [↓pre, simprocAttr, parV, sx, tys92, oncePa, bne, postU, postFz, optNat, Option.map_none, Option.map_some, storeE, allocE, put_at, push_at, me0, Nat.one_ne_zero, Nat.zero_ne_one, ↓treeR_cells, ↓treeR_ok, ↓treeR_fz, ↓treeR_one, n4, n5, n7, hso, hsx, s1, s2, s3, s4, w1, w2, hv.len', hfit', sr]; refine call_plain (c6) (by simp only [parV, plQ, *]) ?_; simp only [↓pre, simprocAttr, parV, sx, tys92, oncePa, bne, postU, postFz, optNat, Option.map_none, Option.map_some, storeE, allocE, put_at, push_at, me0, Nat.one_ne_zero, Nat.zero_ne_one, ↓treeR_cells, ↓treeR_ok, ↓treeR_fz, ↓treeR_one, n4, n5, n7, hso, hsx, s1, s2, s3, s4, w1, w2, hv.len', hfit', sr]
           exact ⟨0, hfin.out _⟩
           )
       · rw [decide_eq_false heq] at hok c6
         rw [hok, if_neg (by decide)] at hE
         have hz := hfz 150 hE (by decide)
         rw [hE]
         replace hz := Hid.mk hz
         replace hok := Hid.mk hok
         replace hE := Hid.mk hE
         replace hck := Hid.mk hck
         replace heq := Hid.mk heq
         replace hfz := Hid.mk hfz
         replace hfin := Hid.mk hfin
         replace hfit := Hid.mk hfit
         replace hpl := Hid.mk hpl
         generalize madeB k c (pLen bs) (pDep bs) (pRefs bs) = MB at *
         rcases hTRf with hT | hT
         all_goals rw [hT] at c4 c5
         all_goals clear q1 pt
         all_goals replace hT := Hid.mk hT
         all_goals (
           refine ospec_of_body follows Tryz.func92 (by unfold Tryz.f92; rfl) (by unfold Tryz.f92; simp) oncePa (by unfold Tryz.f92; simp) (by kernel_rfl) ?_; unfold Tryz.f92
           simp only [↓pre, simprocAttr, parV, sx, tys92, oncePa, bne, postU, postFz, optNat, Option.map_none, Option.map_some, storeE, allocE, put_at, push_at, me0, Nat.one_ne_zero, Nat.zero_ne_one, ↓treeR_cells, ↓treeR_ok, ↓treeR_fz, ↓treeR_one, n4, n5, n7, hso, hsx, s1, s2, s3, s4, sr]
           refine call_plain (h1) (by simp only [parV, plQ, *]) ?_; simp only [↓pre, simprocAttr, parV, sx, tys92, oncePa, bne, postU, postFz, optNat, Option.map_none, Option.map_some, storeE, allocE, put_at, push_at, me0, Nat.one_ne_zero, Nat.zero_ne_one, ↓treeR_cells, ↓treeR_ok, ↓treeR_fz, ↓treeR_one, n4, n5, n7, hso, hsx, s1, s2, s3, s4, sr]; (refine call_pure (c1) (by simp only [parV, plQ, *]) (by intro k; rfl) ?_); simp only [↓pre, simprocAttr, parV, sx, tys92, oncePa, bne, postU, postFz, optNat, Option.map_none, Option.map_some, storeE, allocE, put_at, push_at, me0, Nat.one_ne_zero, Nat.zero_ne_one, ↓treeR_cells, ↓treeR_ok, ↓treeR_fz, ↓treeR_one, n4, n5, n7, hso, hsx, s1, s2, s3, s4, sr]; (refine call_pure (c2) (by simp only [parV, plQ, *]) (by intro k; rfl) ?_); simp only [↓pre, simprocAttr, parV, sx, tys92, oncePa, bne, postU, postFz, optNat, Option.map_none, Option.map_some, storeE, allocE, put_at, push_at, me0, Nat.one_ne_zero, Nat.zero_ne_one, ↓treeR_cells, ↓treeR_ok, ↓treeR_fz, ↓treeR_one, n4, n5, n7, hso, hsx, s1, s2, s3, s4, sr]
           refine contW_fixed (by kernel_rfl) ?_
           simp only [↓pre, simprocAttr, parV, sx, tys92, oncePa, bne, postU, postFz, optNat, Option.map_none, Option.map_some, storeE, allocE, put_at, push_at, me0, Nat.one_ne_zero, Nat.zero_ne_one, ↓treeR_cells, ↓treeR_ok, ↓treeR_fz, ↓treeR_one, n4, n5, n7, hso, hsx, s1, s2, s3, s4, sr]
           refine contW_fixed (by kernel_rfl) ?_
           simp only [↓pre, simprocAttr, parV, sx, tys92, oncePa, bne, postU, postFz, optNat, Option.map_none, Option.map_some, storeE, allocE, put_at, push_at, me0, Nat.one_ne_zero, Nat.zero_ne_one, ↓treeR_cells, ↓treeR_ok, ↓treeR_fz, ↓treeR_one, n4, n5, n7, hso, hsx, s1, s2, s3, s4, sr]
           refine call_plain (c3) (by simp only [parV, plQ, *]) ?_; simp only [↓pre, simprocAttr, parV, sx, tys92, oncePa, bne, postU, postFz, optNat, Option.map_none, Option.map_some, storeE, allocE, put_at, push_at, me0, Nat.one_ne_zero, Nat.zero_ne_one, ↓treeR_cells, ↓treeR_ok, ↓treeR_fz, ↓treeR_one, n4, n5, n7, hso, hsx, s1, s2, s3, s4, w1, w2, hv.len', hfit', sr]; refine call_plain (c4) (by simp only [parV, plQ, *]) ?_; simp only [↓pre, simprocAttr, parV, sx, tys92, oncePa, bne, postU, postFz, optNat, Option.map_none, Option.map_some, storeE, allocE, put_at, push_at, me0, Nat.one_ne_zero, Nat.zero_ne_one, ↓treeR_cells, ↓treeR_ok, ↓treeR_fz, ↓treeR_one, n4, n5, n7, hso, hsx, s1, s2, s3, s4, w1, w2, hv.len', hfit', sr]; refine call_plain (c5) (by rfl) ?_; simp only [↓pre, simprocAttr, parV, sx, tys92, oncePa, bne, postU, postFz, optNat, Option.map_none, Option.map_some, storeE, allocE, put_at, push_at, me0, Nat.one_ne_zero, Nat.zero_ne_one, ↓treeR_cells, ↓treeR_ok, ↓treeR_fz, ↓treeR_one, n4, n5, n7, hso, hsx, s1, s2, s3, s4, w1, w2, hv.len', hfit', sr]; refine call_plain (c6) (by simp only [parV, plQ, *]) ?_; simp only [↓pre, simprocAttr, parV, sx, tys92, oncePa, bne, postU, postFz, optNat, Option.map_none, Option.map_some, storeE, allocE, put_at, push_at, me0, Nat.one_ne_zero, Nat.zero_ne_one, ↓treeR_cells, ↓treeR_ok, ↓treeR_fz, ↓treeR_one, n4, n5, n7, hso, hsx, s1, s2, s3, s4, w1, w2, hv.len', hfit', sr]
           exact ⟨0, hz.out _⟩
           )
     · rw [if_neg hck] at c5
       rw [decide_eq_false hck, Bool.false_and] at hok
       rw [hok, if_neg (by decide)] at hE
       have hz := hfz 150 hE (by decide)
       rw [hE]
       replace hz := Hid.mk hz
       replace hok := Hid.mk hok
       replace hE := Hid.mk hE
       replace hfz := Hid.mk hfz
       replace hfit := Hid.mk hfit
       replace hpl := Hid.mk hpl
       generalize chkD k r c w (pLen bs) (pDep bs) (pRefs bs) = CK at *
       simp only [nilS] at c5
       rcases hTRf with hT | hT
       all_goals rw [hT] at c4 c5
       all_goals clear q1 pt
       all_goals replace hT := Hid.mk hT
       all_goals (
         refine ospec_of_body follows Tryz.func92 (by unfold Tryz.f92; rfl) (by unfold Tryz.f92; simp) oncePa (by unfold Tryz.f92; simp) (by kernel_rfl) ?_; unfold Tryz.f92
         simp only [↓pre, simprocAttr, parV, sx, tys92, oncePa, bne, postU, postFz, optNat, Option.map_none, Option.map_some, storeE, allocE, put_at, push_at, me0, Nat.one_ne_zero, Nat.zero_ne_one, ↓treeR_cells, ↓treeR_ok, ↓treeR_fz, ↓treeR_one, n4, n5, n7, hso, hsx, s1, s2, s3, s4, sr]
         refine call_plain (h1) (by simp only [parV, plQ, *]) ?_; simp only [↓pre, simprocAttr, parV, sx, tys92, oncePa, bne, postU, postFz, optNat, Option.map_none, Option.map_some, storeE, allocE, put_at, push_at, me0, Nat.one_ne_zero, Nat.zero_ne_one, ↓treeR_cells, ↓treeR_ok, ↓treeR_fz, ↓treeR_one, n4, n5, n7, hso, hsx, s1, s2, s3, s4, sr]; (refine call_pure (c1) (by simp only [parV, plQ, *]) (by intro k; rfl) ?_); simp only [↓pre, simprocAttr, parV, sx, tys92, oncePa, bne, postU, postFz, optNat, Option.map_none, Option.map_some, storeE, allocE, put_at, push_at, me0, Nat.one_ne_zero, Nat.zero_ne_one, ↓treeR_cells, ↓treeR_ok, ↓treeR_fz, ↓treeR_one, n4, n5, n7, hso, hsx, s1, s2, s3, s4, sr]; (refine call_pure (c2) (by simp only [parV, plQ, *]) (by intro k; rfl) ?_); simp only [↓pre, simprocAttr, parV, sx, tys92, oncePa, bne, postU, postFz, optNat, Option.map_none, Option.map_some, storeE, allocE, put_at, push_at, me0, Nat.one_ne_zero, Nat.zero_ne_one, ↓treeR_cells, ↓treeR_ok, ↓treeR_fz, ↓treeR_one, n4, n5, n7, hso, hsx, s1, s2, s3, s4, sr]
         refine contW_fixed (by kernel_rfl) ?_
         simp only [↓pre, simprocAttr, parV, sx, tys92, oncePa, bne, postU, postFz, optNat, Option.map_none, Option.map_some, storeE, allocE, put_at, push_at, me0, Nat.one_ne_zero, Nat.zero_ne_one, ↓treeR_cells, ↓treeR_ok, ↓treeR_fz, ↓treeR_one, n4, n5, n7, hso, hsx, s1, s2, s3, s4, sr]
         refine contW_fixed (by kernel_rfl) ?_
         simp only [↓pre, simprocAttr, parV, sx, tys92, oncePa, bne, postU, postFz, optNat, Option.map_none, Option.map_some, storeE, allocE, put_at, push_at, me0, Nat.one_ne_zero, Nat.zero_ne_one, ↓treeR_cells, ↓treeR_ok, ↓treeR_fz, ↓treeR_one, n4, n5, n7, hso, hsx, s1, s2, s3, s4, sr]
         refine call_plain (c3) (by simp only [parV, plQ, *]) ?_; simp only [↓pre, simprocAttr, parV, sx, tys92, oncePa, bne, postU, postFz, optNat, Option.map_none, Option.map_some, storeE, allocE, put_at, push_at, me0, Nat.one_ne_zero, Nat.zero_ne_one, ↓treeR_cells, ↓treeR_ok, ↓treeR_fz, ↓treeR_one, n4, n5, n7, hso, hsx, s1, s2, s3, s4, w1, w2, hv.len', hfit', hck, sr]; refine call_plain (c4) (by simp only [parV, plQ, *]) ?_; simp only [↓pre, simprocAttr, parV, sx, tys92, oncePa, bne, postU, postFz, optNat, Option.map_none, Option.map_some, storeE, allocE, put_at, push_at, me0, Nat.one_ne_zero, Nat.zero_ne_one, ↓treeR_cells, ↓treeR_ok, ↓treeR_fz, ↓treeR_one, n4, n5, n7, hso, hsx, s1, s2, s3, s4, w1, w2, hv.len', hfit', hck, sr]; refine call_plain (c5) (by rfl) ?_; simp only [↓pre, simprocAttr, parV, sx, tys92, oncePa, bne, postU, postFz, optNat, Option.map_none, Option.map_some, storeE, allocE, put_at, push_at, me0, Nat.one_ne_zero, Nat.zero_ne_one, ↓treeR_cells, ↓treeR_ok, ↓treeR_fz, ↓treeR_one, n4, n5, n7, hso, hsx, s1, s2, s3, s4, w1, w2, hv.len', hfit', hck, sr]
         exact ⟨0, hz.out _⟩
         )
   · have hfit' : ((bs.length : Nat) : Int) < ((7 + 6 * pN bs : Nat) : Int) := by omega
     have hok : parseOk k r c w bs = false := by unfold parseOk; rw [decide_eq_false hfit]; rfl
     rw [hok, if_neg (by decide)] at hE
     have hz := hfz 150 hE (by decide)
     rw [hE]
     replace hz := Hid.mk hz
     replace hok := Hid.mk hok
     replace hE := Hid.mk hE
     replace hfz := Hid.mk hfz
     replace hfit := Hid.mk hfit
     refine ospec_of_body follows Tryz.func92 (by unfold Tryz.f92; rfl) (by unfold Tryz.f92; simp) oncePa (by unfold Tryz.f92; simp) (by kernel_rfl) ?_; unfold Tryz.f92
     simp only [↓pre, simprocAttr, parV, sx, tys92, oncePa, bne, postU, postFz, optNat, Option.map_none, Option.map_some, storeE, allocE, put_at, push_at, me0, Nat.one_ne_zero, Nat.zero_ne_one, ↓treeR_cells, ↓treeR_ok, ↓treeR_fz, ↓treeR_one, n4, n5, n7, hso, hsx, s1, s2, s3, s4, sr]
     refine call_plain (h1) (by simp only [parV, plQ, *]) ?_; simp only [↓pre, simprocAttr, parV, sx, tys92, oncePa, bne, postU, postFz, optNat, Option.map_none, Option.map_some, storeE, allocE, put_at, push_at, me0, Nat.one_ne_zero, Nat.zero_ne_one, ↓treeR_cells, ↓treeR_ok, ↓treeR_fz, ↓treeR_one, n4, n5, n7, hso, hsx, s1, s2, s3, s4, sr]; (refine call_pure (c1) (by simp only [parV, plQ, *]) (by intro k; rfl) ?_); simp only [↓pre, simprocAttr, parV, sx, tys92, oncePa, bne, postU, postFz, optNat, Option.map_none, Option.map_some, storeE, allocE, put_at, push_at, me0, Nat.one_ne_zero, Nat.zero_ne_one, ↓treeR_cells, ↓treeR_ok, ↓treeR_fz, ↓treeR_one, n4, n5, n7, hso, hsx, s1, s2, s3, s4, sr]; (refine call_pure (c2) (by simp only [parV, plQ, *]) (by intro k; rfl) ?_); simp only [↓pre, simprocAttr, parV, sx, tys92, oncePa, bne, postU, postFz, optNat, Option.map_none, Option.map_some, storeE, allocE, put_at, push_at, me0, Nat.one_ne_zero, Nat.zero_ne_one, ↓treeR_cells, ↓treeR_ok, ↓treeR_fz, ↓treeR_one, n4, n5, n7, hso, hsx, s1, s2, s3, s4, sr]
     refine contW_fixed (by kernel_rfl) ?_
     simp only [↓pre, simprocAttr, parV, sx, tys92, oncePa, bne, postU, postFz, optNat, Option.map_none, Option.map_some, storeE, allocE, put_at, push_at, me0, Nat.one_ne_zero, Nat.zero_ne_one, ↓treeR_cells, ↓treeR_ok, ↓treeR_fz, ↓treeR_one, n4, n5, n7, hso, hsx, s1, s2, s3, s4, sr]
     refine contW_fixed (by kernel_rfl) ?_
     simp only [↓pre, simprocAttr, parV, sx, tys92, oncePa, bne, postU, postFz, optNat, Option.map_none, Option.map_some, storeE, allocE, put_at, push_at, me0, Nat.one_ne_zero, Nat.zero_ne_one, ↓treeR_cells, ↓treeR_ok, ↓treeR_fz, ↓treeR_one, n4, n5, n7, hso, hsx, s1, s2, s3, s4, sr]
     refine call_plain (c3) (by simp only [parV, plQ, *]) ?_; simp only [↓pre, simprocAttr, parV, sx, tys92, oncePa, bne, postU, postFz, optNat, Option.map_none, Option.map_some, storeE, allocE, put_at, push_at, me0, Nat.one_ne_zero, Nat.zero_ne_one, ↓treeR_cells, ↓treeR_ok, ↓treeR_fz, ↓treeR_one, n4, n5, n7, hso, hsx, s1, s2, s3, s4, w1, w2, hv.len', hfit', sr]
     exact ⟨0, hz.out _⟩
 · have hE : parseE k r c w bs = (if mayB k r c w = true then (if (bs.length : Int) = wI k c then 0 else 20) else 2) := by
     unfold parseE
     by_cases hm : mayB k r c w = true
     · rw [if_pos hm, if_pos hm, if_neg (fun h => hg ⟨hm, h⟩), if_neg (fun h => hg ⟨hm, h⟩)]
     · rw [if_neg hm, if_neg hm]
   have hne : parseE k r c w bs ≠ 0 := by
     rw [hE]
     by_cases hm : mayB k r c w = true
     · rw [if_pos hm, if_neg (fun h => hg ⟨hm, h⟩)]; decide
     · rw [if_neg hm]; decide
   rw [← hE] at h1
   have hz := hfz _ rfl hne
   replace hz := Hid.mk hz
   replace hE := Hid.mk hE
   replace hfz := Hid.mk hfz
   refine ospec_of_body follows Tryz.func92 (by unfold Tryz.f92; rfl) (by unfold Tryz.f92; simp) oncePa (by unfold Tryz.f92; simp) (by kernel_rfl) ?_; unfold Tryz.f92
   simp only [↓pre, simprocAttr, parV, sx, tys92, oncePa, bne, postU, postFz, optNat, Option.map_none, Option.map_some, storeE, allocE, put_at, push_at, me0, Nat.one_ne_zero, Nat.zero_ne_one, ↓treeR_cells, ↓treeR_ok, ↓treeR_fz, ↓treeR_one, sr]
   refine call_plain (h1) (by simp only [parV, plQ, *]) ?_; simp only [↓pre, simprocAttr, parV, sx, tys92, oncePa, bne, postU, postFz, optNat, Option.map_none, Option.map_some, storeE, allocE, put_at, push_at, me0, Nat.one_ne_zero, Nat.zero_ne_one, ↓treeR_cells, ↓treeR_ok, ↓treeR_fz, ↓treeR_one, hne, sr]
   exact ⟨0, hz.out _⟩
theorem rd_cells {v : AV} {n : Nat} {cs : List AV} (h : RdSl v n cs) : v.cells = [v] := by
 rcases h.form with ⟨rfl, _⟩ | ⟨_, _, rfl, _⟩ | ⟨_, _, rfl, _⟩ <;> rfl
theorem rd_okA {v : AV} {n : Nat} {cs : List AV} (h : RdSl v n cs) : okA v = true := by
 rcases h.form with ⟨rfl, _⟩ | ⟨_, _, rfl, _⟩ | ⟨_, _, rfl, _⟩ <;> rfl
abbrev rowA (k r c w : Int) (v : AV) : AV := .agg [.val (.int .i64 k), .val (.int .i64 r), .val (.int .i64 c), .val (.int .i64 w), v]
theorem commit_version (k r c w : Int) (v : AV) (n : Nat) (cs : List AV) (hv : RdSl v n cs) (g : FuncId) (a : Int) (is : Bool) (e : Int) (hg : FSpec Tryz.prog g [rowA k r c w v] ⟨.tup [intV a, boolV is, intV e], []⟩) : FSpec Tryz.prog 87 [rowA k r c w v, .clo g []] ⟨.tup [intV (if e = 0 then (if is = true then a else 0) else 0), intV e], []⟩ := by
 have f1 := rd_fz hv
 have q1 := rd_one hv
 have hp := hv.plain
 by_cases he : e = 0
 · subst he
   rw [if_pos rfl]
   cases is with
   | true =>
     rw [if_pos rfl]
     refine fspec_of_body follows Tryz.func87 (by unfold Tryz.f87; rfl) (by unfold Tryz.f87; simp) onceA (by unfold Tryz.f87; simp) (by kernel_rfl) ?_; unfold Tryz.f87
     simp only [↓pre, simprocAttr, parV, sx, tys87, onceA, postU, f1, q1, sr]
     refine call_plain (hg) (by simp only [parV, plQ, *]) ?_; simp only [↓pre, simprocAttr, parV, sx, tys87, onceA, postU, f1, q1, sr]
   | false =>
     rw [if_neg (by decide)]
     refine fspec_of_body follows Tryz.func87 (by unfold Tryz.f87; rfl) (by unfold Tryz.f87; simp) onceA (by unfold Tryz.f87; simp) (by kernel_rfl) ?_; unfold Tryz.f87
     simp only [↓pre, simprocAttr, parV, sx, tys87, onceA, postU, f1, q1, sr]
     refine call_plain (hg) (by simp only [parV, plQ, *]) ?_; simp only [↓pre, simprocAttr, parV, sx, tys87, onceA, postU, f1, q1, sr]
 · rw [if_neg he]
   refine fspec_of_body follows Tryz.func87 (by unfold Tryz.f87; rfl) (by unfold Tryz.f87; simp) onceA (by unfold Tryz.f87; simp) (by kernel_rfl) ?_; unfold Tryz.f87
   simp only [↓pre, simprocAttr, parV, sx, tys87, onceA, postU, f1, q1, sr]
   refine call_plain (hg) (by simp only [parV, plQ, *]) ?_; simp only [↓pre, simprocAttr, parV, sx, tys87, onceA, postU, f1, q1, he, sr]
theorem commit_winner (k r c w : Int) (v : AV) (ps : List PairB) (cells : List AV) (hv : RowV v ps cells) : FSpec Tryz.prog 88 [rowA k r c w v] ⟨winV k r c w ps, []⟩ := by
 have h := census_Winner k r c w v ps cells hv
 have f1 := rd_fz hv.rd
 have q1 := rd_one hv.rd
 have hp := hv.rd.plain
 unfold winV at h ⊢
 generalize (cntP k r c w ps).getD 0 0 = a at *
 generalize decide (1 ≤ (cntP k r c w ps).length) = b at *
 generalize chkI k r c w ps = e at *
 refine fspec_of_body follows Tryz.func88 (by unfold Tryz.f88; rfl) (by unfold Tryz.f88; simp) onceA (by unfold Tryz.f88; simp) (by kernel_rfl) ?_; unfold Tryz.f88
 simp only [↓pre, simprocAttr, parV, sx, tys88, onceA, f1, q1]
 refine call_plain (h) (by simp only [parV, plQ, *]) ?_; simp only [↓pre, simprocAttr, parV, sx, tys88, onceA, f1, q1, boolV]
def winI (k r c w : Int) (ps : List PairB) : Int := (cntP k r c w ps).getD 0 0
def runI (k r c w : Int) (ps : List PairB) : Int := (cntP k r c w ps).getD 1 0
theorem version_win (k r c w : Int) (v : AV) (ps : List PairB) (cells : List AV) (hv : RowV v ps cells) : FSpec Tryz.prog 87 [rowA k r c w v, .clo 88 []] ⟨.tup [intV (if chkI k r c w ps = 0 then winI k r c w ps else 0), intV (chkI k r c w ps)], []⟩ := by
 have h := commit_version k r c w v _ _ hv.rd _ _ _ _ (commit_winner k r c w v ps cells hv)
 have e : (if decide (1 ≤ (cntP k r c w ps).length) = true then (cntP k r c w ps).getD 0 0 else 0) = winI k r c w ps := by
   unfold winI
   split
   · rfl
   · rename_i h1
     have : (cntP k r c w ps).length = 0 := by simp at h1; simp [h1]
     rw [List.eq_nil_of_length_eq_zero this]
     rfl
 rw [e] at h
 exact h
def comD (k r c w : Int) (ps : List PairB) : List UInt8 := dataL k r c w ps 2 (winI k r c w ps) k.toNat
def comE (k r c w : Int) (ps : List PairB) : Int := if chkI k r c w ps = 0 then (if winI k r c w ps = 0 then 5 else if manyN k r c w ps 2 (winI k r c w ps) < k.toNat then 5 else parseE k r c w (comD k r c w ps)) else chkI k r c w ps
def comV (k r c w : Int) (ps : List PairB) : AV := if comE k r c w ps = 0 then .tup [descA (pLen (comD k r c w ps)) (pDep (comD k r c w ps)) (pRefs (comD k r c w ps)), intV (winI k r c w ps), intV 0] else .tup [desc0, intV 0, intV (comE k r c w ps)]
theorem chk_parts {k r c w : Int} {ps : List PairB} (h : chkI k r c w ps = 0) : mayB k r c w = true ∧ rowB k r c ps = true := by
 unfold chkI at h
 split at h
 · rename_i h1
   split at h
   · rename_i h2; exact ⟨h1, h2⟩
   · omega
 · omega
theorem win_ver {k r c w : Int} {ps : List PairB} (hc : chkI k r c w ps = 0) (h : winI k r c w ps ≠ 0) : verB (winI k r c w ps) = true := by
 have hl : 1 ≤ (cntP k r c w ps).length := by
   rcases Nat.eq_zero_or_pos (cntP k r c w ps).length with h0 | h0
   · exfalso
     apply h
     unfold winI
     rw [List.eq_nil_of_length_eq_zero h0]
     rfl
   · exact h0
 have hm := win_mem hl
 have hm2 : winI k r c w ps ∈ (talT k r c w ps).filter (cntB k (heldsP k r c w ps)) := hm
 have := (tal_pw k r c w ps).2 _ (List.mem_filter.1 hm2).1
 unfold verB
 exact decide_eq_true this
theorem bytes_rd (bs : List UInt8) (n : Nat) (h : bs.length = n) : RdSl (treeR n (bytesA bs)) bs.length (bytesA bs ++ []) := by rw [h, List.append_nil]; exact treeR_rd _ _
theorem comD_len {k r c w : Int} {ps : List PairB} (hm : mayB k r c w = true) : (comD k r c w ps).length = k.toNat * c.toNat := dataL_len _ _ _ _ _ _ _ _
def onceCR : Nat → Bool := fun d => d != 4
theorem commit_Read (k r c w : Int) (v : AV) (ps : List PairB) (cells : List AV) (hv : RowV v ps cells) : FSpec Tryz.prog 17 [parV k r c w, v] ⟨comV k r c w ps, []⟩ := by
 refine fspec_fzT ?_
 have h1 := version_win k r c w v ps cells hv
 have hvc := rd_cells hv.rd
 have hvo := rd_okA hv.rd
 have f1 := rd_fz hv.rd
 have q1 := rd_one hv.rd
 have hp := hv.rd.plain
 have hz : comE k r c w ps ≠ 0 → ∀ m, fzT 0 m (.tup [.agg [.val (.int .i64 0), .val (.int .i64 0), .val (.slice none 0 0)], .val (.int .i64 0), .val (.int .i64 (comE k r c w ps))]) = some (comV k r c w ps) := fun h m => by
   unfold comV
   rw [if_neg h]
   exact fzId_tup (fun x hx => by
     simp only [List.mem_cons, List.not_mem_nil, or_false] at hx
     rcases hx with rfl | rfl | rfl
     · exact fzId_agg fun c hc => by
         simp only [List.mem_cons, List.not_mem_nil, or_false] at hc
         rcases hc with rfl | rfl | rfl <;> exact fzId_val _
     · exact fzId_val _
     · exact fzId_val _) 0 m
 by_cases hc : chkI k r c w ps = 0
 · obtain ⟨hm, hr⟩ := chk_parts hc
   have hE : comE k r c w ps = if winI k r c w ps = 0 then 5 else if manyN k r c w ps 2 (winI k r c w ps) < k.toNat then 5 else parseE k r c w (comD k r c w ps) := by unfold comE; rw [if_pos hc]
   rw [if_pos hc, hc] at h1
   have hver := win_ver hc
   have hrd := fun h => stripe_Read k r c w 2 (winI k r c w ps) v ps cells hv hm hr (.inr rfl) (hver h)
   have hcv : comE k r c w ps = 0 → comV k r c w ps = .tup [descA (pLen (comD k r c w ps)) (pDep (comD k r c w ps)) (pRefs (comD k r c w ps)), intV (winI k r c w ps), intV 0] := fun h => by unfold comV; rw [if_pos h]
   have hdl := comD_len (ps := ps) hm
   have hcD : comD k r c w ps = dataL k r c w ps 2 (winI k r c w ps) k.toNat := rfl
   unfold sreadV at hrd
   rw [← hcD] at hrd
   clear hcD
   generalize winI k r c w ps = W at *
   generalize comD k r c w ps = D at *
   by_cases hW : W = 0
   · subst hW
     rw [if_pos rfl] at hE
     have hz := hz (by rw [hE]; decide)
     rw [hE] at hz
     replace hz := Hid.mk hz
     replace hE := Hid.mk hE
     clear hrd hver hcv
     refine ospec_of_body follows Tryz.func17 (by unfold Tryz.f17; rfl) (by unfold Tryz.f17; simp) onceCR (by unfold Tryz.f17; simp) (by kernel_rfl) ?_; unfold Tryz.f17
     simp only [↓pre, simprocAttr, parV, sx, tys17, onceCR, bne, postU, postFz, storeE, allocE, put_at, push_at, me0, f1, q1, Nat.one_ne_zero, Nat.zero_ne_one, ↓hvc, ↓hvo, sr]
     refine call_plain (h1) (by simp only [parV, plQ, *]) ?_; simp only [↓pre, simprocAttr, parV, sx, tys17, onceCR, bne, postU, postFz, storeE, allocE, put_at, push_at, me0, f1, q1, Nat.one_ne_zero, Nat.zero_ne_one, ↓hvc, ↓hvo, sr]
     exact ⟨0, hz.out _⟩
   · rw [if_neg hW] at hE
     have hrd := hrd hW
     clear hver
     by_cases hlt : manyN k r c w ps 2 W < k.toNat
     · rw [if_pos hlt] at hE hrd
       have hz := hz (by rw [hE]; decide)
       rw [hE] at hz
       replace hz := Hid.mk hz
       replace hE := Hid.mk hE
       clear hcv
       simp only [nilS] at hrd
       refine ospec_of_body follows Tryz.func17 (by unfold Tryz.f17; rfl) (by unfold Tryz.f17; simp) onceCR (by unfold Tryz.f17; simp) (by kernel_rfl) ?_; unfold Tryz.f17
       simp only [↓pre, simprocAttr, parV, sx, tys17, onceCR, bne, postU, postFz, storeE, allocE, put_at, push_at, me0, f1, q1, Nat.one_ne_zero, Nat.zero_ne_one, ↓hvc, ↓hvo, sr]
       refine call_plain (h1) (by simp only [parV, plQ, *]) ?_; simp only [↓pre, simprocAttr, parV, sx, tys17, onceCR, bne, postU, postFz, storeE, allocE, put_at, push_at, me0, f1, q1, Nat.one_ne_zero, Nat.zero_ne_one, ↓hvc, ↓hvo, hW, sr]; refine call_plain (hrd) (by simp only [parV, plQ, *]) ?_; simp only [↓pre, simprocAttr, parV, sx, tys17, onceCR, bne, postU, postFz, storeE, allocE, put_at, push_at, me0, f1, q1, Nat.one_ne_zero, Nat.zero_ne_one, ↓hvc, ↓hvo, hW, sr]
       exact ⟨0, hz.out _⟩
     · rw [if_neg hlt] at hE hrd
       have hpa := desc_Parse k r c w (treeR (k.toNat * c.toNat) (bytesA D)) D [] (bytes_rd D _ hdl)
       unfold parseD at hpa
       have pt := (treeR_rd (k.toNat * c.toNat) (bytesA D)).plain
       rw [← hE] at hpa
       replace hlt := Hid.mk hlt
       by_cases he : comE k r c w ps = 0
       · rw [he, if_pos rfl] at hpa
         have hcv := hcv he
         have hf := fun m => fzId_tup (fun x (hx : x ∈ [descA (pLen D) (pDep D) (pRefs D), intV W, intV 0]) => by
           simp only [List.mem_cons, List.not_mem_nil, or_false] at hx
           rcases hx with rfl | rfl | rfl
           · exact descA_id _ _ _
           · exact fzId_val _
           · exact fzId_val _) 0 m
         rw [← hcv] at hf
         unfold descA at hpa
         rw [hcv] at hf
         unfold descA at hf
         rw [hcv]
         unfold descA
         replace hcv := Hid.mk hcv
         replace hE := Hid.mk hE
         replace hz := Hid.mk hz
         generalize pLen D = pl at *
         generalize pDep D = pd at *
         generalize pRefs D = pr at *
         have hTRf : treeR pr.length (refsA pr) = .val (.slice none 0 0) ∨ treeR pr.length (refsA pr) = .tree pr.length pr.length (refsA pr) false := by unfold treeR; split; exact .inl rfl; exact .inr rfl
         rcases hTRf with hT | hT
         all_goals rw [hT] at hpa hf ⊢
         all_goals replace hT := Hid.mk hT
         all_goals replace hf := Hid.mk hf
         all_goals (
           refine ospec_of_body follows Tryz.func17 (by unfold Tryz.f17; rfl) (by unfold Tryz.f17; simp) onceCR (by unfold Tryz.f17; simp) (by kernel_rfl) ?_; unfold Tryz.f17
           simp only [↓pre, simprocAttr, parV, sx, tys17, onceCR, bne, postU, postFz, storeE, allocE, put_at, push_at, me0, f1, q1, Nat.one_ne_zero, Nat.zero_ne_one, ↓hvc, ↓hvo, sr]
           refine call_plain (h1) (by simp only [parV, plQ, *]) ?_; simp only [↓pre, simprocAttr, parV, sx, tys17, onceCR, bne, postU, postFz, storeE, allocE, put_at, push_at, me0, f1, q1, Nat.one_ne_zero, Nat.zero_ne_one, ↓hvc, ↓hvo, hW, sr]; refine call_plain (hrd) (by simp only [parV, plQ, *]) ?_; simp only [↓pre, simprocAttr, parV, sx, tys17, onceCR, bne, postU, postFz, storeE, allocE, put_at, push_at, me0, f1, q1, Nat.one_ne_zero, Nat.zero_ne_one, ↓hvc, ↓hvo, hW, sr]; refine call_plain (hpa) (by simp only [parV, plQ, *]) ?_; simp only [↓pre, simprocAttr, parV, sx, tys17, onceCR, bne, postU, postFz, storeE, allocE, put_at, push_at, me0, f1, q1, Nat.one_ne_zero, Nat.zero_ne_one, ↓hvc, ↓hvo, hW, sr]
           exact ⟨0, hf.out _⟩
         )
       · rw [if_neg he] at hpa
         have hz := hz he
         replace hz := Hid.mk hz
         replace hE := Hid.mk hE
         replace hcv := Hid.mk hcv
         generalize comE k r c w ps = CE at *
         unfold desc0 nilS at hpa
         refine ospec_of_body follows Tryz.func17 (by unfold Tryz.f17; rfl) (by unfold Tryz.f17; simp) onceCR (by unfold Tryz.f17; simp) (by kernel_rfl) ?_; unfold Tryz.f17
         simp only [↓pre, simprocAttr, parV, sx, tys17, onceCR, bne, postU, postFz, storeE, allocE, put_at, push_at, me0, f1, q1, Nat.one_ne_zero, Nat.zero_ne_one, ↓hvc, ↓hvo, sr]
         refine call_plain (h1) (by simp only [parV, plQ, *]) ?_; simp only [↓pre, simprocAttr, parV, sx, tys17, onceCR, bne, postU, postFz, storeE, allocE, put_at, push_at, me0, f1, q1, Nat.one_ne_zero, Nat.zero_ne_one, ↓hvc, ↓hvo, hW, he, sr]; refine call_plain (hrd) (by simp only [parV, plQ, *]) ?_; simp only [↓pre, simprocAttr, parV, sx, tys17, onceCR, bne, postU, postFz, storeE, allocE, put_at, push_at, me0, f1, q1, Nat.one_ne_zero, Nat.zero_ne_one, ↓hvc, ↓hvo, hW, he, sr]; refine call_plain (hpa) (by simp only [parV, plQ, *]) ?_; simp only [↓pre, simprocAttr, parV, sx, tys17, onceCR, bne, postU, postFz, storeE, allocE, put_at, push_at, me0, f1, q1, Nat.one_ne_zero, Nat.zero_ne_one, ↓hvc, ↓hvo, hW, he, sr]
         exact ⟨0, hz.out _⟩
 · have hE : comE k r c w ps = chkI k r c w ps := by unfold comE; rw [if_neg hc]
   rw [if_neg hc] at h1
   have hz := hz (by rw [hE]; exact hc)
   rw [hE] at hz
   replace hz := Hid.mk hz
   replace hE := Hid.mk hE
   refine ospec_of_body follows Tryz.func17 (by unfold Tryz.f17; rfl) (by unfold Tryz.f17; simp) onceCR (by unfold Tryz.f17; simp) (by kernel_rfl) ?_; unfold Tryz.f17
   simp only [↓pre, simprocAttr, parV, sx, tys17, onceCR, bne, postU, postFz, storeE, allocE, put_at, push_at, me0, f1, q1, Nat.one_ne_zero, Nat.zero_ne_one, ↓hvc, ↓hvo, sr]
   refine call_plain (h1) (by simp only [parV, plQ, *]) ?_; simp only [↓pre, simprocAttr, parV, sx, tys17, onceCR, bne, postU, postFz, storeE, allocE, put_at, push_at, me0, f1, q1, Nat.one_ne_zero, Nat.zero_ne_one, ↓hvc, ↓hvo, hc, sr]
   exact ⟨0, hz.out _⟩
theorem slot_put (m0 : Mem) (lv : AV) (cs : List AV) (n : Int) (ho : Own m0 5 1 lv cs.length cs) (hn : 0 ≤ n) (hn2 : n ≤ 1073741824) (hl : cs.length ≤ 100000) : OSpec Tryz.prog 294 [lv, intV n] m0 fun r m' => r = (growB 5 m0 lv cs (bytesA (numB n 4))).2 ∧ m' = (growB 5 m0 lv cs (bytesA (numB n 4))).1 := by
 refine ospec_of_body follows Tryz.func294 (by unfold Tryz.f294; rfl) (by unfold Tryz.f294; simp) onceA (by unfold Tryz.f294; simp) (by kernel_rfl) ?_; unfold Tryz.f294
 simp only [↓pre, simprocAttr, parV, sx, tys294, onceA, postU, postA, postV, sr]
 rw [codeW_loop]
 refine loop_intro (fun q e m => ∃ (c' : Nat) (ys : List UInt8), q = c' ∧ c' ≤ 4 ∧ Hid (ys ++ numB n c' = numB n 4) ∧ e 0 = (growB 5 m0 lv cs (bytesA ys)).2 ∧ e 1 = intV n ∧ e 5 = intV (8 * (c' : Int) - 8) ∧ m = (growB 5 m0 lv cs (bytesA ys)).1) 4 ⟨4, [], rfl, Nat.le_refl _, ⟨rfl⟩, rfl, rfl, rfl, rfl⟩ ?_
 rintro q e m ⟨c', ys, rfl, hcc, hys, e0, e1, e5, hmm⟩
 replace hcc := Hid.mk hcc
 cases q with
 | zero =>
   have hno : ¬ (0 : Int) ≤ 8 * ((0 : Nat) : Int) - 8 := by omega
   have hy := hys.out
   rw [show numB n 0 = [] from rfl, List.append_nil] at hy
   subst hy
   simp only [↓pre, simprocAttr, parV, sx, tys294, onceA, postU, postA, postV, e0, e1, e5, hno, sr]
   exact hmm
 | succ d =>
   have hd : 8 * ((d + 1 : Nat) : Int) - 8 = (8 * d : Nat) := by omega
   have hyes : (0 : Int) ≤ ((8 * d : Nat) : Int) := by omega
   have w2 : IntKind.i64.wrap (((8 * d : Nat) : Int) - 8) = 8 * ((d : Nat) : Int) - 8 := by rw [show ((8 * d : Nat) : Int) - 8 = 8 * ((d : Nat) : Int) - 8 by omega]; exact wrap_id (by omega) (by have := hcc.out; omega)
   have hmin : min (8 * d) IntKind.i64.bits = 8 * d := by have := hcc.out; have : IntKind.i64.bits = 64 := rfl; omega
   have hpos : 0 ≤ n / 2 ^ (8 * d) := Int.ediv_nonneg hn (Int.le_of_lt (Int.pow_pos (by decide)))
   have wu : IntKind.u8.wrap (n / 2 ^ (8 * d)) = ((UInt8.ofNat (n / 2 ^ (8 * d)).toNat).toNat : Int) := by
     have := u8_wrap (n / 2 ^ (8 * d)).toNat
     rw [Int.toNat_of_nonneg hpos] at this
     exact this
   have hown := growB_own (bytesA ys) m0 lv cs ho
   rw [← hmm, ← e0] at hown
   have hyl : (bytesA ys).length ≤ 4 := by
     have h9 := congrArg List.length hys.out
     rw [List.length_append, numB_len, numB_len] at h9
     simp [bytesA]
     omega
   have happ := app_grow (P := Tryz.prog) (x := .tree 1 1 [.val (.int .u8 (UInt8.ofNat (n / 2 ^ (8 * d)).toNat).toNat)] true) (y := .val (.int .u8 (UInt8.ofNat (n / 2 ^ (8 * d)).toNat).toNat)) (yb := 1) (zl := [.int .u8 0]) (by kernel_rfl) hown (by kernel_rfl) (by kernel_rfl) (by kernel_rfl) rfl srcT1 (by omega) (by omega)
   have hga := growB_append (el := 5) (bytesA ys) [.val (.int .u8 (UInt8.ofNat (n / 2 ^ (8 * d)).toNat).toNat)] m0 lv cs
   rw [← hmm, ← e0] at hga
   simp only [growB] at hga
   generalize hv0 : e 0 = v0 at *
   rw [hd] at e5
   replace hyl := Hid.mk hyl
   replace hown := Hid.mk hown
   replace hga := Hid.mk hga
   replace hmm := Hid.mk hmm
   replace e0 := Hid.mk e0
   replace hpos := Hid.mk hpos
   simp only [↓pre, simprocAttr, parV, sx, tys294, onceA, postU, postA, postV, hv0, e1, e5, hyes, w2, bin_shr_nat, hmin, wu, happ, sr]
   refine ⟨d, by omega, d, ys ++ [UInt8.ofNat (n / 2 ^ (8 * d)).toNat], rfl, by have := hcc.out; omega, ⟨by rw [List.append_assoc]; exact hys.out⟩, ?_, rfl, ?_⟩
   · unfold bytesA at hga ⊢
     rw [List.map_append, List.map_cons, List.map_nil]
     exact (congrArg Prod.snd hga.out).symm
   · unfold bytesA at hga ⊢
     rw [List.map_append, List.map_cons, List.map_nil]
     exact (congrArg Prod.fst hga.out).symm
def vecB (l : List Int) : List UInt8 := l.flatMap fun n => numB n 4
theorem vecB_len (l : List Int) : (vecB l).length = l.length * 4 := by
 induction l with
 | nil => rfl
 | cons a l ih => simp only [vecB, List.flatMap_cons, List.length_append, numB_len, List.length_cons] at ih ⊢; omega
def slotB (s : SlotC) : List UInt8 := [84, 50, UInt8.ofNat s.kd.toNat, UInt8.ofNat s.ix.toNat] ++ (numB s.ce 4 ++ (numB s.st 4 ++ (vecB s.vec ++ s.data)))
theorem build4 {m : Mem} {a b c d : Int} : buildTreeE Tryz.prog m 52 4 [(0, .val (.int .u8 a)), (1, .val (.int .u8 b)), (2, .val (.int .u8 c)), (3, .val (.int .u8 d))] = some ⟨.tree 4 4 [.val (.int .u8 a), .val (.int .u8 b), .val (.int .u8 c), .val (.int .u8 d)] true, m, none⟩ := by
 have h1 : elE Tryz.prog 52 = some 5 := by kernel_rfl
 have h2 : szE Tryz.prog 5 = some 1 := by kernel_rfl
 have h5 : zeroE Tryz.prog 5 = some [.int .u8 0] := by kernel_rfl
 simp [buildTreeE, h1, h2, h5, zerosE, List.range_succ, fillE, okA, oneA, splice, AV.cells, hasRefs, hasRef, outV]
theorem make_cap (m : Mem) {n : Nat} (hn : n ≤ 65536) : makeE Tryz.prog m 52 0 n = some ⟨.sl m.next 0 0 n true, m.push ⟨[], 5, .flat, true⟩, none⟩ := by
 have h1 : elE Tryz.prog 52 = some 5 := by kernel_rfl
 have h2 : szE Tryz.prog 5 = some 1 := by kernel_rfl
 have h3 : byE Tryz.prog 5 = some 1 := by kernel_rfl
 have h4 : kindT Tryz.prog 5 = .flat := by kernel_rfl
 have hz := zeros_one h2 (x := .int .u8 0) (by kernel_rfl) n
 simp only [makeE, h1, h2, h3, h4, hz, outV, Option.bind_some, Nat.mul_one]
 rw [if_pos (by omega)]
 rfl
theorem last_le {M : Int} : ∀ (l : List Int) (a : Int), a ≤ M → (∀ v ∈ l, v ≤ M) → a ≤ l.foldl max a ∧ l.foldl max a ≤ M
 | [], a, h, _ => ⟨Int.le_refl _, h⟩
 | x :: l, a, h, hl => by
   have := last_le l (max a x) (by have := hl x (by simp); omega) fun v hv => hl v (by simp [hv])
   simp only [List.foldl_cons]
   omega
def onceSB : Nat → Bool := fun d => d != 35 && d != 38
theorem slot_Bytes (k r c w : Int) (s : SlotC) (vv dv : AV) (x y : List AV) (hv : RdSl vv s.vec.length (intsA s.vec ++ x)) (hd : RdSl dv s.data.length (bytesA s.data ++ y)) (hm : mayB k r c w = true) (hs : SlotOk k r c w s) : FSpec Tryz.prog 238 [parV k r c w, .agg [.val (.int .u8 s.kd), intV s.ix, intV s.ce, intV s.st, vv, dv]] ⟨.tup [treeR (slotB s).length (bytesA (slotB s)), intV 0], []⟩ := by
 refine fspec_fzT ?_
 have hsz := slot_Size k r c w
 simp only [hm, if_true] at hsz
 obtain ⟨hvl, hvv⟩ := vec_ok hs.vec
 have hmn := may_n hm
 have hmay := slot_may k r c w s.kd s.ix s.ce s.st vv dv s.vec x s.data.length (bytesA s.data ++ y) hv hd (by omega)
 have hmt : mayS k r c w s.kd s.ix s.ce s.st s.vec s.data.length = true := by
   unfold mayS
   rw [decide_eq_true hs.vec, decide_eq_true hs.st, decide_eq_true ⟨hs.ix0, hs.ix1⟩, decide_eq_true hs.ce, decide_eq_true hs.data]
   rcases hs.kd with h | h <;> simp [h]
 rw [hmt] at hmay
 have hce := hvv _ (List.mem_of_getElem? hs.ce)
 have hix0 := hs.ix0
 have hix1 := hs.ix1
 have hdl := hs.data
 have hst : 0 ≤ s.st ∧ s.st ≤ 1073741824 := by
   rw [hs.st]
   exact last_le s.vec 0 (by omega) fun v hv => (hvv v hv).2
 have hslA : s.vec.length ≤ 16 := by omega
 have hkd2 : s.kd = ((UInt8.ofNat s.kd.toNat).toNat : Int) := by rcases hs.kd with h | h <;> (rw [h]; rfl)
 have hix2 : IntKind.u8.wrap s.ix = ((UInt8.ofNat s.ix.toNat).toNat : Int) := by
   have := u8_wrap s.ix.toNat
   rw [Int.toNat_of_nonneg hix0] at this
   exact this
 obtain ⟨SZ, hSZ⟩ : ∃ n : Nat, sizeI k r c = (n : Int) := ⟨(sizeI k r c).toNat, by unfold sizeI; omega⟩
 have hSZ2 : SZ ≤ 200 ∧ 0 < SZ := by unfold sizeI at hSZ; omega
 rw [hSZ] at hsz
 have hmk := fun m => make_cap m (n := SZ) (by omega)
 have f1 := rd_fz hv
 have f2 := rd_fz hd
 have q1 := rd_one hv
 have q2 := rd_one hd
 have pv := hv.plain
 have pd := hd.plain
 have hfin : slotB s = [84, 50, UInt8.ofNat s.kd.toNat, UInt8.ofNat s.ix.toNat] ++ (numB s.ce 4 ++ (numB s.st 4 ++ (vecB s.vec ++ s.data))) := rfl
 have hput := fun m lv cs n a b c d => slot_put m lv cs n a b c d
 replace hput := Hid.mk hput
 obtain ⟨kd, ix, ce, st, vec, data⟩ := s
 simp only at *
 clear hs hmt
 replace hfin := Hid.mk hfin
 replace hvv := Hid.mk hvv
 replace hvl := Hid.mk hvl
 replace hmn := Hid.mk hmn
 replace hSZ := Hid.mk hSZ
 replace hix0 := Hid.mk hix0
 replace hix1 := Hid.mk hix1
 replace hdl := Hid.mk hdl
 replace hce := Hid.mk hce
 replace hst := Hid.mk hst
 replace hslA := Hid.mk hslA
 replace hSZ2 := Hid.mk hSZ2
 replace hkd2 := Hid.mk hkd2
 simp only [slotV, intV] at hmay
 refine ospec_of_body follows Tryz.func238 (by unfold Tryz.f238; rfl) (by unfold Tryz.f238; simp) onceSB (by unfold Tryz.f238; simp) (by kernel_rfl) ?_; unfold Tryz.f238
 simp only [↓pre, simprocAttr, parV, sx, tys238, onceSB, bne, postU, postV, f1, f2, q1, q2, sr]
 refine call_plain (hsz) (by rfl) ?_; simp only [↓pre, simprocAttr, parV, sx, tys238, onceSB, bne, postU, postV, f1, f2, q1, q2, hmk, sr]; refine call_plain (hmay) (by simp only [parV, plQ, *]) ?_; simp only [↓pre, simprocAttr, parV, sx, tys238, onceSB, bne, postU, postV, f1, f2, q1, q2, hmk, sr]
 refine contW_fixed (by kernel_rfl) ?_
 simp only [↓pre, simprocAttr, parV, sx, tys238, onceSB, bne, postU, postV, f1, f2, q1, q2, hix2, build4, sr]
 generalize hm1 : Mem.push Mem.empty _ = m1
 have hown1 : Own1 m1 5 1 (.sl Mem.empty.next 0 0 SZ true) 0 [] := by
   rw [← hm1]
   exact ⟨.inr ⟨_, SZ, rfl, by rw [push_at, if_pos rfl], by rw [push_next]; omega, rfl, rfl, by have := hSZ2.out; omega⟩⟩
 refine app_one (sz := 1) (y := 1) (zl := [.int .u8 0]) (by kernel_rfl) hown1 (by kernel_rfl) (by kernel_rfl) (by kernel_rfl) rfl (src_tree (by simp)) rfl (by omega) (by omega) (by omega) ?_
 intro v2 m2 ho2 hn2
 clear hm1 hown1
 have hcs2 : ([] : List AV) ++ ([.val (.int .u8 84), .val (.int .u8 50), .val (.int .u8 kd), .val (.int .u8 ((UInt8.ofNat ix.toNat).toNat : Int))] : List AV).take (4 * 1) = bytesA [84, 50, UInt8.ofNat kd.toNat, UInt8.ofNat ix.toNat] := by
   have h9 := hkd2.out
   show ([.val (.int .u8 84), .val (.int .u8 50), .val (.int .u8 kd), .val (.int .u8 ((UInt8.ofNat ix.toNat).toNat : Int))] : List AV) = [byteV 84, byteV 50, byteV (UInt8.ofNat kd.toNat), byteV (UInt8.ofNat ix.toNat)]
   unfold byteV
   rw [← h9]
   rfl
 rw [hcs2] at ho2
 have ho2 : Own m2 5 1 v2 (bytesA [84, 50, UInt8.ofNat kd.toNat, UInt8.ofNat ix.toNat]).length (bytesA [84, 50, UInt8.ofNat kd.toNat, UInt8.ofNat ix.toNat]) := ho2
 generalize hB0 : bytesA [84, 50, UInt8.ofNat kd.toNat, UInt8.ofNat ix.toNat] = B0 at *
 have hB0l : B0.length = 4 := by rw [← hB0]; rfl
 have c1 := hput.out m2 v2 B0 ce ho2 (by have := hce.out; omega) (by have := hce.out; omega) (by omega)
 have o1 := growB_own (bytesA (numB ce 4)) m2 v2 B0 ho2
 rw [← List.length_append] at o1
 have c2 := hput.out _ _ _ st o1 (by have := hst.out; omega) (by have := hst.out; omega) (by rw [List.length_append, bytesA_len, numB_len]; omega)
 have o2 := growB_own (bytesA (numB st 4)) _ _ _ o1
 rw [← List.length_append] at o2
 generalize growB 5 m2 v2 B0 (bytesA (numB ce 4)) = G1 at *
 generalize growB 5 G1.1 G1.2 (B0 ++ bytesA (numB ce 4)) (bytesA (numB st 4)) = G2 at *
 replace o1 := Hid.mk o1
 replace o2 := Hid.mk o2
 replace ho2 := Hid.mk ho2
 replace hB0l := Hid.mk hB0l
 replace hB0 := Hid.mk hB0
 replace hcs2 := Hid.mk hcs2
 simp only [intV] at c1 c2
 refine contW_fixed (by kernel_rfl) ?_
 simp only [↓pre, simprocAttr, parV, sx, tys238, onceSB, bne, postU, postV, f1, f2, q1, q2, sr]
 refine call_det c1 ?_
 refine contW_fixed (by kernel_rfl) ?_
 simp only [↓pre, simprocAttr, parV, sx, tys238, onceSB, bne, postU, postV, f1, f2, q1, q2, sr]
 refine call_det c2 ?_
 refine contW_fixed (by kernel_rfl) ?_
 simp only [↓pre, simprocAttr, parV, sx, tys238, onceSB, bne, postU, postV, f1, f2, q1, q2, hv.len', sr]
 generalize hCS : B0 ++ bytesA (numB ce 4) ++ bytesA (numB st 4) = CS at *
 have hCSl : CS.length = 12 := by rw [← hCS, List.length_append, List.length_append, bytesA_len, bytesA_len, numB_len, numB_len, hB0l.out]
 have hO : Own G2.1 5 1 G2.2 (CS ++ bytesA (vecB (vec.take 0))).length (CS ++ bytesA (vecB (vec.take 0))) := by simpa [vecB, bytesA] using o2.out
 rw [codeW_loop]
 refine loop_intro (fun q e m => ∃ i, q + i = vec.length ∧ e 3 = .tptr 0 [.val (.int .u8 kd), .val (.int .i64 ix), .val (.int .i64 ce), .val (.int .i64 st), vv, dv] ∧ e 40 = vv ∧ e 41 = intV (vec.length : Nat) ∧ e 42 = intV (i : Nat) ∧ Hid (Own m 5 1 (e 8) (CS ++ bytesA (vecB (vec.take i))).length (CS ++ bytesA (vecB (vec.take i))))) vec.length ⟨0, by omega, rfl, rfl, rfl, rfl, ⟨hO⟩⟩ ?_
 rintro q e m ⟨i, hq, e3, e40, e41, e42, hJ⟩
 replace hq := Hid.mk hq
 generalize hv0 : e 8 = v0 at *
 by_cases hlt : i < vec.length
 · have hlt' : ((i : Nat) : Int) < ((vec.length : Nat) : Int) := by omega
   have wi := wrap_succ (n := i) (by have := hslA.out; omega)
   obtain ⟨z, hz⟩ : ∃ z, vec[i]? = some z := ⟨_, List.getElem?_eq_getElem hlt⟩
   have hza := int_at (x := x) hz
   have hzv := hvv.out z (List.mem_of_getElem? hz)
   have hvs : vecB (vec.take (i + 1)) = vecB (vec.take i) ++ numB z 4 := by rw [List.take_add_one, hz]; simp [vecB]
   have hlen : (CS ++ bytesA (vecB (vec.take i))).length ≤ 100 := by rw [List.length_append, bytesA_len, vecB_len, List.length_take]; have := hslA.out; omega
   have c3 := hput.out m v0 _ z hJ.out (by omega) (by omega) (by omega)
   have o3 := growB_own (bytesA (numB z 4)) m v0 _ hJ.out
   rw [← List.length_append, List.append_assoc, ← bytesA_append, ← hvs] at o3
   replace hz := Hid.mk hz
   replace hzv := Hid.mk hzv
   replace hvs := Hid.mk hvs
   replace o3 := Hid.mk o3
   simp only [intV] at c3
   simp only [↓pre, simprocAttr, parV, sx, tys238, onceSB, bne, postU, postV, f1, f2, q1, q2, hv0, e3, e40, e41, e42, hlt', hv.addr', hlt, hza, sr]
   refine call_det c3 ?_
   simp only [↓pre, simprocAttr, parV, sx, tys238, onceSB, bne, postU, postV, f1, f2, q1, q2, hv0, e3, e40, e41, e42, wi, sr]
   exact ⟨q - 1, by have := hq.out; omega, i + 1, by have := hq.out; omega, rfl, ⟨o3.out⟩⟩
 · have hlt' : ¬ ((i : Nat) : Int) < ((vec.length : Nat) : Int) := by omega
   have hi : i = vec.length := by have := hq.out; omega
   subst hi
   rw [List.take_length] at hJ
   have hsrc := RdSl.src (P := Tryz.prog) (m := m) (el := 5) (sz := 1) hd (by rw [Nat.mul_one, List.length_append, bytesA_len]; omega)
   rw [Nat.mul_one, List.take_left' (bytesA_len data)] at hsrc
   have hlen : (CS ++ bytesA (vecB vec)).length ≤ 100 := by rw [List.length_append, bytesA_len, vecB_len]; have := hslA.out; omega
   have hdn : data.length ≤ 64 := by have := hdl.out; have := hmn.out; omega
   simp only [↓pre, simprocAttr, parV, sx, tys238, onceSB, bne, postU, postV, f1, f2, q1, q2, hv0, e3, e40, e41, e42, hlt', sr]
   refine app_rule (sz := 1) (y := 1) (zl := [.int .u8 0]) (by kernel_rfl) hJ.out (by kernel_rfl) (by kernel_rfl) (by kernel_rfl) rfl hsrc (by rw [bytesA_len]; omega) (by omega) (by omega) ?_
   intro v4 m4 ho4 hn4
   simp only [↓pre, simprocAttr, parV, sx, tys238, onceSB, bne, postU, postV, f1, f2, q1, q2, hv0, e3, e40, e41, e42, sr]
   have hfl : (CS ++ bytesA (vecB vec)) ++ bytesA data = bytesA (slotB ⟨kd, ix, ce, st, vec, data⟩) := by
     rw [hfin.out, ← hCS, ← hB0.out]
     simp only [bytesA_append, List.append_assoc]
   have hll : (CS ++ bytesA (vecB vec)).length + data.length = (slotB ⟨kd, ix, ce, st, vec, data⟩).length := by
     have := congrArg List.length hfl
     rw [List.length_append, bytesA_len, bytesA_len] at this
     exact this
   rw [hfl, hll] at ho4
   exact ⟨0, by rw [fzT_tup, fzTs_cons, own_fzT ho4, Option.bind_some, fzTs_cons, fzT_val, fzTs_nil]; rfl⟩
structure PutC where
 dr : Nat
 row : Int
 sl : Nat
 bs : List UInt8
def PutC.cells (p : PutC) : List AV := [intV p.dr, intV p.row, intV p.sl, treeR p.bs.length (bytesA p.bs)]
def putsA (l : List PutC) : List AV := l.flatMap PutC.cells
structure WrA (m0 m : Mem) (a : Nat) (k r c w : Int) (row : AV) (num : Int) (kv : AV) (l : List PutC) : Prop where
 ex : ∃ v, m.at_ a = some ⟨[intV k, intV r, intV c, intV w, row, intV num, kv, v], 195, .var, true⟩ ∧ OwnK .var m 69 4 v l.length (putsA l) ∧ NewV m0 v
 lt : a < m0.next
 next : m0.next ≤ m.next
 mm : m.mm = m0.mm
 at_ : ∀ j k, m0.at_ j = some k → j < m0.next → j ≠ a → m.at_ j = some k
def keepI (o : Option (List Int)) (i : Nat) : Int := match o with | some l => l.getD i 0 | none => 0
def putC (k r c w : Int) (ps : List PairB) (num : Int) (o : Option (List Int)) (s : SlotC) : PutC := ⟨s.ix.toNat, num, olderN k r c w (ps.getD s.ix.toNat ([], [])) s.ix s.kd (keepI o s.ix.toNat), slotB s⟩
theorem build_put {m : Mem} {a b c : Int} {BV : AV} {n : Nat} {cs : List AV} (h : RdSl BV n cs) : buildTreeE Tryz.prog m 27 1 [(0, .agg [.val (.int .i64 a), .val (.int .i64 b), .val (.int .i64 c), BV])] = some ⟨.tree 1 1 [.val (.int .i64 a), .val (.int .i64 b), .val (.int .i64 c), BV] true, m, none⟩ := by
 have h1 : elE Tryz.prog 27 = some 69 := by kernel_rfl
 have h2 : szE Tryz.prog 69 = some 4 := by kernel_rfl
 have h5 : zeroE Tryz.prog 69 = some [.int .i64 0, .int .i64 0, .int .i64 0, .slice none 0 0] := by kernel_rfl
 have hr : hasRef BV = false := by rcases h.form with ⟨rfl, _⟩ | ⟨_, _, rfl, _⟩ | ⟨_, _, rfl, _⟩ <;> rfl
 simp [buildTreeE, h1, h2, h5, zerosE, List.range_succ, fillE, okA, oneA, splice, AV.cells, hasRefs, hasRef, outV, rd_okA h, rd_one h, hr]
structure Kept' (m m' : Mem) (pv : AV) : Prop where
 next : m.next ≤ m'.next
 mm : m'.mm = m.mm
 at_ : ∀ j k, m.at_ j = some k → j < m.next → blkOf pv ≠ some j → m'.at_ j = some k
def oncePu : Nat → Bool := fun d => d != 13 && d != 29 && d != 38 && d != 42 && d != 62 && d != 68
theorem writer_put (k r c w num : Int) (v : AV) (ps : List PairB) (cells : List AV) (hv : RowV v ps cells) (hm : mayB k r c w = true) (hr : rowB k r c ps = true) (o : Option (List Int)) (ho : ∀ l, o = some l → (l.length : Int) = k + r ∧ ∀ v ∈ l, 1 ≤ v ∧ v ≤ 1073741824) (s : SlotC) (hs : SlotOk k r c w s) (vv dv : AV) (x y : List AV) (hvv : RdSl vv s.vec.length (intsA s.vec ++ x)) (hd : RdSl dv s.data.length (bytesA s.data ++ y)) (m0 m : Mem) (a : Nat) (l : List PutC) (hl1 : l.length ≤ 1000) (hw : WrA m0 m a k r c w v num (vecA o) l) : OSpec Tryz.prog 164 [.ptr a 0, .agg [.val (.int .u8 s.kd), intV s.ix, intV s.ce, intV s.st, vv, dv]] m fun res m' => res = intV 0 ∧ WrA m0 m' a k r c w v num (vecA o) (l ++ [putC k r c w ps num o s]) := by
 have hsb := slot_Bytes k r c w s vv dv x y hvv hd hm hs
 have hmn := may_n hm
 obtain ⟨hl, hpr⟩ := row_at hr
 obtain ⟨pv, hat, hown, hnew⟩ := hw.ex
 obtain ⟨i, hi⟩ : ∃ i : Nat, s.ix = (i : Int) := ⟨s.ix.toNat, by have := hs.ix0; omega⟩
 have hin : s.ix.toNat = i := by omega
 have hvl := (vec_ok hs.vec).1
 have hip : i < ps.length := by have := hs.ix1; omega
 have hkd := hs.kd
 obtain ⟨p, hpi⟩ : ∃ p, ps[i]? = some p := ⟨_, List.getElem?_eq_getElem hip⟩
 have hpg : ps.getD i ([], []) = p := by rw [List.getD_eq_getElem?_getD, hpi]; rfl
 obtain ⟨pa, pb, xa, xb, ha, hb, hra, hrb⟩ := hv.at_ i p hpi
 obtain ⟨ht, htl⟩ := take2 ha hb
 have hkp : 0 ≤ keepI o i ∧ keepI o i ≤ 1073741824 := by
   unfold keepI
   cases o with
   | some l2 =>
     obtain ⟨g1, g2⟩ := ho l2 rfl
     have hlt : i < l2.length := by omega
     have := g2 (l2.getD i 0) (by rw [List.getD_eq_getElem?_getD, List.getElem?_eq_getElem hlt]; exact List.getElem_mem _)
     simp only
     omega
   | none => simp only; omega
 have hol := cell_Older k r c w (i : Nat) s.kd (keepI o i) pa pb p xa xb hra hrb hm (hpr p (List.mem_of_getElem? hpi)) hkd (by omega) (by have := hs.ix1; omega) hkp.1 hkp.2
 have hpc : putC k r c w ps num o s = ⟨i, num, olderN k r c w p (i : Nat) s.kd (keepI o i), slotB s⟩ := by
   unfold putC
   rw [hin, hpg, hi]
 rw [hpc]
 have hsl : (slotB s).length ≤ 1000 := by
   have h1 := hs.data
   have h2 := hs.ix1
   unfold slotB
   simp only [List.length_append, numB_len, vecB_len, List.length_cons, List.length_nil]
   omega
 generalize olderN k r c w p (i : Nat) s.kd (keepI o i) = N at *
 generalize slotB s = B at *
 have hBr := treeR_rd (B.length) (bytesA B)
 have hrw : ∃ BV, treeR B.length (bytesA B) = BV := ⟨_, rfl⟩
 obtain ⟨BV, hBV⟩ := hrw
 rw [hBV] at hsb hBr
 have f3 := rd_fz hBr
 have q3 := rd_one hBr
 have t3 := rd_shift hBr
 have p3 := hBr.plain
 have k3 := rd_okA hBr
 have c3 := rd_cells hBr
 replace hBV := Hid.mk hBV
 replace hBr := Hid.mk hBr
 have f1 := rd_fz hvv
 have f2 := rd_fz hd
 have q1 := rd_one hvv
 have q2 := rd_one hd
 have pv1 := hvv.plain
 have pd1 := hd.plain
 have pa1 := hra.plain
 have pb1 := hrb.plain
 obtain ⟨kd, ix, ce, st, vec, data⟩ := s
 simp only at *
 subst hi
 replace hw := Hid.mk hw
 replace hnew := Hid.mk hnew
 replace hown := Hid.mk hown
 replace ho := Hid.mk ho
 replace hkp := Hid.mk hkp
 replace hpi := Hid.mk hpi
 replace hmn := Hid.mk hmn
 replace hs := Hid.mk hs
 replace hpr := Hid.mk hpr
 simp only [intV] at hat
 refine ospec_of_body follows Tryz.func164 (by unfold Tryz.f164; rfl) (by unfold Tryz.f164; simp) oncePu (by unfold Tryz.f164; simp) (by kernel_rfl) ?_; unfold Tryz.f164
 simp only [↓pre, simprocAttr, parV, sx, tys164, oncePu, bne, postU, postA, storeE, allocE, put_at, push_at, f1, f2, q1, q2, f3, q3, t3, ↓k3, ↓c3, hat, sr]
 (refine call_pure (hsb) (by simp only [parV, plQ, *]) (by intro k; simp only [sq, sr, *]) ?_); simp only [↓pre, simprocAttr, parV, sx, tys164, oncePu, bne, postU, postA, storeE, allocE, put_at, push_at, f1, f2, q1, q2, f3, q3, t3, ↓k3, ↓c3, hat, sr]
 have hgo : ∀ (v' : AV) (m' : Mem), OwnK .var m' 69 4 v' (l.length + 1) (putsA l ++ [intV (i : Nat), intV num, intV (N : Nat), BV]) → Kept' m m' pv → NewV m0 v' → (m'.at_ a = m.at_ a) ∧ WrA m0 (m'.put a (some ⟨[intV k, intV r, intV c, intV w, v, intV num, vecA o, v'], 195, .var, true⟩)) a k r c w v num (vecA o) (l ++ [⟨i, num, N, B⟩]) := fun v' m' h1 h2 h3 => by
   have hw := hw.out
   have hne : ∀ {u : AV}, NewV m0 u → blkOf u ≠ some a := fun hu h => by have := hu a h; have := hw.lt; omega
   have hpn := hnew.out
   refine ⟨?_, ⟨⟨v', ?_, ?_, h3⟩, hw.lt, by rw [put_next]; exact Nat.le_trans hw.next h2.next, by show m'.mm = m0.mm; rw [h2.mm, hw.mm], fun j x hj hlj hja => ?_⟩⟩
   · rw [hat]; exact h2.at_ a _ hat (by have := hw.lt; have := hw.next; omega) (hne hpn)
   · rw [put_at, if_pos rfl]
   · have hpl : putsA (l ++ [⟨i, num, N, B⟩]) = putsA l ++ [intV (i : Nat), intV num, intV (N : Nat), BV] := by
       rw [← hBV.out]
       simp [putsA, PutC.cells]
     rw [hpl, List.length_append]
     exact h1.put_ne (hne h3)
   · rw [put_at, if_neg hja]
     exact h2.at_ j x (hw.at_ j x hj hlj hja) (by have := hw.next; omega) (fun h => by have := hpn j h; omega)
 replace hgo := Hid.mk hgo
 have hpn : ∀ (m' : Mem) (v' : AV), (m.next ≤ m'.next) → (∀ j, blkOf v' = some j → j = m.next ∨ blkOf pv = some j) → NewV m0 v' := fun m' v' _ h j hj => by
   rcases h j hj with h | h
   · rw [h]; exact hw.out.next
   · exact hnew.out j h
 replace hpn := Hid.mk hpn
 have hll : l.length ≤ 1000 := hl1
 replace hll := Hid.mk hll
 have hsrc : srcE Tryz.prog 69 4 m (.tree 1 1 [.val (.int .i64 (i : Nat)), .val (.int .i64 num), .val (.int .i64 (N : Nat)), BV] true) = some ([intV (i : Nat), intV num, intV (N : Nat), BV], 1) := by simp [srcE, slView]; exact ⟨rfl, rfl, rfl⟩
 cases o with
 | none =>
   simp only [vecA, nilS] at *
   simp only [keepI] at hol
   have hne : binE Tryz.prog .neq 41 (.tmp 24) (.const (.slice none 0 0)) (.val (.slice none 0 0)) (.val (.slice none 0 0)) = some (boolV false) := by kernel_rfl
   simp only [↓pre, simprocAttr, parV, sx, tys164, oncePu, bne, postU, postA, storeE, allocE, put_at, push_at, f1, f2, q1, q2, f3, q3, t3, ↓k3, ↓c3, hat, hne, hv.rd.addr', hip, ht, htl, sr]
   (refine call_pure (hol) (by simp only [parV, plQ, *]) (by intro k; rfl) ?_); simp only [↓pre, simprocAttr, parV, sx, tys164, oncePu, bne, postU, postA, storeE, allocE, put_at, push_at, f1, f2, q1, q2, f3, q3, t3, ↓k3, ↓c3, hat, hv.rd.addr', hip, ht, htl, sr]
   rw [build_put hBr.out]
   simp only [↓pre, simprocAttr, parV, sx, tys164, oncePu, bne, postU, postA, storeE, allocE, put_at, push_at, f1, f2, q1, q2, f3, q3, t3, ↓k3, ↓c3, hat, sr]
   refine app_keepM (sz := 4) (y := 48) (zl := [.int .i64 0, .int .i64 0, .int .i64 0, .slice none 0 0]) (by kernel_rfl) hown.out (by kernel_rfl) (by kernel_rfl) (by kernel_rfl) rfl hsrc rfl (by have := hll.out; omega) (by have := hll.out; omega) ?_
   intro v' m' g1 g2 g3 g4 g5
   obtain ⟨g6, g7⟩ := hgo.out v' m' g1 ⟨g2, g5, g3⟩ (hpn.out m' v' g2 g4)
   rw [hat] at g6
   have kv : okA v' = true := by rcases g1.form with ⟨rfl, _⟩ | ⟨_, rfl, _⟩ <;> rfl
   have cv : v'.cells = [v'] := by rcases g1.form with ⟨rfl, _⟩ | ⟨_, rfl, _⟩ <;> rfl
   replace g1 := Hid.mk g1
   replace g7 := Hid.mk g7
   refine contW_fixed (by kernel_rfl) ?_
   have hst : ∀ q, storeE Tryz.prog m' 27 q v' (.ptr a 7) = outV undefA (m'.put a (some ⟨[intV k, intV r, intV c, intV w, v, intV num, .val (.slice none 0 0), v'], 195, .var, true⟩)) := by
     have hs1 : szE Tryz.prog 27 = some 1 := by kernel_rfl
     intro q
     simp [storeE, g6, hs1, kv, cv, splice, intV]
   simp only [↓pre, simprocAttr, parV, sx, tys164, oncePu, bne, postU, postA, allocE, put_at, push_at, f1, f2, q1, q2, f3, q3, t3, ↓k3, ↓c3, hat, hst, sr]
   refine contW_fixed (by kernel_rfl) ?_
   simp only [↓pre, simprocAttr, parV, sx, tys164, oncePu, bne, postU, postA, allocE, put_at, push_at, f1, f2, q1, q2, f3, q3, t3, ↓k3, ↓c3, hat, sr]
   exact g7.out
 | some o =>
   obtain ⟨ho1, ho2⟩ := ho.out o rfl
   have hio : i < o.length := by omega
   obtain ⟨z, hz⟩ : ∃ z, o[i]? = some z := ⟨_, List.getElem?_eq_getElem hio⟩
   have hza := int_at (x := []) hz
   rw [List.append_nil] at hza
   have hrdo : RdSl (.tree o.length o.length (intsA o) false) o.length (intsA o) := ⟨.inr (.inr ⟨_, false, rfl, Nat.le_refl _⟩)⟩
   have hgz : keepI (some o) i = z := by unfold keepI; simp only; rw [List.getD_eq_getElem?_getD, hz]; rfl
   rw [hgz] at hol
   have hne : binE Tryz.prog .neq 41 (.tmp 24) (.const (.slice none 0 0)) (.tree o.length o.length (intsA o) false) (.val (.slice none 0 0)) = some (boolV true) := by kernel_rfl
   simp only [vecA] at *
   replace ho1 := Hid.mk ho1
   replace hz := Hid.mk hz
   simp only [↓pre, simprocAttr, parV, sx, tys164, oncePu, bne, postU, postA, storeE, allocE, put_at, push_at, f1, f2, q1, q2, f3, q3, t3, ↓k3, ↓c3, hat, hne, hrdo.addr', hio, hza, hv.rd.addr', hip, ht, htl, sr]
   (refine call_pure (hol) (by simp only [parV, plQ, *]) (by intro k; rfl) ?_); simp only [↓pre, simprocAttr, parV, sx, tys164, oncePu, bne, postU, postA, storeE, allocE, put_at, push_at, f1, f2, q1, q2, f3, q3, t3, ↓k3, ↓c3, hat, hv.rd.addr', hip, ht, htl, sr]
   rw [build_put hBr.out]
   simp only [↓pre, simprocAttr, parV, sx, tys164, oncePu, bne, postU, postA, storeE, allocE, put_at, push_at, f1, f2, q1, q2, f3, q3, t3, ↓k3, ↓c3, hat, sr]
   refine app_keepM (sz := 4) (y := 48) (zl := [.int .i64 0, .int .i64 0, .int .i64 0, .slice none 0 0]) (by kernel_rfl) hown.out (by kernel_rfl) (by kernel_rfl) (by kernel_rfl) rfl hsrc rfl (by have := hll.out; omega) (by have := hll.out; omega) ?_
   intro v' m' g1 g2 g3 g4 g5
   obtain ⟨g6, g7⟩ := hgo.out v' m' g1 ⟨g2, g5, g3⟩ (hpn.out m' v' g2 g4)
   rw [hat] at g6
   have kv : okA v' = true := by rcases g1.form with ⟨rfl, _⟩ | ⟨_, rfl, _⟩ <;> rfl
   have cv : v'.cells = [v'] := by rcases g1.form with ⟨rfl, _⟩ | ⟨_, rfl, _⟩ <;> rfl
   replace g1 := Hid.mk g1
   replace g7 := Hid.mk g7
   refine contW_fixed (by kernel_rfl) ?_
   have hst : ∀ q, storeE Tryz.prog m' 27 q v' (.ptr a 7) = outV undefA (m'.put a (some ⟨[intV k, intV r, intV c, intV w, v, intV num, .tree o.length o.length (intsA o) false, v'], 195, .var, true⟩)) := by
     have hs1 : szE Tryz.prog 27 = some 1 := by kernel_rfl
     intro q
     simp [storeE, g6, hs1, kv, cv, splice, intV]
   simp only [↓pre, simprocAttr, parV, sx, tys164, oncePu, bne, postU, postA, allocE, put_at, push_at, f1, f2, q1, q2, f3, q3, t3, ↓k3, ↓c3, hat, hst, sr]
   refine contW_fixed (by kernel_rfl) ?_
   simp only [↓pre, simprocAttr, parV, sx, tys164, oncePu, bne, postU, postA, allocE, put_at, push_at, f1, f2, q1, q2, f3, q3, t3, ↓k3, ↓c3, hat, sr]
   exact g7.out
def begI (k r c w : Int) (ps : List PairB) (num kd keep ver : Int) : Int := if lookI k r c w ps = 0 then (if num < 0 ∨ w ≤ num ∨ keep < 0 ∨ 1073741824 < keep then 2 else kindsI kd ver) else lookI k r c w ps
def keepO (k r c w : Int) (ps : List PairB) (kd keep : Int) : Option (List Int) := if 0 < keep then toldL k r c w ps kd keep else none
def begV (k r c w : Int) (v : AV) (ps : List PairB) (num kd keep : Int) : List AV := [intV k, intV r, intV c, intV w, v, intV num, vecA (keepO k r c w ps kd keep), nilS]
theorem look_parts {k r c w : Int} {ps : List PairB} (h : lookI k r c w ps = 0) : mayB k r c w = true ∧ rowB k r c ps = true := by
 unfold lookI at h
 split at h
 · rename_i h1
   split at h
   · rename_i h2; exact ⟨h1, h2⟩
   · simp at h
 · simp at h
def onceBe : Nat → Bool := fun d => d != 53
theorem stripe_begin (k r c w num kd keep ver : Int) (v : AV) (ps : List PairB) (cells : List AV) (hv : RowV v ps cells) (m : Mem) : OSpec Tryz.prog 159 [parV k r c w, v, intV num, .val (.int .u8 kd), intV keep, intV ver] m fun res m' => res = (if begI k r c w ps num kd keep ver = 0 then .tup [.ptr m.next 0, intV 0] else .tup [.val (.pointer none), intV (begI k r c w ps num kd keep ver)]) ∧ m' = (if begI k r c w ps num kd keep ver = 0 then m.push ⟨begV k r c w v ps num kd keep, 195, .var, true⟩ else m) := by
 have hlk := stripe_look k r c w v ps cells hv
 have hki := stripe_kinds kd ver
 have htold := fun hm hr => stripe_told k r c w kd keep v ps cells hv hm hr
 have hp := hv.rd.plain
 have ov := rd_one hv.rd
 have kv := rd_okA hv.rd
 have cv := rd_cells hv.rd
 have hlp := fun h => look_parts (k := k) (r := r) (c := c) (w := w) (ps := ps) h
 unfold begI
 replace htold := Hid.mk htold
 replace hlp := Hid.mk hlp
 refine ospec_of_body follows Tryz.func159 (by unfold Tryz.f159; rfl) (by unfold Tryz.f159; simp) onceBe (by unfold Tryz.f159; simp) (by kernel_rfl) ?_; unfold Tryz.f159
 simp only [↓pre, simprocAttr, parV, sx, tys159, onceBe, bne, postU, postA, storeE, allocE, put_at, push_at, ov, ↓kv, ↓cv, sr]
 refine call_plain (hlk) (by simp only [parV, plQ, *]) ?_; simp only [↓pre, simprocAttr, parV, sx, tys159, onceBe, bne, postU, postA, storeE, allocE, put_at, push_at, ov, ↓kv, ↓cv, sr]
 by_cases hl : lookI k r c w ps = 0
 · by_cases c1 : num < 0
   · simp only [↓pre, simprocAttr, parV, sx, tys159, onceBe, bne, postU, postA, storeE, allocE, put_at, push_at, ov, ↓kv, ↓cv, hl, c1, true_or, sr]
   · by_cases c2 : w ≤ num
     · simp only [↓pre, simprocAttr, parV, sx, tys159, onceBe, bne, postU, postA, storeE, allocE, put_at, push_at, ov, ↓kv, ↓cv, hl, c1, c2, true_or, or_true, sr]
     · by_cases c3 : keep < 0
       · simp only [↓pre, simprocAttr, parV, sx, tys159, onceBe, bne, postU, postA, storeE, allocE, put_at, push_at, ov, ↓kv, ↓cv, hl, c1, c2, c3, true_or, or_true, sr]
       · by_cases c4 : 1073741824 < keep
         · simp only [↓pre, simprocAttr, parV, sx, tys159, onceBe, bne, postU, postA, storeE, allocE, put_at, push_at, ov, ↓kv, ↓cv, hl, c1, c2, c3, c4, true_or, or_true, sr]
         · simp only [↓pre, simprocAttr, parV, sx, tys159, onceBe, bne, postU, postA, storeE, allocE, put_at, push_at, ov, ↓kv, ↓cv, hl, c1, c2, c3, c4, or_self, sr]
           refine call_plain (hki) (by rfl) ?_; simp only [↓pre, simprocAttr, parV, sx, tys159, onceBe, bne, postU, postA, storeE, allocE, put_at, push_at, ov, ↓kv, ↓cv, sr]
           by_cases c5 : kindsI kd ver = 0
           · by_cases c6 : 0 < keep
             · obtain ⟨hm, hr⟩ := hlp.out hl
               have htold := htold.out hm hr
               have hko : keepO k r c w ps kd keep = toldL k r c w ps kd keep := by unfold keepO; rw [if_pos c6]
               unfold begV
               rw [hko]
               cases hT : toldL k r c w ps kd keep with
               | none =>
                 rw [hT] at htold
                 unfold vecA nilS at htold ⊢
                 simp only [↓pre, simprocAttr, parV, sx, tys159, onceBe, bne, postU, postA, storeE, allocE, put_at, push_at, ov, ↓kv, ↓cv, c5, c6, sr]
                 refine call_plain (htold) (by simp only [parV, plQ, *]) ?_; simp only [↓pre, simprocAttr, parV, sx, tys159, onceBe, bne, postU, postA, storeE, allocE, put_at, push_at, ov, ↓kv, ↓cv, sr]
                 exact push_put rfl
               | some l =>
                 rw [hT] at htold
                 unfold vecA at htold ⊢
                 simp only [↓pre, simprocAttr, parV, sx, tys159, onceBe, bne, postU, postA, storeE, allocE, put_at, push_at, ov, ↓kv, ↓cv, c5, c6, sr]
                 refine call_plain (htold) (by simp only [parV, plQ, *]) ?_; simp only [↓pre, simprocAttr, parV, sx, tys159, onceBe, bne, postU, postA, storeE, allocE, put_at, push_at, ov, ↓kv, ↓cv, sr]
                 exact push_put rfl
             · have hko : keepO k r c w ps kd keep = none := by unfold keepO; rw [if_neg c6]
               simp only [↓pre, simprocAttr, parV, sx, tys159, onceBe, bne, postU, postA, storeE, allocE, put_at, push_at, ov, ↓kv, ↓cv, c5, c6, sr]
               unfold begV
               rw [hko]
               rfl
           · simp only [↓pre, simprocAttr, parV, sx, tys159, onceBe, bne, postU, postA, storeE, allocE, put_at, push_at, ov, ↓kv, ↓cv, c5, sr]
 · simp only [↓pre, simprocAttr, parV, sx, tys159, onceBe, bne, postU, postA, storeE, allocE, put_at, push_at, ov, ↓kv, ↓cv, hl, sr]
def mendS (k r c w : Int) (ps : List PairB) (kd ver : Int) (i : Nat) : SlotC := ⟨kd, i, ((toldL k r c w ps kd ver).getD []).getD i 0, ver, (toldL k r c w ps kd ver).getD [], tab c.toNat (wholeA k r c w ps kd ver i)⟩
def mendN (k r c w : Int) (ps : List PairB) (num kd keep ver : Int) (n : Nat) : List PutC := (List.range n).flatMap fun i => if ((thereL k r c w ps kd ver).getD i []).length = 0 then [putC k r c w ps num (keepO k r c w ps kd keep) (mendS k r c w ps kd ver i)] else []
theorem told_slot {k r c w : Int} {ps : List PairB} {kd ver : Int} {l : List Int} (h : toldL k r c w ps kd ver = some l) : vecE k r c w l = 0 ∧ ver = lastI l := by
 obtain ⟨i, hi, h1⟩ := toldN_some _ _ h
 obtain ⟨h2, bs, _, h3, rfl⟩ := told1_some h1
 refine ⟨h2, ?_⟩
 unfold toldB at h3
 simp only [Bool.and_eq_true, decide_eq_true_eq] at h3
 obtain ⟨h4, h5, h6, h7⟩ := h3
 have := (slot_ok h4).st
 rw [← this, ← h7]
 unfold slA
 rw [if_pos h4]
 rfl
theorem mendS_ok {k r c w : Int} {ps : List PairB} {kd ver : Int} {l : List Int} (hm : mayB k r c w = true) (hk : kd = 1 ∨ kd = 2) (h : toldL k r c w ps kd ver = some l) {i : Nat} (hi : (i : Int) < k + r) : SlotOk k r c w (mendS k r c w ps kd ver i) := by
 obtain ⟨h1, h2⟩ := told_slot h
 have hl := (vec_ok h1).1
 have hmn := may_n hm
 unfold mendS
 rw [h]
 refine ⟨h1, h2, by simp only; omega, by simp only [Option.getD_some]; omega, hk, ?_, ?_⟩
 · simp only [Option.getD_some, Int.toNat_natCast]
   rw [List.getD_eq_getElem?_getD, List.getElem?_eq_getElem (by omega)]
   rfl
 · simp only [tab_len]
   omega
theorem there_told {k r c w : Int} {ps : List PairB} {kd ver : Int} (hm : mayB k r c w = true) (h : ¬ manyN k r c w ps kd ver < k.toNat) : ∃ l, toldL k r c w ps kd ver = some l := by
 cases hT : toldL k r c w ps kd ver with
 | some l => exact ⟨l, rfl⟩
 | none =>
   have hmn := may_n hm
   unfold manyN at h
   rw [thereN_none hT] at h
   simp at h
   omega
theorem putsA_id (l : List PutC) : ∀ c ∈ putsA l, fzId c := by
 intro c hc
 obtain ⟨p, _, h⟩ := List.mem_flatMap.1 hc
 unfold PutC.cells at h
 simp only [List.mem_cons, List.not_mem_nil, or_false] at h
 rcases h with rfl | rfl | rfl | rfl
 · exact fzId_val _
 · exact fzId_val _
 · exact fzId_val _
 · exact fzId_rd (treeR_rd _ _)
theorem kinds_of {kd ver : Int} (h : kindsI kd ver = 0) : (kd = 1 ∨ kd = 2) ∧ verB ver = true := by
 unfold kindsI at h
 split at h
 · rename_i h1; exact h1
 · simp at h
theorem begI_of {k r c w : Int} {ps : List PairB} {num kd keep ver : Int} (h : begI k r c w ps num kd keep ver = 0) : mayB k r c w = true ∧ rowB k r c ps = true ∧ 0 ≤ num ∧ num < w ∧ 0 ≤ keep ∧ keep ≤ 1073741824 ∧ (kd = 1 ∨ kd = 2) ∧ verB ver = true := by
 unfold begI at h
 split at h
 · rename_i h1
   split at h
   · simp at h
   · rename_i h2
     obtain ⟨a, b⟩ := look_parts h1
     obtain ⟨c, d⟩ := kinds_of h
     exact ⟨a, b, by omega, by omega, by omega, by omega, c, d⟩
 · contradiction
theorem keepO_ok {k r c w : Int} {ps : List PairB} {kd keep : Int} {l : List Int} (h : keepO k r c w ps kd keep = some l) : (l.length : Int) = k + r ∧ ∀ v ∈ l, 1 ≤ v ∧ v ≤ 1073741824 := by
 unfold keepO at h
 split at h
 · exact told_ok h
 · cases h
theorem begV_wr (k r c w num kd keep : Int) (v : AV) (ps : List PairB) (m : Mem) (hb : m.at_ 0 = some ⟨begV k r c w v ps num kd keep, 195, .var, true⟩) (hn : 0 < m.next) : WrA m m 0 k r c w v num (vecA (keepO k r c w ps kd keep)) [] :=
 ⟨⟨nilS, hb, own_nil, newV_nil m⟩, hn, Nat.le_refl _, rfl, fun j x h _ _ => h⟩
def finL (k r c w : Int) (ps : List PairB) (num : Int) : List PutC := mendN k r c w ps num 2 (runI k r c w ps) (winI k r c w ps) (k + r).toNat
theorem list_eq_at {α : Type} {A B : List α} (hl : A.length = B.length) (h : ∀ j : Nat, j < A.length → A[j]? = B[j]?) : A = B := by
 refine List.ext_getElem? fun j => ?_
 by_cases hj : j < A.length
 · exact h j hj
 · rw [List.getElem?_eq_none (by omega), List.getElem?_eq_none (by omega)]
theorem slices_EqualFunc (va vb : AV) (A B : List (List UInt8)) (ca cb : List AV) (ha : RowsV va A ca) (hb : RowsV vb B cb) (hA : A.length ≤ 1000) (hB : B.length ≤ 1000) : FSpec Tryz.prog 180 [va, vb, .clo 169 []] ⟨boolV (decide (A = B)), []⟩ := by
 have hpa := ha.rd.plain
 have hpb := hb.rd.plain
 generalize hres : decide (A = B) = T
 have hbad : ∀ j : Nat, A[j]? ≠ B[j]? → T = false := fun j h => by
   rw [← hres]
   exact decide_eq_false fun e => h (by rw [e])
 replace hbad := Hid.mk hbad
 by_cases hl : A.length = B.length
 · have hgood : (∀ j : Nat, j < A.length → A[j]? = B[j]?) → T = true := fun h => by
     rw [← hres]
     exact decide_eq_true (list_eq_at hl h)
   replace hgood := Hid.mk hgood
   refine fspec_of_body follows Tryz.func180 (by unfold Tryz.f180; rfl) (by unfold Tryz.f180; simp) onceA (by unfold Tryz.f180; simp) (by kernel_rfl) ?_; unfold Tryz.f180
   simp only [↓pre, simprocAttr, parV, sx, tys180, onceA, postU, postA, ha.rd.len', hb.rd.len', hl, sr]
   rw [codeW_loop]
   refine loop_intro (fun q e m => ∃ i, q + i = A.length ∧ e 1 = vb ∧ e 2 = .clo 169 [] ∧ e 15 = va ∧ e 16 = intV (A.length : Nat) ∧ e 17 = intV (i : Nat) ∧ Hid (∀ j : Nat, j < i → A[j]? = B[j]?)) A.length ⟨0, by omega, rfl, rfl, rfl, by rw [hl]; rfl, rfl, ⟨fun j h => by omega⟩⟩ ?_
   rintro q e m ⟨i, hq, e1, e2, e15, e16, e17, hJ⟩
   replace hq := Hid.mk hq
   by_cases hlt : i < A.length
   · have hlt' : ((i : Nat) : Int) < ((A.length : Nat) : Int) := by omega
     have hltB : i < B.length := by omega
     have wi := wrap_succ (n := i) (by omega)
     obtain ⟨x, hx⟩ : ∃ x, A[i]? = some x := ⟨_, List.getElem?_eq_getElem hlt⟩
     obtain ⟨y, hy⟩ : ∃ y, B[i]? = some y := ⟨_, List.getElem?_eq_getElem hltB⟩
     obtain ⟨a1, x1, g1, g2⟩ := ha.at_ i x hx
     obtain ⟨a2, x2, g3, g4⟩ := hb.at_ i y hy
     have heq := bytes_Equal a1 a2 x y x1 x2 g2 g4
     have pa := g2.plain
     have pb := g4.plain
     by_cases hxy : x = y
     · rw [decide_eq_true hxy] at heq
       have hJ2 : ∀ j : Nat, j < i + 1 → A[j]? = B[j]? := fun j hj => by
         by_cases e : j = i
         · rw [e, hx, hy, hxy]
         · exact hJ.out j (by omega)
       replace hJ2 := Hid.mk hJ2
       replace hx := Hid.mk hx
       replace hy := Hid.mk hy
       replace hxy := Hid.mk hxy
       simp only [↓pre, simprocAttr, parV, sx, tys180, onceA, postU, postA, e1, e2, e15, e16, e17, hlt', ha.rd.addr', hb.rd.addr', hlt, hltB, g1, g3, sr]
       refine call_plain (heq) (by simp only [parV, plQ, *]) ?_; simp only [↓pre, simprocAttr, parV, sx, tys180, onceA, postU, postA, e1, e2, e15, e16, e17, wi, sr]
       exact ⟨q - 1, by have := hq.out; omega, i + 1, by have := hq.out; omega, rfl, hJ2⟩
     · rw [decide_eq_false hxy] at heq
       have hT := hbad.out i (by rw [hx, hy]; intro e; injection e with e; exact hxy e)
       replace hx := Hid.mk hx
       replace hy := Hid.mk hy
       replace hxy := Hid.mk hxy
       simp only [↓pre, simprocAttr, parV, sx, tys180, onceA, postU, postA, e1, e2, e15, e16, e17, hlt', ha.rd.addr', hb.rd.addr', hlt, hltB, g1, g3, sr]
       refine call_plain (heq) (by simp only [parV, plQ, *]) ?_; simp only [↓pre, simprocAttr, parV, sx, tys180, onceA, postU, postA, e1, e2, e15, e16, e17, hT, sr]
   · have hlt' : ¬ ((i : Nat) : Int) < ((A.length : Nat) : Int) := by omega
     have hT := hgood.out fun j hj => hJ.out j (by have := hq.out; omega)
     simp only [↓pre, simprocAttr, parV, sx, tys180, onceA, postU, postA, e1, e2, e15, e16, e17, hlt', hT, sr]
 · have hT : T = false := by rw [← hres]; exact decide_eq_false fun e => hl (by rw [e])
   have hl2 : ¬ ((A.length : Nat) : Int) = ((B.length : Nat) : Int) := by omega
   refine fspec_of_body follows Tryz.func180 (by unfold Tryz.f180; rfl) (by unfold Tryz.f180; simp) onceA (by unfold Tryz.f180; simp) (by kernel_rfl) ?_; unfold Tryz.f180
   simp only [↓pre, simprocAttr, parV, sx, tys180, onceA, postU, postA, ha.rd.len', hb.rd.len', hl2, hT, sr]
def parT (k r L : Nat) (C : List (List UInt8)) : List (List UInt8) := (List.range' k r).map fun i => tab L (celU k (celM C) i)
theorem cellsA_rows (k r L : Nat) (C : List (List UInt8)) (v : AV) (hv : RdSl v r (cellsA L (celU k (celM C)) k r)) : RowsV v (parT k r L C) (cellsA L (celU k (celM C)) k r) := by
 have hlen : (parT k r L C).length = r := by simp [parT]
 refine ⟨by rw [hlen]; exact hv, fun i b hb => ?_⟩
 have hi := (List.getElem?_eq_some_iff.1 hb).1
 rw [hlen] at hi
 refine ⟨_, [], cellsA_at hi, ?_⟩
 unfold parT at hb
 rw [List.getElem?_map, List.getElem?_range' (by omega)] at hb
 simp only [Option.map_some, Option.some.injEq, Nat.one_mul] at hb
 subst hb
 rw [tab_len, List.append_nil]
 exact ⟨.inr (.inr ⟨L, true, rfl, Nat.le_refl _⟩)⟩
theorem thereN_all {C : List (List UInt8)} {L n : Nat} (h : ∀ i, i < n → (C.getD i []).length = L) (hL : 1 ≤ L) : thereN C n = List.range n := by
 unfold thereN
 rw [List.filter_eq_self]
 intro i hi
 rw [List.mem_range] at hi
 rw [h i hi]
 simp
 omega
theorem codec_Verify (v : AV) (k r L : Nat) (C : List (List UInt8)) (cells : List AV) (hv : RowsV v C cells) (hCl : C.length = k + r) (hC : ∀ b ∈ C, b.length = L) (hk : 1 ≤ k) (hk2 : k ≤ 12) (hr : r ≤ 4) (hL : 1 ≤ L) (hL2 : L ≤ 65536) : FSpec Tryz.prog 96 [intV (k : Nat), intV (r : Nat), v] ⟨.tup [boolV (decide (parT k r L C = C.drop k)), intV 0], []⟩ := by
 refine fspec_fzT ?_
 have hp := hv.rd.plain
 have hm := codec_made Mem.empty k r hk hk2 hr
 have hgl : ∀ i, i < k + r → (C.getD i []).length = L := fun i hi => by
   obtain ⟨b, hb⟩ : ∃ b, C[i]? = some b := ⟨_, List.getElem?_eq_getElem (by omega)⟩
   rw [getD_at hb]
   exact hC b (List.mem_of_getElem? hb)
 have hthere := codec_there v C cells L hv (fun b hb => .inr (hC b hb)) hL2 (by omega)
 rw [hCl, thereN_all hgl hL, List.length_range] at hthere
 have hrd := treeR_rd (k + r) (natsA (List.range (k + r)))
 obtain ⟨v1, s1, r1⟩ := hv.rd.slice (P := Tryz.prog) (t := 45) (sz := 1) (lo := none) (hi := some k) (by kernel_rfl) (by simp) (by simp; omega)
 obtain ⟨v2, s2, r2⟩ := hv.rd.slice (P := Tryz.prog) (t := 45) (sz := 1) (lo := some k) (hi := none) (by kernel_rfl) (by simp; omega) (by simp)
 simp only [Option.getD_some, Option.getD_none, Nat.sub_zero, Nat.zero_mul, List.drop_zero, Nat.mul_one] at r1 r2
 have hslok := fun m => hv.rd.slOk (P := Tryz.prog) (m := m) (t := 45)
 have w1 : IntKind.i64.wrap (((k : Nat) : Int) + ((r : Nat) : Int)) = ((k + r : Nat) : Int) := by rw [← Int.natCast_add]; exact wrap_nat (by omega)
 have k1 : ¬ ((k + r : Nat) : Int) < ((k + r : Nat) : Int) := by omega
 have hat : RowsAt k L (celM C) cells := fun i hi => by
   obtain ⟨b, hb⟩ : ∃ b, C[i]? = some b := ⟨_, List.getElem?_eq_getElem (by omega)⟩
   obtain ⟨a, x, g1, g2⟩ := hv.at_ i b hb
   have hbl := hC b (List.mem_of_getElem? hb)
   refine ⟨a, x, g1, ?_⟩
   have htab : tabA L (celM C i) = b.map byteV := by
     unfold tabA
     rw [tab_celM (hgl i (by omega)), getD_at hb]
   rw [htab, ← hbl]
   exact g2
 have hdrop : RowsV v2 (C.drop k) (cells.drop k) := by
   refine ⟨?_, fun i b hb => ?_⟩
   · rw [List.length_drop]
     exact r2
   · rw [List.getElem?_drop] at hb
     obtain ⟨a, x, g1, g2⟩ := hv.at_ _ b hb
     exact ⟨a, x, by rw [List.getElem?_drop]; exact g1, g2⟩
 have hpl : (parT k r L C).length = r := by simp [parT]
 replace hgl := Hid.mk hgl
 replace hC := Hid.mk hC
 have pl1 := r1.plain
 have pl2 := r2.plain
 refine ospec_of_body follows Tryz.func96 (by unfold Tryz.f96; rfl) (by unfold Tryz.f96; simp) onceA (by unfold Tryz.f96; simp) (by kernel_rfl) ?_; unfold Tryz.f96
 simp only [↓pre, simprocAttr, parV, sx, tys96, onceA, postU, postA, postV, postFz, sr]
 refine call_open hm ?_
 rintro res m1 ⟨g, mm, rfl, rfl, hCode⟩
 simp only [↓pre, simprocAttr, parV, sx, tys96, onceA, postU, postA, postV, postFz, map_eql, w1, sr]
 refine call_plain (hthere) (by simp only [parV, plQ, *]) ?_; simp only [↓pre, simprocAttr, parV, sx, tys96, onceA, postU, postA, postV, postFz, hrd.len', k1, w1, s1, s2, hslok, optNat, Option.map_none, Option.map_some, sr]
 generalize Mem.setM Mem.empty mm = m1 at *
 have hce := codec_cells m1 g k r k r L v1 (celM C) cells hCode (hasF_rd r1) (OldV.rd r1) hat hk hk2 hr (Nat.le_refl _) hL2
 simp only [intV] at hce
 refine call_open hce ?_
 rintro res m2 ⟨lv, rfl, ho, hkp, hnw⟩
 have hcp : plains (cellsA L (celU k (celM C)) k r) = true := plains_all _ fun c hc => by
   unfold cellsA at hc
   obtain ⟨j, _, rfl⟩ := List.mem_map.1 hc
   rfl
 obtain ⟨av, hlend, hav⟩ := (hasF_own ho (.inr ⟨rfl, hcp⟩)).lend 2
 have heq := slices_EqualFunc av v2 (parT k r L C) (C.drop k) _ _ (cellsA_rows k r L C av hav) hdrop (by omega) (by rw [List.length_drop]; omega)
 have hlends : lends 3 m2 [lv, v2, .clo 169 []] = some [av, v2, .clo 169 []] := by
   unfold lends
   rw [hlend]
   unfold lends
   rw [(plain_lend 3 v2 pl2).1]
   have : lends 3 m2 [.clo 169 []] = some [.clo 169 []] := by simp [lends, lend]
   rw [this]
   rfl
 simp only [↓pre, simprocAttr, parV, sx, tys96, onceA, postU, postA, postV, postFz, s2, hslok, optNat, Option.map_none, Option.map_some, sr]
 refine call_lent heq hlends rfl rfl ?_
 simp only [↓pre, simprocAttr, parV, sx, tys96, onceA, postU, postA, postV, postFz, sr]
 exact ⟨1, by rw [fzT_tup, fzTs_cons, fzT_val, Option.bind_some, fzTs_cons, fzT_val, fzTs_nil]; rfl⟩
theorem commit_Point (k r c w : Int) : FSpec Tryz.prog 41 [parV k r c w] ⟨.tup [intV (if mayB k r c w then k else 0), intV (if mayB k r c w then 0 else 2)], []⟩ := by
 have h1 := layout_check k r c w
 cases hm : mayB k r c w
 · rw [hm] at h1
   simp only [if_neg (show ¬ (false = true) by decide)] at h1 ⊢
   refine fspec_of_body follows Tryz.func41 (by unfold Tryz.f41; rfl) (by unfold Tryz.f41; simp) onceA (by unfold Tryz.f41; simp) (by kernel_rfl) ?_; unfold Tryz.f41
   simp only [↓pre, simprocAttr, parV, sx, tys41, onceA, postU, sr]
   refine call_plain (h1) (by rfl) ?_; simp only [↓pre, simprocAttr, parV, sx, tys41, onceA, postU, sr]
 · rw [hm] at h1
   simp only [if_true] at h1 ⊢
   refine fspec_of_body follows Tryz.func41 (by unfold Tryz.f41; rfl) (by unfold Tryz.f41; simp) onceA (by unfold Tryz.f41; simp) (by kernel_rfl) ?_; unfold Tryz.f41
   simp only [↓pre, simprocAttr, parV, sx, tys41, onceA, postU, sr]
   refine call_plain (h1) (by rfl) ?_; simp only [↓pre, simprocAttr, parV, sx, tys41, onceA, postU, sr]
theorem law16_awake : FSpec Tryz.prog 15 [] ⟨boolV true, []⟩ := by
 have h1 := commit_Point 2 1 16 8
 rw [show mayB 2 1 16 8 = true by decide] at h1
 simp only [if_true] at h1
 refine fspec_of_body follows Tryz.func15 (by unfold Tryz.f15; rfl) (by unfold Tryz.f15; simp) onceA (by unfold Tryz.f15; simp) (by kernel_rfl) ?_; unfold Tryz.f15
 simp only [↓pre, simprocAttr, parV, sx, tys15, onceA, postU, sr]
 refine call_plain (h1) (by rfl) ?_; simp only [↓pre, simprocAttr, parV, sx, tys15, onceA, postU, sr]
theorem ref_eq (a b : Int) : binE Tryz.prog .neq 67 (.tmp 38) (.tmp 43) (.agg [.val (.int .i64 a), .val (.int .i64 b)]) (.agg [.val (.int .i64 a), .val (.int .i64 b)]) = some (.val (.bool false)) := by
 have h : eqF Tryz.prog #[.int .i64 a, .int .i64 b] #[.int .i64 a, .int .i64 b] (fieldsP Tryz.prog 67) = if a = a then (if b = b then some true else some false) else some false := by kernel_rfl
 rw [if_pos rfl, if_pos rfl] at h
 exact (bin_struct (a := [.val (.int .i64 a), .val (.int .i64 b)]) (b := [.val (.int .i64 a), .val (.int .i64 b)]) (u := [.int .i64 a, .int .i64 b]) (v := [.int .i64 a, .int .i64 b]) rfl rfl (by kernel_rfl) (by kernel_rfl) (by kernel_rfl) h).2
theorem law16_same (a b : Int) (l : List RefI) (va vb : AV) (x y : List AV) (hva : RdSl va l.length (refsA l ++ x)) (hvb : RdSl vb l.length (refsA l ++ y)) (hl : l.length ≤ 1000) : FSpec Tryz.prog 21 [.agg [intV a, intV b, va], .agg [intV a, intV b, vb]] ⟨boolV true, []⟩ := by
 have f1 := rd_fz hva
 have f2 := rd_fz hvb
 have q1 := rd_one hva
 have q2 := rd_one hvb
 refine fspec_of_body follows Tryz.func21 (by unfold Tryz.f21; rfl) (by unfold Tryz.f21; simp) onceA (by unfold Tryz.f21; simp) (by kernel_rfl) ?_; unfold Tryz.f21
 simp only [↓pre, simprocAttr, parV, sx, tys21, onceA, postU, postA, storeE, allocE, put_at, push_at, f1, f2, q1, q2, hva.len', hvb.len', sr]
 rw [codeW_loop]
 refine loop_intro (fun q e m => ∃ i, q + i = l.length ∧ e 2 = .tptr 0 [intV a, intV b, va] ∧ e 3 = .tptr 0 [intV a, intV b, vb] ∧ e 5 = intV (i : Nat)) l.length ⟨0, by omega, rfl, rfl, rfl⟩ ?_
 rintro q e m ⟨i, hq, e2, e3, e5⟩
 replace hq := Hid.mk hq
 by_cases hlt : i < l.length
 · have hlt' : ((i : Nat) : Int) < ((l.length : Nat) : Int) := by omega
   have wi := wrap_succ (n := i) (by omega)
   obtain ⟨z, hz⟩ : ∃ z, l[i]? = some z := ⟨_, List.getElem?_eq_getElem hlt⟩
   obtain ⟨g1, g2⟩ := refsA_at l x i z hz
   obtain ⟨g3, g4⟩ := refsA_at l y i z hz
   obtain ⟨t1, t2⟩ := take2 g1 g2
   obtain ⟨t3, t4⟩ := take2 g3 g4
   have hne := ref_eq z.1 z.2
   replace hz := Hid.mk hz
   simp only [intV] at t1 t3
   simp only [↓pre, simprocAttr, parV, sx, tys21, onceA, postU, postA, storeE, allocE, put_at, push_at, f1, f2, q1, q2, hva.len', hvb.len', e2, e3, e5, hlt', hva.addr', hvb.addr', hlt, t1, t2, t3, t4, hne, wi, sr]
   exact ⟨q - 1, by have := hq.out; omega, i + 1, by have := hq.out; omega, rfl⟩
 · have hlt' : ¬ ((i : Nat) : Int) < ((l.length : Nat) : Int) := by omega
   simp only [↓pre, simprocAttr, parV, sx, tys21, onceA, postU, postA, storeE, allocE, put_at, push_at, f1, f2, q1, q2, hva.len', hvb.len', e2, e3, e5, hlt', sr]
theorem loop_cut2 {P : Program} {once : Nat → Bool} {n id id2 : Nat} {b : Code} {K : Env → Mem → Prop} {Q : Ex → Env → Mem → Prop} {e : Env} {m : Mem} (R : Env → Mem → Prop) (h2 : ∀ e m, R e m → K e m) (h1 : loopW (codeW P once n b) (blockQ id (blockQ id2 (thenQ R Q))) e m) : loopW (codeW P once n b) (blockQ id (blockQ id2 (thenQ K Q))) e m :=
 codeW_mono (.loop b) _ _ e m (blockQ_mono (blockQ_mono (thenQ_mono h2 fun _ _ _ h => h))) h1
def pureS (k r c w : Int) (bs : List UInt8) (i : Nat) : Bool := !(isSlot k r c w bs && decide ((slotC k r bs).kd = 2)) || (slotC k r bs).vec.all (fun v => decide (v = (slotC k r bs).ce) && decide ((slotC k r bs).ix = (i : Nat)))
def pureP (k r c w : Int) (ps : List PairB) : Bool := (List.range ps.length).all fun i => pureS k r c w (ps.getD i ([], [])).1 i && pureS k r c w (ps.getD i ([], [])).2 i
theorem slA_not {k r c w : Int} {bs : List UInt8} (h : isSlot k r c w bs = false) : slA k r c w bs = slA0 := by unfold slA; rw [if_neg (by rw [h]; decide)]
theorem slA_is {k r c w : Int} {bs : List UInt8} (h : isSlot k r c w bs = true) : slA k r c w bs = (slotC k r bs).sl := by unfold slA; rw [if_pos h]
theorem pureS_not {k r c w : Int} {bs : List UInt8} {i : Nat} (h : ¬ (isSlot k r c w bs = true ∧ (slotC k r bs).kd = 2)) : pureS k r c w bs i = true := by
 unfold pureS
 cases h1 : isSlot k r c w bs with
 | false => rfl
 | true =>
   rw [decide_eq_false (fun h2 => h ⟨h1, h2⟩)]
   rfl
theorem pureS_all {k r c w : Int} {bs : List UInt8} {i : Nat} (h : ∀ v ∈ (slotC k r bs).vec, v = (slotC k r bs).ce ∧ (slotC k r bs).ix = (i : Nat)) : pureS k r c w bs i = true := by
 unfold pureS
 rw [Bool.or_eq_true]
 right
 rw [List.all_eq_true]
 intro v hv
 obtain ⟨h1, h2⟩ := h v hv
 rw [decide_eq_true h1, decide_eq_true h2]
 rfl
theorem pureS_bad {k r c w : Int} {bs : List UInt8} {i : Nat} {v : Int} (h1 : isSlot k r c w bs = true) (h2 : (slotC k r bs).kd = 2) (hv : v ∈ (slotC k r bs).vec) (h : ¬ (v = (slotC k r bs).ce ∧ (slotC k r bs).ix = (i : Nat))) : pureS k r c w bs i = false := by
 cases hp : pureS k r c w bs i with
 | false => rfl
 | true =>
   unfold pureS at hp
   rw [h1, decide_eq_true h2] at hp
   simp only [Bool.and_self, Bool.not_true, Bool.false_or, List.all_eq_true, Bool.and_eq_true, decide_eq_true_eq] at hp
   exact absurd (hp v hv) h
theorem pureP_bad {k r c w : Int} {ps : List PairB} {i : Nat} {p : PairB} (hp : ps[i]? = some p) (h : pureS k r c w p.1 i = false ∨ pureS k r c w p.2 i = false) : pureP k r c w ps = false := by
 have hi := (List.getElem?_eq_some_iff.1 hp).1
 cases hq : pureP k r c w ps with
 | false => rfl
 | true =>
   unfold pureP at hq
   rw [List.all_eq_true] at hq
   have := hq i (List.mem_range.2 hi)
   rw [show ps.getD i ([], []) = p by rw [List.getD_eq_getElem?_getD, hp]; rfl, Bool.and_eq_true] at this
   rcases h with h | h
   · rw [h] at this; exact absurd this.1 (by decide)
   · rw [h] at this; exact absurd this.2 (by decide)
theorem pureP_good {k r c w : Int} {ps : List PairB} (h : ∀ i p, ps[i]? = some p → pureS k r c w p.1 i = true ∧ pureS k r c w p.2 i = true) : pureP k r c w ps = true := by
 unfold pureP
 rw [List.all_eq_true]
 intro i hi
 have hi := List.mem_range.1 hi
 have hp : ps[i]? = some ps[i] := List.getElem?_eq_getElem hi
 obtain ⟨h1, h2⟩ := h i _ hp
 rw [show ps.getD i ([], []) = ps[i] by rw [List.getD_eq_getElem?_getD, hp]; rfl, h1, h2]
 rfl
theorem pureP_of {k r c w : Int} {ps : List PairB} (h : pureP k r c w ps = true) {i : Nat} {p : PairB} (hp : ps[i]? = some p) : pureS k r c w p.1 i = true ∧ pureS k r c w p.2 i = true := by
 constructor
 · cases h1 : pureS k r c w p.1 i with
   | true => rfl
   | false => rw [pureP_bad hp (.inl h1)] at h; cases h
 · cases h1 : pureS k r c w p.2 i with
   | true => rfl
   | false => rw [pureP_bad hp (.inr h1)] at h; cases h
def oncePr : Nat → Bool := fun d => d != 7 && d != 51 && d != 56 && d != 60
theorem law16_pure (k r c w : Int) (v : AV) (ps : List PairB) (cells : List AV) (hv : RowV v ps cells) (hm : mayB k r c w = true) (hr : rowB k r c ps = true) : FSpec Tryz.prog 18 [parV k r c w, v] ⟨boolV (pureP k r c w ps), []⟩ := by
 refine fspec_fzT ?_
 have hp := hv.rd.plain
 have hmn := may_n hm
 obtain ⟨hl, hpr⟩ := row_at hr
 generalize hres : pureP k r c w ps = T
 have hbad : ∀ i p, ps[i]? = some p → (pureS k r c w p.1 i = false ∨ pureS k r c w p.2 i = false) → T = false := fun i p h1 h2 => by rw [← hres]; exact pureP_bad h1 h2
 have hgood : (∀ i p, i < ps.length → ps[i]? = some p → pureS k r c w p.1 i = true ∧ pureS k r c w p.2 i = true) → T = true := fun h => by rw [← hres]; exact pureP_good fun i p h1 => h i p (List.getElem?_eq_some_iff.1 h1).1 h1
 replace hbad := Hid.mk hbad
 replace hgood := Hid.mk hgood
 replace hmn := Hid.mk hmn
 replace hpr := Hid.mk hpr
 have hl16 : ps.length ≤ 16 := by have := hmn.out; omega
 replace hl := Hid.mk hl
 clear hres
 refine ospec_of_body follows Tryz.func18 (by unfold Tryz.f18; rfl) (by unfold Tryz.f18; simp) oncePr (by unfold Tryz.f18; simp) (by kernel_rfl) ?_; unfold Tryz.f18
 simp only [↓pre, simprocAttr, parV, sx, tys18, oncePr, bne, postU, postA, Int.natCast_zero, Int.cast_ofNat_Int, Int.natCast_one, ww0, ww1, ww2, storeE, allocE, put_at, push_at, sr]
 rw [codeW_loop]
 refine loop_intro (fun q e m => ∃ i, q + i = ps.length ∧ e 1 = v ∧ e 2 = .tptr 0 [intV k, intV r, intV c, intV w] ∧ e 5 = intV (i : Nat) ∧ Hid (∀ j p, j < i → ps[j]? = some p → pureS k r c w p.1 j = true ∧ pureS k r c w p.2 j = true)) ps.length ⟨0, by omega, rfl, rfl, rfl, ⟨fun j p h => by omega⟩⟩ ?_
 rintro q e m ⟨i, hq, e1, e2, e5, hJ⟩
 replace hq := Hid.mk hq
 by_cases hlt : i < ps.length
 · have hlt' : ((i : Nat) : Int) < ((ps.length : Nat) : Int) := by omega
   have wi := wrap_succ (n := i) (by omega)
   obtain ⟨p, hpi⟩ : ∃ p, ps[i]? = some p := ⟨_, List.getElem?_eq_getElem hlt⟩
   obtain ⟨a, b, xa, xb, ha, hb, hra, hrb⟩ := hv.at_ i p hpi
   have hpp := hpr.out p (List.mem_of_getElem? hpi)
   unfold pairB at hpp
   rw [Bool.and_eq_true] at hpp
   have hP0 := slot_Parse_ok k r c w a p.1 xa hra hm hpp.1
   have hP1 := slot_Parse_ok k r c w b p.2 xb hrb hm hpp.2
   have fa := rd_fz hra
   have fb := rd_fz hrb
   have oa := rd_one hra
   have ob := rd_one hrb
   have pa := hra.plain
   have pb := hrb.plain
   have hbad2 : (pureS k r c w p.1 i = false ∨ pureS k r c w p.2 i = false) → T = false := hbad.out i p hpi
   replace hbad2 := Hid.mk hbad2
   replace hpi := Hid.mk hpi
   replace hpp := Hid.mk hpp
   simp only [↓pre, simprocAttr, parV, sx, tys18, oncePr, bne, postU, postA, Int.natCast_zero, Int.cast_ofNat_Int, Int.natCast_one, ww0, ww1, ww2, storeE, allocE, put_at, push_at, e1, e2, e5, hv.rd.len', hlt', sr]
   rw [codeW_loop]
   refine loop_intro (fun n e m => ∃ kk : Nat, n + kk = 2 ∧ e 1 = v ∧ e 2 = .tptr 0 [intV k, intV r, intV c, intV w] ∧ e 5 = intV (i : Nat) ∧ e 6 = intV (kk : Nat) ∧ Hid ((1 ≤ kk → pureS k r c w p.1 i = true) ∧ (2 ≤ kk → pureS k r c w p.2 i = true))) 2 ⟨0, by omega, e1, e2, e5, rfl, ⟨fun h => by omega, fun h => by omega⟩⟩ ?_
   rintro n e m ⟨kk, hn, e1, e2, e5, e6, hK⟩
   obtain rfl | rfl | rfl : kk = 0 ∨ kk = 1 ∨ kk = 2 := by omega
   · replace hn := Hid.mk hn
     have hR := slA_rd k r c w p.1
     have hpn := pureS_not (k := k) (r := r) (c := c) (w := w) (bs := p.1) (i := i)
     have hpa := pureS_all (k := k) (r := r) (c := c) (w := w) (bs := p.1) (i := i)
     have hpb := fun v => pureS_bad (k := k) (r := r) (c := c) (w := w) (bs := p.1) (i := i) (v := v)
     have hsn := slA_not (k := k) (r := r) (c := c) (w := w) (bs := p.1)
     have hsi := slA_is (k := k) (r := r) (c := c) (w := w) (bs := p.1)
     have hsv : isSlot k r c w p.1 = true → (slotC k r p.1).vec.length ≤ 16 := fun h => by have := (vec_ok (slot_ok h).vec).1; have := hmn.out; omega
     have hset : pureS k r c w p.1 i = true → (1 ≤ 0 + 1 → pureS k r c w p.1 i = true) ∧ (2 ≤ 0 + 1 → pureS k r c w p.2 i = true) := fun h => ⟨fun _ => h, fun h => by omega⟩
     have hPP := hP0
     have hbb : pureS k r c w p.1 i = false → T = false := fun h => hbad2.out (.inl h)
     generalize pureS k r c w p.1 i = PS at *
     generalize slA k r c w p.1 = s at *
     generalize isSlot k r c w p.1 = b0 at *
     generalize slotC k r p.1 = sc at *
     obtain ⟨⟨n1, y1, g1⟩, ⟨n2, y2, g2⟩⟩ := hR
     have f1 := rd_fz g1
     have f2 := rd_fz g2
     have q1 := rd_one g1
     have q2 := rd_one g2
     have t1 := rd_shift g1
     have t2 := rd_shift g2
     simp only [SlA.cells] at hPP
     replace hset := Hid.mk hset
     replace hpn := Hid.mk hpn
     replace hpa := Hid.mk hpa
     replace hpb := Hid.mk hpb
     replace hsn := Hid.mk hsn
     replace hsi := Hid.mk hsi
     replace hsv := Hid.mk hsv
     replace hbb := Hid.mk hbb
     simp only [↓pre, simprocAttr, parV, sx, tys18, oncePr, bne, postU, postA, Int.natCast_zero, Int.cast_ofNat_Int, Int.natCast_one, ww0, ww1, ww2, storeE, allocE, put_at, push_at, e1, e2, e5, e6, hv.rd.addr', hlt, ha, fa, oa, sr]
     (refine call_pure (hPP) (by simp only [parV, plQ, *]) (by intro k; simp only [sq, sr, *]) ?_); simp only [↓pre, simprocAttr, parV, sx, tys18, oncePr, bne, postU, postA, Int.natCast_zero, Int.cast_ofNat_Int, Int.natCast_one, ww0, ww1, ww2, storeE, allocE, put_at, push_at, e1, e2, e5, e6, f1, f2, q1, q2, t1, t2, sr]
     refine contW_fixed (by kernel_rfl) ?_
     simp only [↓pre, simprocAttr, parV, sx, tys18, oncePr, bne, postU, postA, Int.natCast_zero, Int.cast_ofNat_Int, Int.natCast_one, ww0, ww1, ww2, storeE, allocE, put_at, push_at, e1, e2, e5, e6, f1, f2, q1, q2, t1, t2, sr]
     refine contW_fixed (by kernel_rfl) ?_
     simp only [↓pre, simprocAttr, parV, sx, tys18, oncePr, bne, postU, postA, Int.natCast_zero, Int.cast_ofNat_Int, Int.natCast_one, ww0, ww1, ww2, storeE, allocE, put_at, push_at, e1, e2, e5, e6, f1, f2, q1, q2, t1, t2, sr]
     generalize hM : Mem.put (Mem.push m _) _ _ = M
     have hMb : M.at_ m.next = some ⟨[.val (.int .u8 s.kd), .val (.int .i64 s.ix), .val (.int .i64 s.ce), .val (.int .i64 s.st), s.vv, s.dv], 127, .var, true⟩ := by rw [← hM]; simp [put_at, push_at]
     clear hM
     generalize m.next = B at *
     rw [codeW_loop]
     refine loop_cut2 (fun e' m' => e' 1 = v ∧ e' 2 = .tptr 0 [intV k, intV r, intV c, intV w] ∧ e' 5 = intV (i : Nat) ∧ e' 6 = intV (0 : Nat) ∧ Hid (PS = true)) (fun e' m' hR => ?_) ?_
     · obtain ⟨e1, e2, e5, e6, hR⟩ := hR
       have hx := hset.out hR.out
       replace hx := Hid.mk hx
       have wk := wrap_succ (n := 0) (by omega)
       simp only [↓pre, simprocAttr, parV, sx, tys18, oncePr, bne, postU, postA, Int.natCast_zero, Int.cast_ofNat_Int, Int.natCast_one, ww0, ww1, ww2, storeE, allocE, put_at, push_at, e1, e2, e5, e6, wk, sr]
       exact ⟨n - 1, by have := hn.out; omega, 0 + 1, by have := hn.out; omega, rfl, hx⟩
     · by_cases hyes : b0 = true ∧ sc.kd = 2
       · obtain ⟨rfl, hkd⟩ := hyes
         have hs := hsi.out rfl
         have hsv2 := hsv.out rfl
         have hrl : RdSl s.vv sc.vec.length (intsA sc.vec) := by rw [hs]; exact ⟨.inr (.inr ⟨_, false, rfl, Nat.le_refl _⟩)⟩
         have hk2 : s.kd = 2 := by rw [hs]; exact hkd
         have hce2 : s.ce = sc.ce := by rw [hs]; rfl
         have hix2 : s.ix = sc.ix := by rw [hs]; rfl
         rw [hce2, hix2, hk2] at hMb
         clear hce2 hix2 hk2
         replace hs := Hid.mk hs
         refine loop_intro (fun q' e' m' => ∃ j, q' + j = sc.vec.length ∧ e' 1 = v ∧ e' 2 = .tptr 0 [intV k, intV r, intV c, intV w] ∧ e' 5 = intV (i : Nat) ∧ e' 6 = intV (0 : Nat) ∧ e' 7 = .ptr B 0 ∧ e' 8 = boolV true ∧ e' 10 = intV (j : Nat) ∧ m'.at_ B = some ⟨[.val (.int .u8 2), .val (.int .i64 sc.ix), .val (.int .i64 sc.ce), .val (.int .i64 s.st), s.vv, s.dv], 127, .var, true⟩ ∧ Hid (∀ v ∈ sc.vec.take j, v = sc.ce ∧ sc.ix = (i : Nat))) sc.vec.length ⟨0, by omega, e1, e2, e5, e6, rfl, rfl, rfl, hMb, ⟨fun v h => by simp at h⟩⟩ ?_
         rintro q' e' m' ⟨j, hq', e1, e2, e5, e6, e7, e8, e10, hb', hJ'⟩
         replace hq' := Hid.mk hq'
         by_cases hj : j < sc.vec.length
         · have hj' : ((j : Nat) : Int) < ((sc.vec.length : Nat) : Int) := by omega
           have wj := wrap_succ (n := j) (by omega)
           obtain ⟨z, hz⟩ : ∃ z, sc.vec[j]? = some z := ⟨_, List.getElem?_eq_getElem hj⟩
           have hza := int_at (x := []) hz
           rw [List.append_nil] at hza
           have hmem := List.mem_of_getElem? hz
           have htk : sc.vec.take (j + 1) = sc.vec.take j ++ [z] := by rw [List.take_add_one, hz]; rfl
           replace hz := Hid.mk hz
           replace htk := Hid.mk htk
           by_cases c1 : z = sc.ce
           · by_cases c2 : sc.ix = (i : Nat)
             · simp only [↓pre, simprocAttr, parV, sx, tys18, oncePr, bne, postU, postA, Int.natCast_zero, Int.cast_ofNat_Int, Int.natCast_one, ww0, ww1, ww2, storeE, allocE, put_at, push_at, e1, e2, e5, e6, e7, e8, e10, hb', hrl.len', hj', hrl.addr', hj, hza, c1, c2, wj, sr]
               refine ⟨q' - 1, by have := hq'.out; omega, j + 1, by have := hq'.out; omega, rfl, ⟨fun v hv => ?_⟩⟩
               rw [htk.out, List.mem_append] at hv
               rcases hv with hv | hv
               · exact (hJ'.out v hv).1
               · rw [List.mem_singleton] at hv; rw [hv]; exact c1
             · have hT := hbb.out (hpb.out z rfl hkd hmem fun h => c2 h.2)
               simp only [↓pre, simprocAttr, parV, sx, tys18, oncePr, bne, postU, postA, Int.natCast_zero, Int.cast_ofNat_Int, Int.natCast_one, ww0, ww1, ww2, storeE, allocE, put_at, push_at, e1, e2, e5, e6, e7, e8, e10, hb', hrl.len', hj', hrl.addr', hj, hza, c1, c2, sr]
               exact ⟨0, by rw [hT, fzT_val]⟩
           · have hT := hbb.out (hpb.out z rfl hkd hmem fun h => c1 h.1)
             simp only [↓pre, simprocAttr, parV, sx, tys18, oncePr, bne, postU, postA, Int.natCast_zero, Int.cast_ofNat_Int, Int.natCast_one, ww0, ww1, ww2, storeE, allocE, put_at, push_at, e1, e2, e5, e6, e7, e8, e10, hb', hrl.len', hj', hrl.addr', hj, hza, c1, sr]
             exact ⟨0, by rw [hT, fzT_val]⟩
         · have hj' : ¬ ((j : Nat) : Int) < ((sc.vec.length : Nat) : Int) := by omega
           have hje : j = sc.vec.length := by have := hq'.out; omega
           subst hje
           have hall := hJ'.out
           rw [List.take_length] at hall
           have hps := hpa.out hall
           replace hall := Hid.mk hall
           replace hps := Hid.mk hps
           simp only [↓pre, simprocAttr, parV, sx, tys18, oncePr, bne, postU, postA, Int.natCast_zero, Int.cast_ofNat_Int, Int.natCast_one, ww0, ww1, ww2, storeE, allocE, put_at, push_at, e1, e2, e5, e6, e7, e8, e10, hb', hrl.len', hj', sr]
           exact hps
       · have hps := hpn.out hyes
         have hno : b0 = true → ¬ s.kd = 2 := fun h h2 => hyes ⟨h, by rw [← h2, hsi.out h]; rfl⟩
         replace hps := Hid.mk hps
         refine loop_intro (fun q' e' m' => e' 1 = v ∧ e' 2 = .tptr 0 [intV k, intV r, intV c, intV w] ∧ e' 5 = intV (i : Nat) ∧ e' 6 = intV (0 : Nat) ∧ e' 7 = .ptr B 0 ∧ e' 8 = boolV b0 ∧ m'.at_ B = some ⟨[.val (.int .u8 s.kd), .val (.int .i64 s.ix), .val (.int .i64 s.ce), .val (.int .i64 s.st), s.vv, s.dv], 127, .var, true⟩) 0 ⟨e1, e2, e5, e6, rfl, rfl, hMb⟩ ?_
         rintro q' e' m' ⟨e1, e2, e5, e6, e7, e8, hb'⟩
         cases b0 with
         | false =>
           simp only [↓pre, simprocAttr, parV, sx, tys18, oncePr, bne, postU, postA, Int.natCast_zero, Int.cast_ofNat_Int, Int.natCast_one, ww0, ww1, ww2, storeE, allocE, put_at, push_at, e1, e2, e5, e6, e7, e8, hb', sr]
           exact hps
         | true =>
           have hno2 := hno rfl
           simp only [↓pre, simprocAttr, parV, sx, tys18, oncePr, bne, postU, postA, Int.natCast_zero, Int.cast_ofNat_Int, Int.natCast_one, ww0, ww1, ww2, storeE, allocE, put_at, push_at, e1, e2, e5, e6, e7, e8, hb', hno2, sr]
           exact hps
   · replace hn := Hid.mk hn
     have hR := slA_rd k r c w p.2
     have hpn := pureS_not (k := k) (r := r) (c := c) (w := w) (bs := p.2) (i := i)
     have hpa := pureS_all (k := k) (r := r) (c := c) (w := w) (bs := p.2) (i := i)
     have hpb := fun v => pureS_bad (k := k) (r := r) (c := c) (w := w) (bs := p.2) (i := i) (v := v)
     have hsn := slA_not (k := k) (r := r) (c := c) (w := w) (bs := p.2)
     have hsi := slA_is (k := k) (r := r) (c := c) (w := w) (bs := p.2)
     have hsv : isSlot k r c w p.2 = true → (slotC k r p.2).vec.length ≤ 16 := fun h => by have := (vec_ok (slot_ok h).vec).1; have := hmn.out; omega
     have hset : pureS k r c w p.2 i = true → (1 ≤ 1 + 1 → pureS k r c w p.1 i = true) ∧ (2 ≤ 1 + 1 → pureS k r c w p.2 i = true) := fun h => ⟨fun _ => hK.out.1 (by omega), fun _ => h⟩
     have hPP := hP1
     have hbb : pureS k r c w p.2 i = false → T = false := fun h => hbad2.out (.inr h)
     generalize pureS k r c w p.2 i = PS at *
     generalize slA k r c w p.2 = s at *
     generalize isSlot k r c w p.2 = b0 at *
     generalize slotC k r p.2 = sc at *
     obtain ⟨⟨n1, y1, g1⟩, ⟨n2, y2, g2⟩⟩ := hR
     have f1 := rd_fz g1
     have f2 := rd_fz g2
     have q1 := rd_one g1
     have q2 := rd_one g2
     have t1 := rd_shift g1
     have t2 := rd_shift g2
     simp only [SlA.cells] at hPP
     replace hset := Hid.mk hset
     replace hpn := Hid.mk hpn
     replace hpa := Hid.mk hpa
     replace hpb := Hid.mk hpb
     replace hsn := Hid.mk hsn
     replace hsi := Hid.mk hsi
     replace hsv := Hid.mk hsv
     replace hbb := Hid.mk hbb
     simp only [↓pre, simprocAttr, parV, sx, tys18, oncePr, bne, postU, postA, Int.natCast_zero, Int.cast_ofNat_Int, Int.natCast_one, ww0, ww1, ww2, storeE, allocE, put_at, push_at, e1, e2, e5, e6, hv.rd.addr', hlt, hb, fb, ob, sr]
     (refine call_pure (hPP) (by simp only [parV, plQ, *]) (by intro k; simp only [sq, sr, *]) ?_); simp only [↓pre, simprocAttr, parV, sx, tys18, oncePr, bne, postU, postA, Int.natCast_zero, Int.cast_ofNat_Int, Int.natCast_one, ww0, ww1, ww2, storeE, allocE, put_at, push_at, e1, e2, e5, e6, f1, f2, q1, q2, t1, t2, sr]
     refine contW_fixed (by kernel_rfl) ?_
     simp only [↓pre, simprocAttr, parV, sx, tys18, oncePr, bne, postU, postA, Int.natCast_zero, Int.cast_ofNat_Int, Int.natCast_one, ww0, ww1, ww2, storeE, allocE, put_at, push_at, e1, e2, e5, e6, f1, f2, q1, q2, t1, t2, sr]
     refine contW_fixed (by kernel_rfl) ?_
     simp only [↓pre, simprocAttr, parV, sx, tys18, oncePr, bne, postU, postA, Int.natCast_zero, Int.cast_ofNat_Int, Int.natCast_one, ww0, ww1, ww2, storeE, allocE, put_at, push_at, e1, e2, e5, e6, f1, f2, q1, q2, t1, t2, sr]
     generalize hM : Mem.put (Mem.push m _) _ _ = M
     have hMb : M.at_ m.next = some ⟨[.val (.int .u8 s.kd), .val (.int .i64 s.ix), .val (.int .i64 s.ce), .val (.int .i64 s.st), s.vv, s.dv], 127, .var, true⟩ := by rw [← hM]; simp [put_at, push_at]
     clear hM
     generalize m.next = B at *
     rw [codeW_loop]
     refine loop_cut2 (fun e' m' => e' 1 = v ∧ e' 2 = .tptr 0 [intV k, intV r, intV c, intV w] ∧ e' 5 = intV (i : Nat) ∧ e' 6 = intV (1 : Nat) ∧ Hid (PS = true)) (fun e' m' hR => ?_) ?_
     · obtain ⟨e1, e2, e5, e6, hR⟩ := hR
       have hx := hset.out hR.out
       replace hx := Hid.mk hx
       have wk := wrap_succ (n := 1) (by omega)
       simp only [↓pre, simprocAttr, parV, sx, tys18, oncePr, bne, postU, postA, Int.natCast_zero, Int.cast_ofNat_Int, Int.natCast_one, ww0, ww1, ww2, storeE, allocE, put_at, push_at, e1, e2, e5, e6, wk, sr]
       exact ⟨n - 1, by have := hn.out; omega, 1 + 1, by have := hn.out; omega, rfl, hx⟩
     · by_cases hyes : b0 = true ∧ sc.kd = 2
       · obtain ⟨rfl, hkd⟩ := hyes
         have hs := hsi.out rfl
         have hsv2 := hsv.out rfl
         have hrl : RdSl s.vv sc.vec.length (intsA sc.vec) := by rw [hs]; exact ⟨.inr (.inr ⟨_, false, rfl, Nat.le_refl _⟩)⟩
         have hk2 : s.kd = 2 := by rw [hs]; exact hkd
         have hce2 : s.ce = sc.ce := by rw [hs]; rfl
         have hix2 : s.ix = sc.ix := by rw [hs]; rfl
         rw [hce2, hix2, hk2] at hMb
         clear hce2 hix2 hk2
         replace hs := Hid.mk hs
         refine loop_intro (fun q' e' m' => ∃ j, q' + j = sc.vec.length ∧ e' 1 = v ∧ e' 2 = .tptr 0 [intV k, intV r, intV c, intV w] ∧ e' 5 = intV (i : Nat) ∧ e' 6 = intV (1 : Nat) ∧ e' 7 = .ptr B 0 ∧ e' 8 = boolV true ∧ e' 10 = intV (j : Nat) ∧ m'.at_ B = some ⟨[.val (.int .u8 2), .val (.int .i64 sc.ix), .val (.int .i64 sc.ce), .val (.int .i64 s.st), s.vv, s.dv], 127, .var, true⟩ ∧ Hid (∀ v ∈ sc.vec.take j, v = sc.ce ∧ sc.ix = (i : Nat))) sc.vec.length ⟨0, by omega, e1, e2, e5, e6, rfl, rfl, rfl, hMb, ⟨fun v h => by simp at h⟩⟩ ?_
         rintro q' e' m' ⟨j, hq', e1, e2, e5, e6, e7, e8, e10, hb', hJ'⟩
         replace hq' := Hid.mk hq'
         by_cases hj : j < sc.vec.length
         · have hj' : ((j : Nat) : Int) < ((sc.vec.length : Nat) : Int) := by omega
           have wj := wrap_succ (n := j) (by omega)
           obtain ⟨z, hz⟩ : ∃ z, sc.vec[j]? = some z := ⟨_, List.getElem?_eq_getElem hj⟩
           have hza := int_at (x := []) hz
           rw [List.append_nil] at hza
           have hmem := List.mem_of_getElem? hz
           have htk : sc.vec.take (j + 1) = sc.vec.take j ++ [z] := by rw [List.take_add_one, hz]; rfl
           replace hz := Hid.mk hz
           replace htk := Hid.mk htk
           by_cases c1 : z = sc.ce
           · by_cases c2 : sc.ix = (i : Nat)
             · simp only [↓pre, simprocAttr, parV, sx, tys18, oncePr, bne, postU, postA, Int.natCast_zero, Int.cast_ofNat_Int, Int.natCast_one, ww0, ww1, ww2, storeE, allocE, put_at, push_at, e1, e2, e5, e6, e7, e8, e10, hb', hrl.len', hj', hrl.addr', hj, hza, c1, c2, wj, sr]
               refine ⟨q' - 1, by have := hq'.out; omega, j + 1, by have := hq'.out; omega, rfl, ⟨fun v hv => ?_⟩⟩
               rw [htk.out, List.mem_append] at hv
               rcases hv with hv | hv
               · exact (hJ'.out v hv).1
               · rw [List.mem_singleton] at hv; rw [hv]; exact c1
             · have hT := hbb.out (hpb.out z rfl hkd hmem fun h => c2 h.2)
               simp only [↓pre, simprocAttr, parV, sx, tys18, oncePr, bne, postU, postA, Int.natCast_zero, Int.cast_ofNat_Int, Int.natCast_one, ww0, ww1, ww2, storeE, allocE, put_at, push_at, e1, e2, e5, e6, e7, e8, e10, hb', hrl.len', hj', hrl.addr', hj, hza, c1, c2, sr]
               exact ⟨0, by rw [hT, fzT_val]⟩
           · have hT := hbb.out (hpb.out z rfl hkd hmem fun h => c1 h.1)
             simp only [↓pre, simprocAttr, parV, sx, tys18, oncePr, bne, postU, postA, Int.natCast_zero, Int.cast_ofNat_Int, Int.natCast_one, ww0, ww1, ww2, storeE, allocE, put_at, push_at, e1, e2, e5, e6, e7, e8, e10, hb', hrl.len', hj', hrl.addr', hj, hza, c1, sr]
             exact ⟨0, by rw [hT, fzT_val]⟩
         · have hj' : ¬ ((j : Nat) : Int) < ((sc.vec.length : Nat) : Int) := by omega
           have hje : j = sc.vec.length := by have := hq'.out; omega
           subst hje
           have hall := hJ'.out
           rw [List.take_length] at hall
           have hps := hpa.out hall
           replace hall := Hid.mk hall
           replace hps := Hid.mk hps
           simp only [↓pre, simprocAttr, parV, sx, tys18, oncePr, bne, postU, postA, Int.natCast_zero, Int.cast_ofNat_Int, Int.natCast_one, ww0, ww1, ww2, storeE, allocE, put_at, push_at, e1, e2, e5, e6, e7, e8, e10, hb', hrl.len', hj', sr]
           exact hps
       · have hps := hpn.out hyes
         have hno : b0 = true → ¬ s.kd = 2 := fun h h2 => hyes ⟨h, by rw [← h2, hsi.out h]; rfl⟩
         replace hps := Hid.mk hps
         refine loop_intro (fun q' e' m' => e' 1 = v ∧ e' 2 = .tptr 0 [intV k, intV r, intV c, intV w] ∧ e' 5 = intV (i : Nat) ∧ e' 6 = intV (1 : Nat) ∧ e' 7 = .ptr B 0 ∧ e' 8 = boolV b0 ∧ m'.at_ B = some ⟨[.val (.int .u8 s.kd), .val (.int .i64 s.ix), .val (.int .i64 s.ce), .val (.int .i64 s.st), s.vv, s.dv], 127, .var, true⟩) 0 ⟨e1, e2, e5, e6, rfl, rfl, hMb⟩ ?_
         rintro q' e' m' ⟨e1, e2, e5, e6, e7, e8, hb'⟩
         cases b0 with
         | false =>
           simp only [↓pre, simprocAttr, parV, sx, tys18, oncePr, bne, postU, postA, Int.natCast_zero, Int.cast_ofNat_Int, Int.natCast_one, ww0, ww1, ww2, storeE, allocE, put_at, push_at, e1, e2, e5, e6, e7, e8, hb', sr]
           exact hps
         | true =>
           have hno2 := hno rfl
           simp only [↓pre, simprocAttr, parV, sx, tys18, oncePr, bne, postU, postA, Int.natCast_zero, Int.cast_ofNat_Int, Int.natCast_one, ww0, ww1, ww2, storeE, allocE, put_at, push_at, e1, e2, e5, e6, e7, e8, hb', hno2, sr]
           exact hps
   · have hK2 := hK.out
     simp only [↓pre, simprocAttr, parV, sx, tys18, oncePr, bne, postU, postA, Int.natCast_zero, Int.cast_ofNat_Int, Int.natCast_one, ww0, ww1, ww2, storeE, allocE, put_at, push_at, e1, e2, e5, e6, wi, sr]
     refine ⟨q - 1, by have := hq.out; omega, i + 1, by have := hq.out; omega, rfl, ⟨fun j p' hj hp' => ?_⟩⟩
     by_cases hji : j = i
     · subst hji
       rw [hpi.out] at hp'
       cases hp'
       exact ⟨hK2.1 (by omega), hK2.2 (by omega)⟩
     · exact hJ.out j p' (by omega) hp'
 · have hlt' : ¬ ((i : Nat) : Int) < ((ps.length : Nat) : Int) := by omega
   have hi : i = ps.length := by have := hq.out; omega
   subst hi
   have hT := hgood.out hJ.out
   simp only [↓pre, simprocAttr, parV, sx, tys18, oncePr, bne, postU, postA, Int.natCast_zero, Int.cast_ofNat_Int, Int.natCast_one, ww0, ww1, ww2, storeE, allocE, put_at, push_at, e1, e2, e5, hv.rd.len', hlt', sr]
   exact ⟨0, by rw [hT, fzT_val]⟩
def fitA (s0 s1 : SlA) (i0 i1 : Bool) (ver : Int) : Bool := !((i0 && decide (ver ≤ s0.st)) || (i1 && decide (ver ≤ s1.st))) && !(i0 && (i1 && (decide (s0.kd = 2) && (decide (s1.kd = 2) && decide (s0.ce = s1.ce)))))
def fitS (k r c w ver : Int) (p : PairB) : Bool := fitA (slA k r c w p.1) (slA k r c w p.2) (isSlot k r c w p.1) (isSlot k r c w p.2) ver
def fitP (k r c w ver : Int) (ps : List PairB) : Bool := ps.all (fitS k r c w ver)
def onceFt : Nat → Bool := fun d => d != 8 && d != 11
theorem law16_fit (k r c w ver : Int) (v : AV) (ps : List PairB) (cells : List AV) (hv : RowV v ps cells) (hm : mayB k r c w = true) (hr : rowB k r c ps = true) : FSpec Tryz.prog 19 [parV k r c w, v, intV ver] ⟨boolV (fitP k r c w ver ps), []⟩ := by
 refine fspec_fzT ?_
 have hp := hv.rd.plain
 have hmn := may_n hm
 obtain ⟨hl, hpr⟩ := row_at hr
 generalize hres : fitP k r c w ver ps = T
 have hbad : ∀ p ∈ ps, fitS k r c w ver p = false → T = false := fun p h1 h2 => by
   rw [← hres]
   cases hq : fitP k r c w ver ps with
   | false => rfl
   | true => unfold fitP at hq; rw [List.all_eq_true] at hq; rw [hq p h1] at h2; cases h2
 have hgood : (∀ i p, i < ps.length → ps[i]? = some p → fitS k r c w ver p = true) → T = true := fun h => by
   rw [← hres]
   unfold fitP
   rw [List.all_eq_true]
   intro p hp
   obtain ⟨i, hi⟩ := List.getElem?_of_mem hp
   exact h i p (List.getElem?_eq_some_iff.1 hi).1 hi
 replace hbad := Hid.mk hbad
 replace hgood := Hid.mk hgood
 replace hmn := Hid.mk hmn
 replace hpr := Hid.mk hpr
 have hl16 : ps.length ≤ 16 := by have := hmn.out; omega
 replace hl := Hid.mk hl
 clear hres
 refine ospec_of_body follows Tryz.func19 (by unfold Tryz.f19; rfl) (by unfold Tryz.f19; simp) onceFt (by unfold Tryz.f19; simp) (by kernel_rfl) ?_; unfold Tryz.f19
 simp only [↓pre, simprocAttr, parV, sx, tys19, onceFt, bne, postU, postA, Int.natCast_zero, Int.cast_ofNat_Int, Int.natCast_one, ww0, ww1, ww2, storeE, allocE, put_at, push_at, sr]
 rw [codeW_loop]
 refine loop_intro (fun q e m => ∃ i, q + i = ps.length ∧ e 1 = v ∧ e 2 = intV ver ∧ e 3 = .tptr 0 [intV k, intV r, intV c, intV w] ∧ e 7 = intV (i : Nat) ∧ Hid (∀ j p, j < i → ps[j]? = some p → fitS k r c w ver p = true)) ps.length ⟨0, by omega, rfl, rfl, rfl, rfl, ⟨fun j p h => by omega⟩⟩ ?_
 rintro q e m ⟨i, hq, e1, e2, e3, e7, hJ⟩
 replace hq := Hid.mk hq
 by_cases hlt : i < ps.length
 · have hlt' : ((i : Nat) : Int) < ((ps.length : Nat) : Int) := by omega
   have wi := wrap_succ (n := i) (by omega)
   obtain ⟨p, hpi⟩ : ∃ p, ps[i]? = some p := ⟨_, List.getElem?_eq_getElem hlt⟩
   obtain ⟨a, b, xa, xb, ha, hb, hra, hrb⟩ := hv.at_ i p hpi
   have hpp := hpr.out p (List.mem_of_getElem? hpi)
   unfold pairB at hpp
   rw [Bool.and_eq_true] at hpp
   have hP0 := slot_Parse_ok k r c w a p.1 xa hra hm hpp.1
   have hP1 := slot_Parse_ok k r c w b p.2 xb hrb hm hpp.2
   have fa := rd_fz hra
   have fb := rd_fz hrb
   have oa := rd_one hra
   have ob := rd_one hrb
   have pa := hra.plain
   have pb := hrb.plain
   have hbad2 : fitS k r c w ver p = false → T = false := hbad.out p (List.mem_of_getElem? hpi)
   have hR0 := slA_rd k r c w p.1
   have hR1 := slA_rd k r c w p.2
   have hJ2 : fitS k r c w ver p = true → ∀ j p, j < i + 1 → ps[j]? = some p → fitS k r c w ver p = true := fun h j p' hj hp' => by
     by_cases hji : j = i
     · subst hji
       rw [hpi] at hp'
       cases hp'
       exact h
     · exact hJ.out j p' (by omega) hp'
   unfold fitS at hbad2
   have hfs : fitS k r c w ver p = fitA (slA k r c w p.1) (slA k r c w p.2) (isSlot k r c w p.1) (isSlot k r c w p.2) ver := rfl
   rw [hfs] at hJ2
   clear hfs
   generalize slA k r c w p.1 = s0 at *
   generalize slA k r c w p.2 = s1 at *
   generalize isSlot k r c w p.1 = i0 at *
   generalize isSlot k r c w p.2 = i1 at *
   obtain ⟨⟨n1, y1, g1⟩, ⟨n2, y2, g2⟩⟩ := hR0
   obtain ⟨⟨n3, y3, g3⟩, ⟨n4, y4, g4⟩⟩ := hR1
   have f1 := rd_fz g1
   have f2 := rd_fz g2
   have q1 := rd_one g1
   have q2 := rd_one g2
   have t1 := rd_shift g1
   have t2 := rd_shift g2
   have f3 := rd_fz g3
   have f4 := rd_fz g4
   have q3 := rd_one g3
   have q4 := rd_one g4
   have t3 := rd_shift g3
   have t4 := rd_shift g4
   simp only [SlA.cells] at hP0 hP1
   replace hbad2 := Hid.mk hbad2
   replace hJ2 := Hid.mk hJ2
   replace hpi := Hid.mk hpi
   replace hpp := Hid.mk hpp
   simp only [↓pre, simprocAttr, parV, sx, tys19, onceFt, bne, postU, postA, Int.natCast_zero, Int.cast_ofNat_Int, Int.natCast_one, ww0, ww1, ww2, storeE, allocE, put_at, push_at, e1, e2, e3, e7, f1, f2, q1, q2, t1, t2, f3, f4, q3, q4, t3, t4, ha, fa, oa, hb, fb, ob, hlt, hlt', hv.rd.len', hv.rd.addr', sr]
   (refine call_pure (hP0) (by simp only [parV, plQ, *]) (by intro k; simp only [sq, sr, *]) ?_); simp only [↓pre, simprocAttr, parV, sx, tys19, onceFt, bne, postU, postA, Int.natCast_zero, Int.cast_ofNat_Int, Int.natCast_one, ww0, ww1, ww2, storeE, allocE, put_at, push_at, e1, e2, e3, e7, f1, f2, q1, q2, t1, t2, f3, f4, q3, q4, t3, t4, ha, fa, oa, hb, fb, ob, hlt, hlt', hv.rd.len', hv.rd.addr', sr]
   refine contW_fixed (by kernel_rfl) ?_
   simp only [↓pre, simprocAttr, parV, sx, tys19, onceFt, bne, postU, postA, Int.natCast_zero, Int.cast_ofNat_Int, Int.natCast_one, ww0, ww1, ww2, storeE, allocE, put_at, push_at, e1, e2, e3, e7, f1, f2, q1, q2, t1, t2, f3, f4, q3, q4, t3, t4, ha, fa, oa, hb, fb, ob, hlt, hlt', hv.rd.len', hv.rd.addr', sr]
   refine contW_fixed (by kernel_rfl) ?_
   simp only [↓pre, simprocAttr, parV, sx, tys19, onceFt, bne, postU, postA, Int.natCast_zero, Int.cast_ofNat_Int, Int.natCast_one, ww0, ww1, ww2, storeE, allocE, put_at, push_at, e1, e2, e3, e7, f1, f2, q1, q2, t1, t2, f3, f4, q3, q4, t3, t4, ha, fa, oa, hb, fb, ob, hlt, hlt', hv.rd.len', hv.rd.addr', sr]
   (refine call_pure (hP1) (by simp only [parV, plQ, *]) (by intro k; simp only [sq, sr, *]) ?_); simp only [↓pre, simprocAttr, parV, sx, tys19, onceFt, bne, postU, postA, Int.natCast_zero, Int.cast_ofNat_Int, Int.natCast_one, ww0, ww1, ww2, storeE, allocE, put_at, push_at, e1, e2, e3, e7, f1, f2, q1, q2, t1, t2, f3, f4, q3, q4, t3, t4, ha, fa, oa, hb, fb, ob, hlt, hlt', hv.rd.len', hv.rd.addr', sr]
   refine contW_fixed (by kernel_rfl) ?_
   simp only [↓pre, simprocAttr, parV, sx, tys19, onceFt, bne, postU, postA, Int.natCast_zero, Int.cast_ofNat_Int, Int.natCast_one, ww0, ww1, ww2, storeE, allocE, put_at, push_at, e1, e2, e3, e7, f1, f2, q1, q2, t1, t2, f3, f4, q3, q4, t3, t4, ha, fa, oa, hb, fb, ob, hlt, hlt', hv.rd.len', hv.rd.addr', sr]
   refine contW_fixed (by kernel_rfl) ?_
   simp only [↓pre, simprocAttr, parV, sx, tys19, onceFt, bne, postU, postA, Int.natCast_zero, Int.cast_ofNat_Int, Int.natCast_one, ww0, ww1, ww2, storeE, allocE, put_at, push_at, e1, e2, e3, e7, f1, f2, q1, q2, t1, t2, f3, f4, q3, q4, t3, t4, ha, fa, oa, hb, fb, ob, hlt, hlt', hv.rd.len', hv.rd.addr', sr]
   generalize hM : Mem.put (Mem.push (Mem.put (Mem.push m _) _ _) _) _ _ = M
   have hM0 : M.at_ m.next = some ⟨[.val (.int .u8 s0.kd), .val (.int .i64 s0.ix), .val (.int .i64 s0.ce), .val (.int .i64 s0.st), s0.vv, s0.dv], 127, .var, true⟩ := by rw [← hM]; simp [put_at, push_at, put_next, push_next]
   have hM1 : M.at_ (m.next + 1) = some ⟨[.val (.int .u8 s1.kd), .val (.int .i64 s1.ix), .val (.int .i64 s1.ce), .val (.int .i64 s1.st), s1.vv, s1.dv], 127, .var, true⟩ := by rw [← hM]; simp [put_at, push_at, put_next, push_next]
   clear hM
   generalize m.next = B at *
   cases i0 with
   | false =>
     cases i1 with
     | false =>
       have hN := hJ2.out (by unfold fitA; simp)
       replace hN := Hid.mk hN
       simp only [↓pre, simprocAttr, parV, sx, tys19, onceFt, bne, postU, postA, Int.natCast_zero, Int.cast_ofNat_Int, Int.natCast_one, ww0, ww1, ww2, storeE, allocE, put_at, push_at, e1, e2, e3, e7, hM0, hM1, wi, sr]
       exact ⟨q - 1, by have := hq.out; omega, i + 1, by have := hq.out; omega, rfl, hN⟩
     | true =>
       by_cases g1 : ver ≤ s1.st
       · skip
         have hT := hbad2.out (by unfold fitA; simp [g1])
         simp only [↓pre, simprocAttr, parV, sx, tys19, onceFt, bne, postU, postA, Int.natCast_zero, Int.cast_ofNat_Int, Int.natCast_one, ww0, ww1, ww2, storeE, allocE, put_at, push_at, e1, e2, e3, e7, hM0, hM1, wi, g1, sr]
         exact ⟨0, by rw [hT, fzT_val]⟩
       · skip
         have hN := hJ2.out (by unfold fitA; simp [g1])
         replace hN := Hid.mk hN
         simp only [↓pre, simprocAttr, parV, sx, tys19, onceFt, bne, postU, postA, Int.natCast_zero, Int.cast_ofNat_Int, Int.natCast_one, ww0, ww1, ww2, storeE, allocE, put_at, push_at, e1, e2, e3, e7, hM0, hM1, wi, g1, sr]
         exact ⟨q - 1, by have := hq.out; omega, i + 1, by have := hq.out; omega, rfl, hN⟩
   | true =>
     by_cases g0 : ver ≤ s0.st
     · skip
       have hT := hbad2.out (by unfold fitA; simp [g0])
       simp only [↓pre, simprocAttr, parV, sx, tys19, onceFt, bne, postU, postA, Int.natCast_zero, Int.cast_ofNat_Int, Int.natCast_one, ww0, ww1, ww2, storeE, allocE, put_at, push_at, e1, e2, e3, e7, hM0, hM1, wi, g0, sr]
       exact ⟨0, by rw [hT, fzT_val]⟩
     · cases i1 with
       | false =>
         have hN := hJ2.out (by unfold fitA; simp [g0])
         replace hN := Hid.mk hN
         simp only [↓pre, simprocAttr, parV, sx, tys19, onceFt, bne, postU, postA, Int.natCast_zero, Int.cast_ofNat_Int, Int.natCast_one, ww0, ww1, ww2, storeE, allocE, put_at, push_at, e1, e2, e3, e7, hM0, hM1, wi, g0, sr]
         exact ⟨q - 1, by have := hq.out; omega, i + 1, by have := hq.out; omega, rfl, hN⟩
       | true =>
         by_cases g1 : ver ≤ s1.st
         · skip
           have hT := hbad2.out (by unfold fitA; simp [g0, g1])
           simp only [↓pre, simprocAttr, parV, sx, tys19, onceFt, bne, postU, postA, Int.natCast_zero, Int.cast_ofNat_Int, Int.natCast_one, ww0, ww1, ww2, storeE, allocE, put_at, push_at, e1, e2, e3, e7, hM0, hM1, wi, g0, g1, sr]
           exact ⟨0, by rw [hT, fzT_val]⟩
         · by_cases c0 : s0.kd = 2
           · by_cases c1 : s1.kd = 2
             · by_cases c2 : s0.ce = s1.ce
               · skip
                 have hT := hbad2.out (by unfold fitA; simp [g0, g1, c0, c1, c2])
                 simp only [↓pre, simprocAttr, parV, sx, tys19, onceFt, bne, postU, postA, Int.natCast_zero, Int.cast_ofNat_Int, Int.natCast_one, ww0, ww1, ww2, storeE, allocE, put_at, push_at, e1, e2, e3, e7, hM0, hM1, wi, g0, g1, c0, c1, c2, sr]
                 exact ⟨0, by rw [hT, fzT_val]⟩
               · skip
                 have hN := hJ2.out (by unfold fitA; simp [g0, g1, c0, c1, c2])
                 replace hN := Hid.mk hN
                 simp only [↓pre, simprocAttr, parV, sx, tys19, onceFt, bne, postU, postA, Int.natCast_zero, Int.cast_ofNat_Int, Int.natCast_one, ww0, ww1, ww2, storeE, allocE, put_at, push_at, e1, e2, e3, e7, hM0, hM1, wi, g0, g1, c0, c1, c2, sr]
                 exact ⟨q - 1, by have := hq.out; omega, i + 1, by have := hq.out; omega, rfl, hN⟩
             · skip
               have hN := hJ2.out (by unfold fitA; simp [g0, g1, c0, c1])
               replace hN := Hid.mk hN
               simp only [↓pre, simprocAttr, parV, sx, tys19, onceFt, bne, postU, postA, Int.natCast_zero, Int.cast_ofNat_Int, Int.natCast_one, ww0, ww1, ww2, storeE, allocE, put_at, push_at, e1, e2, e3, e7, hM0, hM1, wi, g0, g1, c0, c1, sr]
               exact ⟨q - 1, by have := hq.out; omega, i + 1, by have := hq.out; omega, rfl, hN⟩
           · skip
             have hN := hJ2.out (by unfold fitA; simp [g0, g1, c0])
             replace hN := Hid.mk hN
             simp only [↓pre, simprocAttr, parV, sx, tys19, onceFt, bne, postU, postA, Int.natCast_zero, Int.cast_ofNat_Int, Int.natCast_one, ww0, ww1, ww2, storeE, allocE, put_at, push_at, e1, e2, e3, e7, hM0, hM1, wi, g0, g1, c0, sr]
             exact ⟨q - 1, by have := hq.out; omega, i + 1, by have := hq.out; omega, rfl, hN⟩
 · have hlt' : ¬ ((i : Nat) : Int) < ((ps.length : Nat) : Int) := by omega
   have hi : i = ps.length := by have := hq.out; omega
   subst hi
   have hT := hgood.out hJ.out
   simp only [↓pre, simprocAttr, parV, sx, tys19, onceFt, bne, postU, postA, Int.natCast_zero, Int.cast_ofNat_Int, Int.natCast_one, ww0, ww1, ww2, storeE, allocE, put_at, push_at, e1, e2, e3, e7, hv.rd.len', hlt', sr]
   exact ⟨0, by rw [hT, fzT_val]⟩
theorem nil_rd : RdSl nilS ([] : List UInt8).length (bytesA [] ++ []) := ⟨.inl ⟨rfl, rfl⟩⟩
def boolsA (l : List Bool) : List AV := l.map boolV
theorem boolA_at {l : List Bool} {x : List AV} {i : Nat} {b : Bool} (h : l[i]? = some b) : (boolsA l ++ x)[i]? = some (.val (.bool b)) := by
 have hi := (List.getElem?_eq_some_iff.1 h).1
 rw [List.getElem?_append_left (by simpa [boolsA] using hi)]
 simp [boolsA, h, boolV]
def wcA (l : List Bool) (cs : List AV) (n : Nat) : List AV := cs.mapIdx fun j c => if j / 2 < n ∧ wipB l (j / 2) = true then nilS else c
theorem wcA_len (l : List Bool) (cs : List AV) (n : Nat) : (wcA l cs n).length = cs.length := by simp [wcA]
theorem wcA_at {l : List Bool} {cs : List AV} {n j : Nat} {c : AV} (h : cs[j]? = some c) : (wcA l cs n)[j]? = some (if j / 2 < n ∧ wipB l (j / 2) = true then nilS else c) := by
 unfold wcA
 rw [List.getElem?_mapIdx, h]
 rfl
theorem wcA_ext {l : List Bool} {cs : List AV} {n n' : Nat} (h : ∀ j, j < cs.length → (j / 2 < n ∧ wipB l (j / 2) = true ↔ j / 2 < n' ∧ wipB l (j / 2) = true)) : wcA l cs n = wcA l cs n' := by
 apply List.ext_getElem?
 intro j
 cases hc : cs[j]? with
 | none =>
   have := List.getElem?_eq_none_iff.1 hc
   rw [List.getElem?_eq_none (by rw [wcA_len]; exact this), List.getElem?_eq_none (by rw [wcA_len]; exact this)]
 | some c =>
   have hj := (List.getElem?_eq_some_iff.1 hc).1
   rw [wcA_at hc, wcA_at hc]
   simp only [h j hj]
theorem wcA_zero (l : List Bool) (cs : List AV) : wcA l cs 0 = cs := by
 apply List.ext_getElem?
 intro j
 cases hc : cs[j]? with
 | none => rw [List.getElem?_eq_none (by rw [wcA_len]; exact List.getElem?_eq_none_iff.1 hc)]
 | some c => rw [wcA_at hc, if_neg (by omega)]
theorem wcA_put {l : List Bool} {cs : List AV} {i : Nat} (hw : wipB l i = true) (hi : i * 2 + 2 ≤ cs.length) : splice (wcA l cs i) (i * 2) [nilS, nilS] = wcA l cs (i + 1) := by
 unfold splice
 apply List.ext_getElem?
 intro j
 have hl := wcA_len l cs i
 have htl : ((wcA l cs i).take (i * 2)).length = i * 2 := by rw [List.length_take, hl]; omega
 by_cases hj : j < i * 2
 · rw [List.append_assoc, List.getElem?_append_left (by rw [htl]; exact hj), List.getElem?_take_of_lt hj]
   have hc : cs[j]? = some (cs[j]'(by omega)) := List.getElem?_eq_getElem _
   rw [wcA_at hc, wcA_at hc]
   have h1 : j / 2 < i := by omega
   have h2 : j / 2 < i + 1 := by omega
   simp [h1, h2]
 · rw [List.append_assoc, List.getElem?_append_right (by rw [htl]; omega), htl]
   by_cases hj2 : j < i * 2 + 2
   · have hc : cs[j]? = some (cs[j]'(by omega)) := List.getElem?_eq_getElem _
     have h1 : j / 2 = i := by omega
     rw [wcA_at hc, h1, if_pos ⟨by omega, hw⟩]
     have : j - i * 2 = 0 ∨ j - i * 2 = 1 := by omega
     rcases this with e | e <;> rw [e] <;> rfl
   · rw [List.getElem?_append_right (by simp; omega), List.getElem?_drop]
     have e : i * 2 + ([nilS, nilS] : List AV).length + (j - i * 2 - ([nilS, nilS] : List AV).length) = j := by simp; omega
     rw [e]
     cases hc : cs[j]? with
     | none =>
       have := List.getElem?_eq_none_iff.1 hc
       rw [List.getElem?_eq_none (by rw [wcA_len]; exact this), List.getElem?_eq_none (by rw [wcA_len]; exact this)]
     | some c =>
       rw [wcA_at hc, wcA_at hc, if_neg (by omega)]
       have h1 : ¬ j / 2 < i + 1 := by omega
       simp [h1]
theorem row_len {v : AV} {ps : List PairB} {cells : List AV} (hv : RowV v ps cells) : ps.length * 2 ≤ cells.length := by
 by_cases h : ps.length = 0
 · rw [h]; omega
 · obtain ⟨p, hp⟩ : ∃ p, ps[ps.length - 1]? = some p := ⟨_, List.getElem?_eq_getElem (by omega)⟩
   obtain ⟨a, b, xa, xb, h1, h2, _⟩ := hv.at_ _ _ hp
   have := (List.getElem?_eq_some_iff.1 h2).1
   omega
structure Cel (cs : List AV) (ps : List PairB) : Prop where
 len : cs.length = ps.length * 2
 at_ : ∀ i p, ps[i]? = some p → ∃ a b xa xb, cs[i * 2]? = some a ∧ cs[i * 2 + 1]? = some b ∧ RdSl a p.1.length (bytesA p.1 ++ xa) ∧ RdSl b p.2.length (bytesA p.2 ++ xb)
theorem Cel.row {cs : List AV} {ps : List PairB} (h : Cel cs ps) : RowV (treeR ps.length cs) ps cs := ⟨treeR_rd _ _, h.at_⟩
theorem RowV.cel {v : AV} {ps : List PairB} {cells : List AV} (hv : RowV v ps cells) : Cel (cells.take (ps.length * 2)) ps := by
 have hl := row_len hv
 refine ⟨by rw [List.length_take]; omega, fun i p hp => ?_⟩
 have hi := (List.getElem?_eq_some_iff.1 hp).1
 obtain ⟨a, b, xa, xb, h1, h2, h3, h4⟩ := hv.at_ i p hp
 exact ⟨a, b, xa, xb, by rw [List.getElem?_take_of_lt (by omega)]; exact h1, by rw [List.getElem?_take_of_lt (by omega)]; exact h2, h3, h4⟩
theorem Cel.all {cs : List AV} {ps : List PairB} (h : Cel cs ps) : ∀ c ∈ cs, ∃ n x, RdSl c n x := by
 intro c hc
 obtain ⟨j, hj⟩ := List.getElem?_of_mem hc
 have hjl := (List.getElem?_eq_some_iff.1 hj).1
 have hl := h.len
 have hi : j / 2 < ps.length := by omega
 obtain ⟨a, b, xa, xb, h1, h2, h3, h4⟩ := h.at_ (j / 2) _ (List.getElem?_eq_getElem hi)
 have hjj : j = j / 2 * 2 ∨ j = j / 2 * 2 + 1 := by omega
 rcases hjj with e | e
 · rw [← e, hj] at h1
   cases h1
   exact ⟨_, _, h3⟩
 · rw [← e, hj] at h2
   cases h2
   exact ⟨_, _, h4⟩
theorem Cel.ids {cs : List AV} {ps : List PairB} (h : Cel cs ps) : ∀ c ∈ cs, fzId c := fun c hc => by
 obtain ⟨n, x, h1⟩ := h.all c hc
 exact fzId_rd h1
theorem Cel.wipe {cs : List AV} {ps : List PairB} (h : Cel cs ps) (l : List Bool) (n : Nat) : Cel (wcA l cs n) (wipeP l ps n) := by
 refine ⟨by rw [wcA_len, wipe_len]; exact h.len, fun i p hp => ?_⟩
 have hi := (List.getElem?_eq_some_iff.1 hp).1
 rw [wipe_len] at hi
 have hq : ps[i]? = some ps[i] := List.getElem?_eq_getElem hi
 obtain ⟨a, b, xa, xb, h1, h2, h3, h4⟩ := h.at_ i _ hq
 rw [wipe_at hq] at hp
 have e1 : i * 2 / 2 = i := by omega
 have e2 : (i * 2 + 1) / 2 = i := by omega
 by_cases hc : i < n ∧ wipB l i = true
 · rw [if_pos hc] at hp
   cases hp
   exact ⟨nilS, nilS, [], [], by rw [wcA_at h1, e1, if_pos hc], by rw [wcA_at h2, e2, if_pos hc], nil_rd, nil_rd⟩
 · rw [if_neg hc] at hp
   cases hp
   exact ⟨a, b, xa, xb, by rw [wcA_at h1, e1, if_neg hc], by rw [wcA_at h2, e2, if_neg hc], h3, h4⟩
def wrA (cs : List AV) (p : PutC) : List AV := splice cs (p.dr * 2 + p.sl) [treeR p.bs.length (bytesA p.bs)]
def pairSet (q : PairB) (sl : Nat) (bs : List UInt8) : PairB := if sl = 0 then (bs, q.2) else (q.1, bs)
def wrP (ps : List PairB) (p : PutC) : List PairB := ps.set p.dr (pairSet (ps.getD p.dr ([], [])) p.sl p.bs)
def putsN (cs : List AV) (L : List PutC) : List AV := L.foldl wrA cs
def putsP (ps : List PairB) (L : List PutC) : List PairB := L.foldl wrP ps
theorem wrP_len (ps : List PairB) (p : PutC) : (wrP ps p).length = ps.length := by simp [wrP]
theorem putsP_len : ∀ (L : List PutC) (ps : List PairB), (putsP ps L).length = ps.length
 | [], ps => rfl
 | p :: L, ps => by
   show (putsP (wrP ps p) L).length = _
   rw [putsP_len L, wrP_len]
theorem wrA_len {cs : List AV} {p : PutC} (h : p.dr * 2 + p.sl < cs.length) : (wrA cs p).length = cs.length := splice_length cs _ _ h
theorem Cel.put {cs : List AV} {ps : List PairB} (h : Cel cs ps) {p : PutC} (h1 : p.dr < ps.length) (h2 : p.sl < 2) : Cel (wrA cs p) (wrP ps p) := by
 have hl := h.len
 have hlt : p.dr * 2 + p.sl + ([treeR p.bs.length (bytesA p.bs)] : List AV).length ≤ cs.length := by simp; omega
 have hg := splice_get cs (p.dr * 2 + p.sl) [treeR p.bs.length (bytesA p.bs)] hlt
 have htr : RdSl (treeR p.bs.length (bytesA p.bs)) p.bs.length (bytesA p.bs ++ []) := by rw [List.append_nil]; exact treeR_rd _ _
 refine ⟨by rw [wrA_len (by omega), wrP_len]; exact hl, fun i q hq => ?_⟩
 unfold wrP at hq
 rw [List.getElem?_set] at hq
 unfold wrA
 by_cases e : p.dr = i
 · subst e
   rw [if_pos rfl, if_pos h1] at hq
   cases hq
   have hpi : ps[p.dr]? = some ps[p.dr] := List.getElem?_eq_getElem h1
   obtain ⟨a, b, xa, xb, g1, g2, g3, g4⟩ := h.at_ _ _ hpi
   have hgd : ps.getD p.dr ([], []) = ps[p.dr] := by rw [List.getD_eq_getElem?_getD, hpi]; rfl
   rw [hgd]
   unfold pairSet
   have hs : p.sl = 0 ∨ p.sl = 1 := by omega
   rcases hs with hs | hs
   · rw [if_pos hs, hg, hg, hs]
     exact ⟨_, b, [], xb, by rw [if_pos (by simp only [List.length_cons, List.length_nil]; omega), show p.dr * 2 - (p.dr * 2 + 0) = 0 by omega]; rfl, by rw [if_neg (by simp only [List.length_cons, List.length_nil]; omega)]; exact g2, htr, g4⟩
   · rw [if_neg (by omega), hg, hg, hs]
     exact ⟨a, _, xa, [], by rw [if_neg (by simp only [List.length_cons, List.length_nil]; omega)]; exact g1, by rw [if_pos (by simp only [List.length_cons, List.length_nil]; omega), show p.dr * 2 + 1 - (p.dr * 2 + 1) = 0 by omega]; rfl, g3, htr⟩
 · rw [if_neg e] at hq
   obtain ⟨a, b, xa, xb, g1, g2, g3, g4⟩ := h.at_ _ _ hq
   refine ⟨a, b, xa, xb, ?_, ?_, g3, g4⟩
   · rw [hg, if_neg (by simp only [List.length_cons, List.length_nil]; omega)]; exact g1
   · rw [hg, if_neg (by simp only [List.length_cons, List.length_nil]; omega)]; exact g2
theorem Cel.puts {cs : List AV} {ps : List PairB} (L : List PutC) (h : Cel cs ps) (hL : ∀ p ∈ L, p.dr < ps.length ∧ p.sl < 2) : Cel (putsN cs L) (putsP ps L) := by
 induction L generalizing cs ps with
 | nil => exact h
 | cons p L ih =>
   have hp := hL p (by simp)
   show Cel (putsN (wrA cs p) L) (putsP (wrP ps p) L)
   exact ih (h.put hp.1 hp.2) fun q hq => by rw [wrP_len]; exact hL q (by simp [hq])
theorem putsN_snoc (cs : List AV) (L : List PutC) (p : PutC) : putsN cs (L ++ [p]) = wrA (putsN cs L) p := by simp [putsN]
theorem putsP_snoc (ps : List PairB) (L : List PutC) (p : PutC) : putsP ps (L ++ [p]) = wrP (putsP ps L) p := by simp [putsP]
theorem putsN_len {cs : List AV} {N : Nat} (hc : cs.length = N * 2) : ∀ (L : List PutC), (∀ p ∈ L, p.dr < N ∧ p.sl < 2) → (putsN cs L).length = N * 2 := by
 intro L
 induction L generalizing cs with
 | nil => intro _; exact hc
 | cons p L ih =>
   intro h
   have hp := h p (by simp)
   exact ih (by rw [wrA_len (by omega)]; exact hc) fun q hq => h q (by simp [hq])
theorem putsA_at : ∀ (L : List PutC) (i : Nat) (p : PutC), L[i]? = some p → (putsA L)[i * 4]? = some (intV p.dr) ∧ (putsA L)[i * 4 + 1]? = some (intV p.row) ∧ (putsA L)[i * 4 + 2]? = some (intV p.sl) ∧ (putsA L)[i * 4 + 3]? = some (treeR p.bs.length (bytesA p.bs))
 | [], i, p, h => by simp at h
 | q :: L, 0, p, h => by simp at h; subst h; exact ⟨rfl, rfl, rfl, rfl⟩
 | q :: L, i + 1, p, h => by
   have ih := putsA_at L i p (by simpa using h)
   have e : putsA (q :: L) = intV q.dr :: intV q.row :: intV q.sl :: treeR q.bs.length (bytesA q.bs) :: putsA L := rfl
   rw [e, show (i + 1) * 4 = i * 4 + 1 + 1 + 1 + 1 by omega]
   simpa using ih
end Go.Proofs.YtaekhhlgnbhnpaaGreat