import Derived.Test.YtaekhhlgnbhnpaaGreatGmG19
import Derived.Test.YtaekhhlgnbhnpaaGreatGmG17
set_option linter.unusedVariables false
set_option linter.unusedSimpArgs false
set_option maxRecDepth 10000
namespace Go.Proofs.YtaekhhlgnbhnpaaGreat
open Go Go.Tw Go.Proofs Go.Gf
def refB (w : Int) (x : RefI) : Bool := decide ((0 ≤ x.1 ∧ x.1 < w) ∧ 1 ≤ x.2 ∧ x.2 ≤ 1073741824)
def refsOk (w : Int) (l : List RefI) : Bool := l.all (refB w)
theorem desc_may (k r c w : Int) (v : AV) (l : List RefI) (hv : RefsV v l) (hn : l.length ≤ 1000000000) : FSpec Tryz.prog 251 [parV k r c w, v] ⟨boolV (refsOk w l), []⟩ := by
 obtain ⟨x, hv⟩ := hv
 have hp := hv.plain
 generalize hres : refsOk w l = B
 replace hres := Hid.mk hres
 refine fspec_of_body follows Tryz.func251 (by unfold Tryz.f251; rfl) (by unfold Tryz.f251; simp) onceA (by unfold Tryz.f251; simp) (by kernel_rfl) ?_; unfold Tryz.f251
 simp only [↓pre, simprocAttr, parV, sx, tys251, onceA, postU, postA, storeE, allocE, put_at, push_at, hv.len', sr]
 rw [codeW_loop]
 refine loop_intro (fun q e m => ∃ i, q + i = l.length ∧ e 2 = .tptr 0 [intV k, intV r, intV c, intV w] ∧ e 7 = v ∧ e 8 = intV (l.length : Nat) ∧ e 9 = intV (i : Nat) ∧ Hid (∀ j y, j < i → l[j]? = some y → refB w y = true)) l.length ⟨0, by omega, rfl, rfl, rfl, rfl, ⟨fun j y h => by omega⟩⟩ ?_
 rintro q e m ⟨i, hq, e2, e7, e8, e9, hJ⟩
 replace hq := Hid.mk hq
 by_cases hlt : i < l.length
 · have hlt' : ((i : Nat) : Int) < ((l.length : Nat) : Int) := by omega
   have wi := wrap_succ (n := i) (by omega)
   obtain ⟨y, hy⟩ : ∃ y, l[i]? = some y := ⟨_, List.getElem?_eq_getElem hlt⟩
   obtain ⟨ha, hb⟩ := refsA_at l x i y hy
   obtain ⟨ht, htl⟩ := take2 ha hb
   have hbad : refB w y = false → B = false := fun h => by
     rw [← hres.out]
     unfold refsOk
     rw [List.all_eq_false]
     exact ⟨y, List.mem_of_getElem? hy, by rw [h]; decide⟩
   have hgood : refB w y = true → ∃ n', n' < q ∧ n' + (i + 1) = l.length ∧ ∀ j y, j < i + 1 → l[j]? = some y → refB w y = true := fun h => ⟨q - 1, by have := hq.out; omega, by have := hq.out; omega, fun j y' hj hy' => by
     by_cases e : j = i
     · subst e; rw [hy] at hy'; cases hy'; exact h
     · exact hJ.out j y' (by omega) hy'⟩
   have hd : refB w y = decide ((0 ≤ y.1 ∧ y.1 < w) ∧ 1 ≤ y.2 ∧ y.2 ≤ 1073741824) := rfl
   replace hy := Hid.mk hy
   replace hbad := Hid.mk hbad
   replace hgood := Hid.mk hgood
   replace hd := Hid.mk hd
   simp only [intV] at ht
   by_cases k1 : y.1 < 0
   · have hB := hbad.out (by rw [hd.out]; simp; omega)
     subst hB
     simp only [↓pre, simprocAttr, parV, sx, tys251, onceA, postU, postA, storeE, allocE, put_at, push_at, e2, e7, e8, e9, hlt', hv.addr', hlt, ht, htl, k1, sr]
   · by_cases k2 : w ≤ y.1
     · have hB := hbad.out (by rw [hd.out]; simp; omega)
       subst hB
       simp only [↓pre, simprocAttr, parV, sx, tys251, onceA, postU, postA, storeE, allocE, put_at, push_at, e2, e7, e8, e9, hlt', hv.addr', hlt, ht, htl, k1, k2, sr]
     · by_cases k3 : y.2 < 1
       · have hB := hbad.out (by rw [hd.out]; simp; omega)
         subst hB
         simp only [↓pre, simprocAttr, parV, sx, tys251, onceA, postU, postA, storeE, allocE, put_at, push_at, e2, e7, e8, e9, hlt', hv.addr', hlt, ht, htl, k1, k2, k3, sr]
       · by_cases k4 : (1073741824 : Int) < y.2
         · have hB := hbad.out (by rw [hd.out]; simp; omega)
           subst hB
           simp only [↓pre, simprocAttr, parV, sx, tys251, onceA, postU, postA, storeE, allocE, put_at, push_at, e2, e7, e8, e9, hlt', hv.addr', hlt, ht, htl, k1, k2, k3, k4, sr]
         · obtain ⟨n', h1, h2, h3⟩ := hgood.out (by rw [hd.out]; simp; omega)
           simp only [↓pre, simprocAttr, parV, sx, tys251, onceA, postU, postA, storeE, allocE, put_at, push_at, e2, e7, e8, e9, hlt', hv.addr', hlt, ht, htl, k1, k2, k3, k4, wi, sr]
           exact ⟨n', h1, i + 1, h2, rfl, ⟨h3⟩⟩
 · have hlt' : ¬ ((i : Nat) : Int) < ((l.length : Nat) : Int) := by omega
   have hB : B = true := by
     rw [← hres.out]
     unfold refsOk
     rw [List.all_eq_true]
     intro y hy
     obtain ⟨j, hj⟩ := List.getElem?_of_mem hy
     have := (List.getElem?_eq_some_iff.1 hj).1
     exact hJ.out j y (by omega) hj
   subst hB
   simp only [↓pre, simprocAttr, parV, sx, tys251, onceA, postU, postA, storeE, allocE, put_at, push_at, e2, e7, e8, e9, hlt', sr]
def descOk (k r c w len dep : Int) (l : List RefI) : Bool := decide (oE k r c w len = 0) && (decide (min (oF k r c w len) 1 = dep) && (decide ((l.length : Int) = (if dep = 1 then oF k r c w len else oS k r c w len)) && refsOk w l))
def chkD (k r c w len dep : Int) (l : List RefI) : Int := if mayB k r c w = true then (if descOk k r c w len dep l = true then 0 else 150) else 2
theorem oF_nn {k r c w n : Int} (hm : mayB k r c w = true) : 0 ≤ oF k r c w n := by
 unfold oF
 split
 · rename_i h
   unfold oE at h
   rw [hm, if_pos rfl] at h
   split at h
   · omega
   · split at h
     · omega
     · unfold fI
       split
       · omega
       · have hw := may_w hm
         have hb := up_bounds (a := n) (b := wI k c) (by omega) (by have := m_le k c; omega) (by unfold wI; omega) (by unfold wI; omega)
         have hl := l_bounds hw.1 hw.2
         have h2 : 0 ≤ sI k c n := hb.1
         unfold upI lI
         refine Int.ediv_nonneg ?_ ?_ <;> omega
 · omega
theorem desc_Check (k r c w len dep : Int) (v : AV) (l : List RefI) (hv : RefsV v l) (hn : l.length ≤ 1000000000) : FSpec Tryz.prog 191 [parV k r c w, .agg [intV len, intV dep, v]] ⟨intV (chkD k r c w len dep l), []⟩ := by
 have h1 := layout_check k r c w
 have h2 := layout_Depth k r c w len
 have h3 := layout_leaves k r c w len
 have h4 := layout_stripes k r c w len
 have h5 := desc_may k r c w v l hv hn
 obtain ⟨x, hv⟩ := hv
 have hp := hv.plain
 have f1 := rd_fz hv
 have o1 := rd_one hv
 generalize hres : chkD k r c w len dep l = E
 unfold chkD at hres
 cases hm : mayB k r c w with
 | false =>
   rw [hm] at h1 hres
   subst hres
   simp only [Bool.false_eq_true, if_false] at h1
   refine fspec_of_body follows Tryz.func191 (by unfold Tryz.f191; rfl) (by unfold Tryz.f191; simp) onceA (by unfold Tryz.f191; simp) (by kernel_rfl) ?_; unfold Tryz.f191
   simp only [↓pre, simprocAttr, parV, sx, tys191, onceA, postU, postA, f1, o1, sr]
   (first | refine call_plain (h1) (by first | rfl | simp only [parV, plQ, *]) ?_ | refine call_pure (h1) (by first | rfl | simp only [parV, plQ, *]) (by intro k; first | rfl | simp only [sq, sr, *]) ?_); simp only [↓pre, simprocAttr, parV, sx, tys191, onceA, postU, postA, f1, o1, sr]
 | true =>
   have hF0 := oF_nn (n := len) hm
   rw [hm] at h1 hres
   simp only [if_true] at h1 hres
   unfold descOk at hres
   generalize oE k r c w len = e1 at *
   generalize oF k r c w len = f at *
   generalize oS k r c w len = s at *
   generalize refsOk w l = B at *
   by_cases k1 : e1 = 0
   · subst k1
     by_cases k2 : min f 1 = dep
     · rw [decide_eq_true k2] at hres
       by_cases kd : dep = 1
       · subst kd
         by_cases k3 : f = (l.length : Int)
         · rw [if_pos rfl, k3] at hres
           have hk2 : min (l.length : Int) 1 = 1 := by omega
           cases B with
           | true =>
             simp only [decide_true, Bool.and_self, if_true] at hres
             subst hres
             refine fspec_of_body follows Tryz.func191 (by unfold Tryz.f191; rfl) (by unfold Tryz.f191; simp) onceA (by unfold Tryz.f191; simp) (by kernel_rfl) ?_; unfold Tryz.f191
             simp only [↓pre, simprocAttr, parV, sx, tys191, onceA, postU, postA, f1, o1, sr]
             (first | refine call_plain (h1) (by first | rfl | simp only [parV, plQ, *]) ?_ | refine call_pure (h1) (by first | rfl | simp only [parV, plQ, *]) (by intro k; first | rfl | simp only [sq, sr, *]) ?_); simp only [↓pre, simprocAttr, parV, sx, tys191, onceA, postU, postA, f1, o1, k2, k3, hv.len', hk2, sr]; (first | refine call_plain (h2) (by first | rfl | simp only [parV, plQ, *]) ?_ | refine call_pure (h2) (by first | rfl | simp only [parV, plQ, *]) (by intro k; first | rfl | simp only [sq, sr, *]) ?_); simp only [↓pre, simprocAttr, parV, sx, tys191, onceA, postU, postA, f1, o1, k2, k3, hv.len', hk2, sr]; (first | refine call_plain (h3) (by first | rfl | simp only [parV, plQ, *]) ?_ | refine call_pure (h3) (by first | rfl | simp only [parV, plQ, *]) (by intro k; first | rfl | simp only [sq, sr, *]) ?_); simp only [↓pre, simprocAttr, parV, sx, tys191, onceA, postU, postA, f1, o1, k2, k3, hv.len', hk2, sr]; (first | refine call_plain (h5) (by first | rfl | simp only [parV, plQ, *]) ?_ | refine call_pure (h5) (by first | rfl | simp only [parV, plQ, *]) (by intro k; first | rfl | simp only [sq, sr, *]) ?_); simp only [↓pre, simprocAttr, parV, sx, tys191, onceA, postU, postA, f1, o1, k2, k3, hv.len', hk2, sr]
           | false =>
             simp only [decide_true, Bool.and_false, Bool.false_eq_true, if_false] at hres
             subst hres
             refine fspec_of_body follows Tryz.func191 (by unfold Tryz.f191; rfl) (by unfold Tryz.f191; simp) onceA (by unfold Tryz.f191; simp) (by kernel_rfl) ?_; unfold Tryz.f191
             simp only [↓pre, simprocAttr, parV, sx, tys191, onceA, postU, postA, f1, o1, sr]
             (first | refine call_plain (h1) (by first | rfl | simp only [parV, plQ, *]) ?_ | refine call_pure (h1) (by first | rfl | simp only [parV, plQ, *]) (by intro k; first | rfl | simp only [sq, sr, *]) ?_); simp only [↓pre, simprocAttr, parV, sx, tys191, onceA, postU, postA, f1, o1, k2, k3, hv.len', hk2, sr]; (first | refine call_plain (h2) (by first | rfl | simp only [parV, plQ, *]) ?_ | refine call_pure (h2) (by first | rfl | simp only [parV, plQ, *]) (by intro k; first | rfl | simp only [sq, sr, *]) ?_); simp only [↓pre, simprocAttr, parV, sx, tys191, onceA, postU, postA, f1, o1, k2, k3, hv.len', hk2, sr]; (first | refine call_plain (h3) (by first | rfl | simp only [parV, plQ, *]) ?_ | refine call_pure (h3) (by first | rfl | simp only [parV, plQ, *]) (by intro k; first | rfl | simp only [sq, sr, *]) ?_); simp only [↓pre, simprocAttr, parV, sx, tys191, onceA, postU, postA, f1, o1, k2, k3, hv.len', hk2, sr]; (first | refine call_plain (h5) (by first | rfl | simp only [parV, plQ, *]) ?_ | refine call_pure (h5) (by first | rfl | simp only [parV, plQ, *]) (by intro k; first | rfl | simp only [sq, sr, *]) ?_); simp only [↓pre, simprocAttr, parV, sx, tys191, onceA, postU, postA, f1, o1, k2, k3, hv.len', hk2, sr]
         · have k3' : ¬ (l.length : Int) = f := fun h => k3 h.symm
           rw [if_pos rfl, decide_eq_false k3'] at hres
           simp only [Bool.false_and, Bool.and_false, Bool.false_eq_true, if_false] at hres
           subst hres
           refine fspec_of_body follows Tryz.func191 (by unfold Tryz.f191; rfl) (by unfold Tryz.f191; simp) onceA (by unfold Tryz.f191; simp) (by kernel_rfl) ?_; unfold Tryz.f191
           simp only [↓pre, simprocAttr, parV, sx, tys191, onceA, postU, postA, f1, o1, sr]
           (first | refine call_plain (h1) (by first | rfl | simp only [parV, plQ, *]) ?_ | refine call_pure (h1) (by first | rfl | simp only [parV, plQ, *]) (by intro k; first | rfl | simp only [sq, sr, *]) ?_); simp only [↓pre, simprocAttr, parV, sx, tys191, onceA, postU, postA, f1, o1, k2, k3, hv.len', sr]; (first | refine call_plain (h2) (by first | rfl | simp only [parV, plQ, *]) ?_ | refine call_pure (h2) (by first | rfl | simp only [parV, plQ, *]) (by intro k; first | rfl | simp only [sq, sr, *]) ?_); simp only [↓pre, simprocAttr, parV, sx, tys191, onceA, postU, postA, f1, o1, k2, k3, hv.len', sr]; (first | refine call_plain (h3) (by first | rfl | simp only [parV, plQ, *]) ?_ | refine call_pure (h3) (by first | rfl | simp only [parV, plQ, *]) (by intro k; first | rfl | simp only [sq, sr, *]) ?_); simp only [↓pre, simprocAttr, parV, sx, tys191, onceA, postU, postA, f1, o1, k2, k3, hv.len', sr]
       · have hd0 : dep = 0 := by omega
         subst hd0
         rw [if_neg (show ¬ (0 : Int) = 1 by decide)] at hres
         by_cases k3 : s = (l.length : Int)
         · rw [k3] at hres
           cases B with
           | true =>
             simp only [decide_true, Bool.and_self, if_true] at hres
             subst hres
             refine fspec_of_body follows Tryz.func191 (by unfold Tryz.f191; rfl) (by unfold Tryz.f191; simp) onceA (by unfold Tryz.f191; simp) (by kernel_rfl) ?_; unfold Tryz.f191
             simp only [↓pre, simprocAttr, parV, sx, tys191, onceA, postU, postA, f1, o1, sr]
             (first | refine call_plain (h1) (by first | rfl | simp only [parV, plQ, *]) ?_ | refine call_pure (h1) (by first | rfl | simp only [parV, plQ, *]) (by intro k; first | rfl | simp only [sq, sr, *]) ?_); simp only [↓pre, simprocAttr, parV, sx, tys191, onceA, postU, postA, f1, o1, k2, k3, hv.len', sr]; (first | refine call_plain (h2) (by first | rfl | simp only [parV, plQ, *]) ?_ | refine call_pure (h2) (by first | rfl | simp only [parV, plQ, *]) (by intro k; first | rfl | simp only [sq, sr, *]) ?_); simp only [↓pre, simprocAttr, parV, sx, tys191, onceA, postU, postA, f1, o1, k2, k3, hv.len', sr]; (first | refine call_plain (h4) (by first | rfl | simp only [parV, plQ, *]) ?_ | refine call_pure (h4) (by first | rfl | simp only [parV, plQ, *]) (by intro k; first | rfl | simp only [sq, sr, *]) ?_); simp only [↓pre, simprocAttr, parV, sx, tys191, onceA, postU, postA, f1, o1, k2, k3, hv.len', sr]; (first | refine call_plain (h5) (by first | rfl | simp only [parV, plQ, *]) ?_ | refine call_pure (h5) (by first | rfl | simp only [parV, plQ, *]) (by intro k; first | rfl | simp only [sq, sr, *]) ?_); simp only [↓pre, simprocAttr, parV, sx, tys191, onceA, postU, postA, f1, o1, k2, k3, hv.len', sr]
           | false =>
             simp only [decide_true, Bool.and_false, Bool.false_eq_true, if_false] at hres
             subst hres
             refine fspec_of_body follows Tryz.func191 (by unfold Tryz.f191; rfl) (by unfold Tryz.f191; simp) onceA (by unfold Tryz.f191; simp) (by kernel_rfl) ?_; unfold Tryz.f191
             simp only [↓pre, simprocAttr, parV, sx, tys191, onceA, postU, postA, f1, o1, sr]
             (first | refine call_plain (h1) (by first | rfl | simp only [parV, plQ, *]) ?_ | refine call_pure (h1) (by first | rfl | simp only [parV, plQ, *]) (by intro k; first | rfl | simp only [sq, sr, *]) ?_); simp only [↓pre, simprocAttr, parV, sx, tys191, onceA, postU, postA, f1, o1, k2, k3, hv.len', sr]; (first | refine call_plain (h2) (by first | rfl | simp only [parV, plQ, *]) ?_ | refine call_pure (h2) (by first | rfl | simp only [parV, plQ, *]) (by intro k; first | rfl | simp only [sq, sr, *]) ?_); simp only [↓pre, simprocAttr, parV, sx, tys191, onceA, postU, postA, f1, o1, k2, k3, hv.len', sr]; (first | refine call_plain (h4) (by first | rfl | simp only [parV, plQ, *]) ?_ | refine call_pure (h4) (by first | rfl | simp only [parV, plQ, *]) (by intro k; first | rfl | simp only [sq, sr, *]) ?_); simp only [↓pre, simprocAttr, parV, sx, tys191, onceA, postU, postA, f1, o1, k2, k3, hv.len', sr]; (first | refine call_plain (h5) (by first | rfl | simp only [parV, plQ, *]) ?_ | refine call_pure (h5) (by first | rfl | simp only [parV, plQ, *]) (by intro k; first | rfl | simp only [sq, sr, *]) ?_); simp only [↓pre, simprocAttr, parV, sx, tys191, onceA, postU, postA, f1, o1, k2, k3, hv.len', sr]
         · have k3' : ¬ (l.length : Int) = s := fun h => k3 h.symm
           rw [decide_eq_false k3'] at hres
           simp only [Bool.false_and, Bool.and_false, Bool.false_eq_true, if_false] at hres
           subst hres
           refine fspec_of_body follows Tryz.func191 (by unfold Tryz.f191; rfl) (by unfold Tryz.f191; simp) onceA (by unfold Tryz.f191; simp) (by kernel_rfl) ?_; unfold Tryz.f191
           simp only [↓pre, simprocAttr, parV, sx, tys191, onceA, postU, postA, f1, o1, sr]
           (first | refine call_plain (h1) (by first | rfl | simp only [parV, plQ, *]) ?_ | refine call_pure (h1) (by first | rfl | simp only [parV, plQ, *]) (by intro k; first | rfl | simp only [sq, sr, *]) ?_); simp only [↓pre, simprocAttr, parV, sx, tys191, onceA, postU, postA, f1, o1, k2, k3, hv.len', sr]; (first | refine call_plain (h2) (by first | rfl | simp only [parV, plQ, *]) ?_ | refine call_pure (h2) (by first | rfl | simp only [parV, plQ, *]) (by intro k; first | rfl | simp only [sq, sr, *]) ?_); simp only [↓pre, simprocAttr, parV, sx, tys191, onceA, postU, postA, f1, o1, k2, k3, hv.len', sr]; (first | refine call_plain (h4) (by first | rfl | simp only [parV, plQ, *]) ?_ | refine call_pure (h4) (by first | rfl | simp only [parV, plQ, *]) (by intro k; first | rfl | simp only [sq, sr, *]) ?_); simp only [↓pre, simprocAttr, parV, sx, tys191, onceA, postU, postA, f1, o1, k2, k3, hv.len', sr]
     · rw [decide_eq_false k2] at hres
       simp only [Bool.false_and, Bool.and_false, Bool.false_eq_true, if_false] at hres
       subst hres
       refine fspec_of_body follows Tryz.func191 (by unfold Tryz.f191; rfl) (by unfold Tryz.f191; simp) onceA (by unfold Tryz.f191; simp) (by kernel_rfl) ?_; unfold Tryz.f191
       simp only [↓pre, simprocAttr, parV, sx, tys191, onceA, postU, postA, f1, o1, sr]
       (first | refine call_plain (h1) (by first | rfl | simp only [parV, plQ, *]) ?_ | refine call_pure (h1) (by first | rfl | simp only [parV, plQ, *]) (by intro k; first | rfl | simp only [sq, sr, *]) ?_); simp only [↓pre, simprocAttr, parV, sx, tys191, onceA, postU, postA, f1, o1, k2, sr]; (first | refine call_plain (h2) (by first | rfl | simp only [parV, plQ, *]) ?_ | refine call_pure (h2) (by first | rfl | simp only [parV, plQ, *]) (by intro k; first | rfl | simp only [sq, sr, *]) ?_); simp only [↓pre, simprocAttr, parV, sx, tys191, onceA, postU, postA, f1, o1, k2, sr]
   · rw [decide_eq_false k1] at hres
     simp only [Bool.false_and, Bool.false_eq_true, if_false] at hres
     subst hres
     refine fspec_of_body follows Tryz.func191 (by unfold Tryz.f191; rfl) (by unfold Tryz.f191; simp) onceA (by unfold Tryz.f191; simp) (by kernel_rfl) ?_; unfold Tryz.f191
     simp only [↓pre, simprocAttr, parV, sx, tys191, onceA, postU, postA, f1, o1, sr]
     (first | refine call_plain (h1) (by first | rfl | simp only [parV, plQ, *]) ?_ | refine call_pure (h1) (by first | rfl | simp only [parV, plQ, *]) (by intro k; first | rfl | simp only [sq, sr, *]) ?_); simp only [↓pre, simprocAttr, parV, sx, tys191, onceA, postU, postA, f1, o1, k1, sr]; (first | refine call_plain (h2) (by first | rfl | simp only [parV, plQ, *]) ?_ | refine call_pure (h2) (by first | rfl | simp only [parV, plQ, *]) (by intro k; first | rfl | simp only [sq, sr, *]) ?_); simp only [↓pre, simprocAttr, parV, sx, tys191, onceA, postU, postA, f1, o1, k1, sr]
theorem copy2 {P : Program} {m : Mem} {t t2 ty : TypeId} {d x : AV} : builtinE P m #[t, t2] ty [d, x] .copy = (elE P t).bind fun el => copyE P el m d x := rfl
def padB (bs : List UInt8) (W : Nat) : List UInt8 := bs ++ List.replicate (W - bs.length) 0
theorem padB_len {bs : List UInt8} {W : Nat} (h : bs.length ≤ W) : (padB bs W).length = W := by simp [padB]; omega
theorem tabA_zero (W : Nat) : tabA W (fun _ => 0) = bytesA (List.replicate W 0) := by
 unfold tabA tab bytesA
 congr 1
 apply List.ext_getElem
 · simp
 · intro i h1 h2; simp
theorem desc_wide (k r c w : Int) (hm : mayB k r c w = true) (m0 : Mem) (lv : AV) (bs : List UInt8) (ho : Own m0 5 1 lv bs.length (bytesA bs)) (hl : bs.length ≤ (wI k c).toNat) : OSpec Tryz.prog 193 [parV k r c w, lv] m0 fun res m' => res = .tup [.sl m0.next 0 (wI k c).toNat (wI k c).toNat true, intV 0] ∧ m' = m0.push ⟨bytesA (padB bs (wI k c).toNat), 5, .flat, true⟩ := by
 have hw := layout_Width k r c w
 have hwb := may_w hm
 simp only [hm, if_true] at hw
 obtain ⟨W, hW⟩ : ∃ W : Nat, wI k c = (W : Int) := ⟨(wI k c).toNat, by unfold wI; omega⟩
 have hWn : (wI k c).toNat = W := by omega
 have hW8 : W ≤ 768 := by unfold wI at hW; omega
 rw [hWn] at hl ⊢
 rw [hW] at hw
 have hmk := fun m => make_bytes m (n := W) (by omega)
 have hown := ho.push (x := ⟨tabA W fun _ => 0, 5, .flat, true⟩)
 have hsrc := own_src (P := Tryz.prog) (el' := 5) (kd := .flat) hown (by kernel_rfl)
 have hcp : copyE Tryz.prog 5 (m0.push ⟨tabA W fun _ => 0, 5, .flat, true⟩) (.sl m0.next 0 W W true) lv = some ⟨intV (bs.length : Nat), m0.push ⟨bytesA (padB bs W), 5, .flat, true⟩, none⟩ := by
   have h2 : szE Tryz.prog 5 = some 1 := by kernel_rfl
   have h4 : kindT Tryz.prog 5 = .flat := by kernel_rfl
   have hb : (m0.push ⟨tabA W fun _ => 0, 5, .flat, true⟩).at_ m0.next = some ⟨tabA W fun _ => 0, 5, .flat, true⟩ := by rw [push_at, if_pos rfl]
   simp only [copyE, h2, hsrc, hb, Option.bind_some, h4]
   rw [if_pos ⟨trivial, trivial, by rw [tabA_len]; omega⟩, push_put rfl]
   have hmin : min bs.length W = bs.length := by omega
   rw [hmin, Nat.mul_one, List.take_of_length_le (by rw [bytesA_len]; omega), tabA_zero]
   congr 4
   unfold padB splice
   rw [bytesA_append, bytesA_len, List.take_zero, List.nil_append, Nat.zero_add]
   congr 1
   unfold bytesA
   rw [← List.map_drop, List.drop_replicate]
 refine ospec_of_body follows Tryz.func193 (by unfold Tryz.f193; rfl) (by unfold Tryz.f193; simp) onceA (by unfold Tryz.f193; simp) (by kernel_rfl) ?_; unfold Tryz.f193
 simp only [↓pre, simprocAttr, parV, sx, tys193, onceA, postU, sr]
 (first | refine call_plain (hw) (by first | rfl | simp only [parV, plQ, *]) ?_ | refine call_pure (hw) (by first | rfl | simp only [parV, plQ, *]) (by intro k; first | rfl | simp only [sq, sr, *]) ?_); simp only [↓pre, simprocAttr, parV, sx, tys193, onceA, postU, hmk, copy2, hcp, sr]
def headB (len dep : Int) (n : Nat) : List UInt8 := numB len 4 ++ (numB dep 1 ++ numB (n : Nat) 2)
def madeB (k c len dep : Int) (l : List RefI) : List UInt8 := padB (headB len dep l.length ++ refsB l) (wI k c).toNat
def descBV (k r c w len dep : Int) (l : List RefI) : AV := if chkD k r c w len dep l = 0 then .tup [.tree (wI k c).toNat (wI k c).toNat (bytesA (madeB k c len dep l)) true, intV 0] else .tup [nilS, intV (chkD k r c w len dep l)]
theorem desc_fit {k r c w len dep : Int} {l : List RefI} (h : chkD k r c w len dep l = 0) : mayB k r c w = true ∧ descOk k r c w len dep l = true := by
 unfold chkD at h
 split at h
 · rename_i h1
   split at h
   · rename_i h2; exact ⟨h1, h2⟩
   · omega
 · omega
theorem up_div {a b d : Int} (hb : 0 < b) (h : a ≤ d * b) : upI a b ≤ d := by
 unfold upI
 have : a + b - 1 < (d + 1) * b := by rw [Int.add_mul, Int.one_mul]; omega
 have := Int.ediv_lt_of_lt_mul hb this
 omega
theorem desc_bounds {k r c w len dep : Int} {l : List RefI} (h : chkD k r c w len dep l = 0) : 0 ≤ len ∧ len ≤ 32768 ∧ (dep = 0 ∨ dep = 1) ∧ (l.length : Int) ≤ dI k c ∧ (∀ x ∈ l, (0 ≤ x.1 ∧ x.1 < w) ∧ 1 ≤ x.2 ∧ x.2 ≤ 1073741824) := by
 obtain ⟨hm, hd⟩ := desc_fit h
 unfold descOk at hd
 simp only [Bool.and_eq_true, decide_eq_true_eq] at hd
 obtain ⟨h1, h2, h3, h4⟩ := hd
 have hF0 := oF_nn (n := len) hm
 have hml := m_le k c
 have hw := may_w hm
 have hl0 : 0 ≤ len ∧ len ≤ mI k c := by
   unfold oE at h1
   rw [hm, if_pos rfl] at h1
   split at h1
   · omega
   · split at h1
     · omega
     · omega
 have hrf : ∀ x ∈ l, (0 ≤ x.1 ∧ x.1 < w) ∧ 1 ≤ x.2 ∧ x.2 ≤ 1073741824 := fun x hx => by
   have := List.all_eq_true.1 h4 x hx
   unfold refB at this
   exact of_decide_eq_true this
 refine ⟨hl0.1, by omega, by omega, ?_, hrf⟩
 rw [h3]
 have hdb := d_bounds hw.1 hw.2
 have hlb := l_bounds hw.1 hw.2
 have hmd : len ≤ dI k c * lI k c * (k * c) := by unfold mI at hl0; omega
 unfold oF oS at *
 rw [h1, if_pos rfl] at *
 have hs : sI k c len ≤ dI k c * lI k c := up_div (by unfold wI; omega) (by unfold wI; omega)
 by_cases hf : sI k c len ≤ dI k c
 · have : fI k c len = 0 := by unfold fI; rw [if_pos hf]
   rw [this] at h2 ⊢
   have hd0 : dep = 0 := by omega
   rw [if_neg (by omega)]
   exact hf
 · have hfi : fI k c len = upI (sI k c len) (lI k c) := by unfold fI; rw [if_neg hf]
   have hle : upI (sI k c len) (lI k c) ≤ dI k c := up_div (by unfold lI; omega) hs
   split
   · rw [hfi]; exact hle
   · rename_i hd1
     exfalso
     have hpos : 1 ≤ upI (sI k c len) (lI k c) := by
       unfold upI
       have h9 : 1 * lI k c ≤ sI k c len + lI k c - 1 := by unfold dI at hf; omega
       exact (Int.le_ediv_iff_mul_le (by unfold lI; omega)).2 h9
     rw [hfi] at h2
     omega
def onceBy : Nat → Bool := fun d => d != 30 && d != 31
theorem desc_Bytes (k r c w len dep : Int) (v : AV) (l : List RefI) (hv : RefsV v l) (hn : l.length ≤ 1000000000) : FSpec Tryz.prog 109 [parV k r c w, .agg [intV len, intV dep, v]] ⟨descBV k r c w len dep l, []⟩ := by
 refine fspec_fzT ?_
 have h1 := desc_Check k r c w len dep v l hv hn
 unfold descBV
 by_cases hc : chkD k r c w len dep l = 0
 · rw [if_pos hc]
   rw [hc] at h1
   obtain ⟨hlen0, hlen1, hdep, hll, hlr⟩ := desc_bounds hc
   obtain ⟨hm, _⟩ := desc_fit hc
   have hw := may_w hm
   have hdb := d_bounds hw.1 hw.2
   have hl126 : l.length ≤ 126 := by unfold dI at hll; omega
   have ho0 : Own Mem.empty 5 1 nilS ([] : List AV).length [] := own_nil
   have t1 := desc_told Mem.empty nilS [] len 4 ho0 hlen0 (by omega) (by omega) (by simp)
   have o1 := growB_own (bytesA (numB len 4)) _ _ _ ho0
   rw [← List.length_append] at o1
   have t2 := desc_told _ _ _ dep 1 o1 (by omega) (by omega) (by omega) (by rw [List.length_append, bytesA_len, numB_len]; simp)
   have o2 := growB_own (bytesA (numB dep 1)) _ _ _ o1
   rw [← List.length_append] at o2
   have t3 := desc_told _ _ _ (l.length : Nat) 2 o2 (by omega) (by omega) (by omega) (by rw [List.length_append, List.length_append, bytesA_len, numB_len, bytesA_len, numB_len]; simp)
   have o3 := growB_own (bytesA (numB (l.length : Nat) 2)) _ _ _ o2
   rw [← List.length_append] at o3
   have t4 := desc_add _ _ _ v l hv o3 (fun x hx => by have := hlr x hx; have := mayB_of.1 hm; omega) (by omega) (by rw [List.length_append, List.length_append, List.length_append, bytesA_len, numB_len, bytesA_len, numB_len, bytesA_len, numB_len]; simp)
   have o4 := addG_own l _ _ _ o3
   have hcs : (([] : List AV) ++ bytesA (numB len 4) ++ bytesA (numB dep 1) ++ bytesA (numB (l.length : Nat) 2)) ++ bytesA (refsB l) = bytesA (headB len dep l.length ++ refsB l) := by
     unfold headB
     simp only [bytesA_append, List.nil_append, List.append_assoc]
   have hcl : (([] : List AV) ++ bytesA (numB len 4) ++ bytesA (numB dep 1) ++ bytesA (numB (l.length : Nat) 2)).length + (refsB l).length = (headB len dep l.length ++ refsB l).length := by
     unfold headB
     simp [bytesA_len, numB_len]
     omega
   rw [hcs, hcl] at o4
   have hfit : (headB len dep l.length ++ refsB l).length ≤ (wI k c).toNat := by
     unfold headB
     simp only [List.length_append, numB_len, refsB_len]
     unfold dI at hll
     unfold wI
     omega
   have t5 := desc_wide k r c w hm _ _ _ o4 hfit
   obtain ⟨x, hv⟩ := hv
   have f1 := rd_fz hv
   have q1 := rd_one hv
   have hp := hv.plain
   replace hlr := Hid.mk hlr
   replace hfit := Hid.mk hfit
   replace o4 := Hid.mk o4
   replace hcs := Hid.mk hcs
   replace hcl := Hid.mk hcl
   replace o1 := Hid.mk o1
   replace o2 := Hid.mk o2
   replace o3 := Hid.mk o3
   generalize growB 5 Mem.empty nilS [] (bytesA (numB len 4)) = G1 at *
   generalize growB 5 G1.1 G1.2 ([] ++ bytesA (numB len 4)) (bytesA (numB dep 1)) = G2 at *
   generalize growB 5 G2.1 G2.2 ([] ++ bytesA (numB len 4) ++ bytesA (numB dep 1)) (bytesA (numB (l.length : Nat) 2)) = G3 at *
   generalize addG G3.1 G3.2 ([] ++ bytesA (numB len 4) ++ bytesA (numB dep 1) ++ bytesA (numB (l.length : Nat) 2)) l = G4 at *
   have n4 : (((4 : Nat) : Nat) : Int) = 4 := rfl
   have n1 : (((1 : Nat) : Nat) : Int) = 1 := rfl
   have n2 : (((2 : Nat) : Nat) : Int) = 2 := rfl
   rw [n4] at t1
   rw [n1] at t2
   rw [n2] at t3
   simp only [intV, nilS] at t1 t2 t3 t4 t5
   refine ospec_of_body follows Tryz.func109 (by unfold Tryz.f109; rfl) (by unfold Tryz.f109; simp) onceBy (by unfold Tryz.f109; simp) (by kernel_rfl) ?_; unfold Tryz.f109
   simp only [↓pre, simprocAttr, parV, sx, tys109, onceBy, bne, postU, f1, q1, sr]
   (first | refine call_plain (h1) (by first | rfl | simp only [parV, plQ, *]) ?_ | refine call_pure (h1) (by first | rfl | simp only [parV, plQ, *]) (by intro k; first | rfl | simp only [sq, sr, *]) ?_); simp only [↓pre, simprocAttr, parV, sx, tys109, onceBy, bne, postU, f1, q1, sr]
   refine call_det t1 ?_
   simp only [↓pre, simprocAttr, parV, sx, tys109, onceBy, bne, postU, f1, q1, sr]
   refine call_det t2 ?_
   simp only [↓pre, simprocAttr, parV, sx, tys109, onceBy, bne, postU, f1, q1, hv.len', sr]
   refine call_det t3 ?_
   simp only [↓pre, simprocAttr, parV, sx, tys109, onceBy, bne, postU, f1, q1, sr]
   refine call_det t4 ?_
   refine contW_fixed (by kernel_rfl) ?_
   simp only [↓pre, simprocAttr, parV, sx, tys109, onceBy, bne, postU, f1, q1, sr]
   refine call_det t5 ?_
   refine contW_fixed (by kernel_rfl) ?_
   simp only [↓pre, simprocAttr, parV, sx, tys109, onceBy, bne, postU, f1, q1, sr]
   refine ⟨0, ?_⟩
   rw [fzT_tup, fzTs_cons, fzT_flat (by rw [push_at, if_pos rfl]), Option.bind_some, fzTs_cons, fzT_val, fzTs_nil, List.drop_zero]
   rfl
 · rw [if_neg hc]
   obtain ⟨x, hv⟩ := hv
   have f1 := rd_fz hv
   have q1 := rd_one hv
   have hp := hv.plain
   have hf := fun m => fzId_two (fzId_val (.slice none 0 0)) (fzId_val (.int .i64 (chkD k r c w len dep l))) 1 m
   replace hf := Hid.mk hf
   refine ospec_of_body follows Tryz.func109 (by unfold Tryz.f109; rfl) (by unfold Tryz.f109; simp) onceA (by unfold Tryz.f109; simp) (by kernel_rfl) ?_; unfold Tryz.f109
   simp only [↓pre, simprocAttr, parV, sx, tys109, onceA, postU, f1, q1]
   (first | refine call_plain (h1) (by first | rfl | simp only [parV, plQ, *]) ?_ | refine call_pure (h1) (by first | rfl | simp only [parV, plQ, *]) (by intro k; first | rfl | simp only [sq, sr, *]) ?_); simp only [↓pre, simprocAttr, parV, sx, tys109, onceA, postU, hc, nilS]
   exact ⟨1, hf.out _⟩
theorem desc_number (v : AV) (n : Nat) (bs : List UInt8) (x : List AV) (hv : RdSl v n (bytesA bs ++ x)) (hn : n ≤ bs.length) (hn4 : n ≤ 4) : FSpec Tryz.prog 167 [v] ⟨intV (beN (bs.take n) : Nat), []⟩ := by
 have hp := hv.plain
 refine fspec_of_body follows Tryz.func167 (by unfold Tryz.f167; rfl) (by unfold Tryz.f167; simp) onceA (by unfold Tryz.f167; simp) (by kernel_rfl) ?_; unfold Tryz.f167
 simp only [↓pre, simprocAttr, parV, sx, tys167, onceA, postU, postV, postX, hv.len']
 rw [codeW_loop]
 refine loop_intro (fun q e m => ∃ i, q + i = n ∧ e 6 = v ∧ e 7 = intV (n : Nat) ∧ e 8 = intV (i : Nat) ∧ e 3 = intV (beN (bs.take i) : Nat)) n ⟨0, by omega, rfl, rfl, rfl, by simp [Env.set, intV, beN]⟩ ?_
 rintro q e m ⟨i, hi, e6, e7, e8, e3⟩
 replace hi := Hid.mk hi
 by_cases hlt : i < n
 · have hlt' : ((i : Nat) : Int) < ((n : Nat) : Int) := by omega
   obtain ⟨a, ha⟩ : ∃ a, bs[i]? = some a := ⟨_, List.getElem?_eq_getElem (by omega)⟩
   have a1 := byte_at (x := x) ha
   have a2 := be_take ha
   have hle := be_le i bs
   have ha256 := a.toNat_lt
   have w1 := wrap_succ (n := i) (by omega)
   have hpow : 256 ^ i ≤ 256 ^ 3 := Nat.pow_le_pow_right (by decide) (by omega)
   have h3 : 256 ^ 3 = 16777216 := by decide
   have w5 : IntKind.i64.wrap (a.toNat : Int) = (a.toNat : Int) := wrap_nat (by omega)
   have w7 : IntKind.i64.wrap (((beN (bs.take i) : Nat) : Int) * 2 ^ min 8 IntKind.i64.bits) = ((beN (bs.take i) * 256 : Nat) : Int) := by
     rw [show (((beN (bs.take i) : Nat) : Int) * 2 ^ min 8 IntKind.i64.bits) = ((beN (bs.take i) * 256 : Nat) : Int) by simp [IntKind.bits]]
     exact wrap_nat (by omega)
   have w8 : borI .i64 ((beN (bs.take i) * 256 : Nat) : Int) (a.toNat : Int) = ((beN (bs.take i) * 256 + a.toNat : Nat) : Int) := by
     rw [borI_i64 (by omega) (by omega), or_add (by omega)]
   replace hle := Hid.mk hle
   replace hpow := Hid.mk hpow
   replace ha256 := Hid.mk ha256
   replace a2 := Hid.mk a2
   simp only [↓pre, simprocAttr, parV, sx, tys167, onceA, postU, postV, postX, e6, e7, e8, e3, hlt', hv.addr', hlt, Nat.mul_one, a1, w1, w5, cond_t, cond_f]
   exact ⟨q - 1, by have := hi.out; omega, i + 1, by have := hi.out; omega, rfl, by rw [w7, w8, a2.out]⟩
 · have hlt' : ¬ ((i : Nat) : Int) < ((n : Nat) : Int) := by omega
   have hi4 : i = n := by have := hi.out; omega
   subst hi4
   simp only [↓pre, simprocAttr, parV, sx, tys167, onceA, postU, e6, e7, e8, e3, hlt', cond_t, cond_f]
def refAt (bs : List UInt8) (i : Nat) : RefI := ((beN ((bs.drop (6 * i)).take 2) : Nat), (beN ((bs.drop (6 * i + 2)).take 4) : Nat))
def refsOf (bs : List UInt8) (n : Nat) : List RefI := (List.range n).map (refAt bs)
theorem refsOf_len (bs : List UInt8) (n : Nat) : (refsOf bs n).length = n := by simp [refsOf]
theorem refsOf_succ (bs : List UInt8) (n : Nat) : refsOf bs (n + 1) = refsOf bs n ++ [refAt bs n] := by unfold refsOf; rw [List.range_succ, List.map_append]; rfl
theorem desc_read (v : AV) (bs : List UInt8) (x : List AV) (n : Nat) (hv : RdSl v bs.length (bytesA bs ++ x)) (hn : 6 * n ≤ bs.length) (hb : bs.length ≤ 100000) : FSpec Tryz.prog 168 [v, intV (n : Nat)] ⟨treeR n (refsA (refsOf bs n)), []⟩ := by
 refine fspec_fzT ?_
 have nt2 : natOf (.val (.int .i64 2)) = some 2 := rfl
 have nt6 : natOf (.val (.int .i64 6)) = some 6 := rfl
 refine ospec_of_body follows Tryz.func168 (by unfold Tryz.f168; rfl) (by unfold Tryz.f168; simp) onceA (by unfold Tryz.f168; simp) (by kernel_rfl) ?_; unfold Tryz.f168
 simp only [↓pre, simprocAttr, parV, sx, tys168, onceA, postU, postV, optNat, Option.map_none, Option.map_some, nt2, nt6, sr]
 rw [codeW_loop]
 refine loop_intro (fun q e m => ∃ i u, q + i = n ∧ e 0 = u ∧ e 6 = intV (n : Nat) ∧ e 7 = intV (i : Nat) ∧ RdSl u (bs.drop (6 * i)).length (bytesA (bs.drop (6 * i)) ++ x) ∧ Hid (Own m 67 2 (e 5) i (refsA (refsOf bs i)))) n ⟨0, v, by omega, rfl, rfl, rfl, by simpa using hv, ⟨own_nil⟩⟩ ?_
 rintro q e m ⟨i, u, hq, e0, e6, e7, hu, hJ⟩
 replace hq := Hid.mk hq
 generalize hv0 : e 5 = v0 at *
 by_cases hlt : i < n
 · have hlt' : ((i : Nat) : Int) < ((n : Nat) : Int) := by omega
   have w1 := wrap_succ (n := i) (by omega)
   have hdl : (bs.drop (6 * i)).length = bs.length - 6 * i := List.length_drop
   obtain ⟨v1, s1, r1⟩ := hu.slice (P := Tryz.prog) (t := 52) (sz := 1) (lo := none) (hi := some 2) (by kernel_rfl) (by simp) (by simp only [Option.getD_some]; omega)
   obtain ⟨v2, s2, r2⟩ := hu.slice (P := Tryz.prog) (t := 52) (sz := 1) (lo := some 2) (hi := some 6) (by kernel_rfl) (by simp) (by simp only [Option.getD_some]; omega)
   obtain ⟨v3, s3, r3⟩ := hu.slice (P := Tryz.prog) (t := 52) (sz := 1) (lo := some 6) (hi := none) (by kernel_rfl) (by simp only [Option.getD_some, Option.getD_none]; omega) (by simp)
   simp only [Option.getD_some, Option.getD_none, Nat.mul_one, Nat.sub_zero, List.drop_zero] at r1 r2 r3
   rw [bytesA_drop _ x 2 (by omega), List.drop_drop] at r2
   rw [bytesA_drop _ x 6 (by omega), List.drop_drop, show (bs.drop (6 * i)).length - 6 = (bs.drop (6 * i + 6)).length by rw [List.length_drop, List.length_drop]; omega] at r3
   have c1 := desc_number v1 2 (bs.drop (6 * i)) x r1 (by omega) (by omega)
   have c2 := desc_number v2 4 (bs.drop (6 * i + 2)) x r2 (by rw [List.length_drop]; omega) (by omega)
   have hpu := hu.slOk (P := Tryz.prog) (m := m) (t := 52)
   have pl1 := r1.plain
   have pl2 := r2.plain
   have hso := refsOf_succ bs i
   have href : refAt bs i = (((beN ((bs.drop (6 * i)).take 2) : Nat) : Int), ((beN ((bs.drop (6 * i + 2)).take 4) : Nat) : Int)) := rfl
   generalize beN ((bs.drop (6 * i)).take 2) = b1 at *
   generalize beN ((bs.drop (6 * i + 2)).take 4) = b2 at *
   replace hso := Hid.mk hso
   replace href := Hid.mk href
   replace r1 := Hid.mk r1
   replace r2 := Hid.mk r2
   replace r3 := Hid.mk r3
   replace hdl := Hid.mk hdl
   have hbt : ∀ m, buildTreeE Tryz.prog m 31 1 [(0, .agg [.val (.int .i64 (b1 : Nat)), .val (.int .i64 (b2 : Nat))])] = some ⟨.tree 1 1 [.val (.int .i64 (b1 : Nat)), .val (.int .i64 (b2 : Nat))] true, m, none⟩ := fun m => buildT1a rfl rfl (by kernel_rfl) (by kernel_rfl)
   simp only [↓pre, simprocAttr, parV, sx, tys168, onceA, postU, postV, optNat, Option.map_none, Option.map_some, nt2, nt6, hv0, e0, e6, e7, hlt', hu.slOk, hu.sliceX, s1, s2, sr]
   (first | refine call_plain (c1) (by first | rfl | simp only [parV, plQ, *]) ?_ | refine call_pure (c1) (by first | rfl | simp only [parV, plQ, *]) (by intro k; first | rfl | simp only [sq, sr, *]) ?_); simp only [↓pre, simprocAttr, parV, sx, tys168, onceA, postU, postV, optNat, Option.map_none, Option.map_some, nt2, nt6, hv0, e0, e6, e7, hu.slOk, hu.sliceX, s1, s2, hbt, sr]; (first | refine call_plain (c2) (by first | rfl | simp only [parV, plQ, *]) ?_ | refine call_pure (c2) (by first | rfl | simp only [parV, plQ, *]) (by intro k; first | rfl | simp only [sq, sr, *]) ?_); simp only [↓pre, simprocAttr, parV, sx, tys168, onceA, postU, postV, optNat, Option.map_none, Option.map_some, nt2, nt6, hv0, e0, e6, e7, hu.slOk, hu.sliceX, s1, s2, hbt, sr]
   refine app_rule (sz := 2) (y := 16) (zl := [.int .i64 0, .int .i64 0]) (by kernel_rfl) hJ.out (by kernel_rfl) (by kernel_rfl) (by kernel_rfl) rfl srcT1a rfl (by omega) (by omega) ?_
   intro lv' m' ho' hn'
   refine contW_fixed (by kernel_rfl) ?_
   simp only [↓pre, simprocAttr, parV, sx, tys168, onceA, postU, postV, optNat, Option.map_none, Option.map_some, nt2, nt6, hv0, e0, e6, e7, hu.slOk, hu.sliceX, s3, w1, sr]
   refine ⟨q - 1, by have := hq.out; omega, i + 1, v3, by have := hq.out; omega, rfl, rfl, by rw [show 6 * (i + 1) = 6 * i + 6 by omega]; exact r3.out, ⟨?_⟩⟩
   rw [hso.out, refsA_append, href.out]
   exact ho'
 · have hlt' : ¬ ((i : Nat) : Int) < ((n : Nat) : Int) := by omega
   have hi : i = n := by have := hq.out; omega
   subst hi
   simp only [↓pre, simprocAttr, parV, sx, tys168, onceA, postU, postV, optNat, Option.map_none, Option.map_some, nt2, nt6, hv0, e0, e6, e7, hlt', sr]
   exact ⟨0, own_fzT hJ.out 0⟩
theorem desc_sized (k r c w : Int) (v : AV) (n : Nat) (cs : List AV) (hv : RdSl v n cs) : FSpec Tryz.prog 166 [parV k r c w, v] ⟨intV (if mayB k r c w = true then (if (n : Int) = wI k c then 0 else 20) else 2), []⟩ := by
 have h1 := layout_Width k r c w
 have hp := hv.plain
 cases hm : mayB k r c w with
 | false =>
   simp only [hm, Bool.false_eq_true, if_false] at h1 ⊢
   refine fspec_of_body follows Tryz.func166 (by unfold Tryz.f166; rfl) (by unfold Tryz.f166; simp) onceA (by unfold Tryz.f166; simp) (by kernel_rfl) ?_; unfold Tryz.f166
   simp only [↓pre, simprocAttr, parV, sx, tys166, onceA, postU, pick_t, pick_f]
   (first | refine call_plain (h1) (by first | rfl | simp only [parV, plQ, *]) ?_ | refine call_pure (h1) (by first | rfl | simp only [parV, plQ, *]) (by intro k; first | rfl | simp only [sq, sr, *]) ?_); simp only [↓pre, simprocAttr, parV, sx, tys166, onceA, postU, sr]
 | true =>
   simp only [hm, if_true] at h1 ⊢
   by_cases hl : (n : Int) = wI k c
   · rw [if_pos hl]
     refine fspec_of_body follows Tryz.func166 (by unfold Tryz.f166; rfl) (by unfold Tryz.f166; simp) onceA (by unfold Tryz.f166; simp) (by kernel_rfl) ?_; unfold Tryz.f166
     simp only [↓pre, simprocAttr, parV, sx, tys166, onceA, postU, pick_t, pick_f]
     (first | refine call_plain (h1) (by first | rfl | simp only [parV, plQ, *]) ?_ | refine call_pure (h1) (by first | rfl | simp only [parV, plQ, *]) (by intro k; first | rfl | simp only [sq, sr, *]) ?_); simp only [↓pre, simprocAttr, parV, sx, tys166, onceA, postU, hv.len', hl, sr]
   · rw [if_neg hl]
     refine fspec_of_body follows Tryz.func166 (by unfold Tryz.f166; rfl) (by unfold Tryz.f166; simp) onceA (by unfold Tryz.f166; simp) (by kernel_rfl) ?_; unfold Tryz.f166
     simp only [↓pre, simprocAttr, parV, sx, tys166, onceA, postU, pick_t, pick_f]
     (first | refine call_plain (h1) (by first | rfl | simp only [parV, plQ, *]) ?_ | refine call_pure (h1) (by first | rfl | simp only [parV, plQ, *]) (by intro k; first | rfl | simp only [sq, sr, *]) ?_); simp only [↓pre, simprocAttr, parV, sx, tys166, onceA, postU, hv.len', hl, sr]
def eqB (a b : List UInt8) : Bool := decide ((⟨a.toArray⟩ : ByteArray) = ⟨b.toArray⟩)
theorem eqB_iff (a b : List UInt8) : eqB a b = decide (a = b) := by
 unfold eqB
 by_cases h : a = b
 · subst h; simp
 · rw [decide_eq_false h, decide_eq_false]
   intro h2
   apply h
   have := congrArg (fun x : ByteArray => x.data.toList) h2
   simpa using this
theorem bytes_Equal (u v : AV) (a b : List UInt8) (x y : List AV) (hu : RdSl u a.length (bytesA a ++ x)) (hv : RdSl v b.length (bytesA b ++ y)) : FSpec Tryz.prog 169 [u, v] ⟨boolV (decide (a = b)), []⟩ := by
 rw [← eqB_iff]
 have s1 := fun (d c : Bool) (m : Mem) => rd_strX (d := d) (c := c) (m := m) hu
 have s2 := fun (d c : Bool) (m : Mem) => rd_strX (d := d) (c := c) (m := m) hv
 refine fspec_of_body follows Tryz.func169 (by unfold Tryz.f169; rfl) (by unfold Tryz.f169; simp) onceA (by unfold Tryz.f169; simp) (by kernel_rfl) ?_; unfold Tryz.f169
 simp only [↓pre, simprocAttr, parV, sx, tys169, onceA, postU, s1, s2, strB]
 rfl
def pN (bs : List UInt8) : Nat := beN ((bs.drop 5).take 2)
def pLen (bs : List UInt8) : Int := (beN (bs.take 4) : Nat)
def pDep (bs : List UInt8) : Int := (beN ((bs.drop 4).take 1) : Nat)
def pRefs (bs : List UInt8) : List RefI := refsOf (bs.drop 7) (pN bs)
def parseOk (k r c w : Int) (bs : List UInt8) : Bool := decide (7 + 6 * pN bs ≤ bs.length) && (decide (chkD k r c w (pLen bs) (pDep bs) (pRefs bs) = 0) && decide (madeB k c (pLen bs) (pDep bs) (pRefs bs) = bs))
def parseE (k r c w : Int) (bs : List UInt8) : Int := if mayB k r c w = true then (if (bs.length : Int) = wI k c then (if parseOk k r c w bs = true then 0 else 150) else 20) else 2
def descA (len dep : Int) (l : List RefI) : AV := .agg [intV len, intV dep, treeR l.length (refsA l)]
def desc0 : AV := .agg [intV 0, intV 0, nilS]
def parseD (k r c w : Int) (bs : List UInt8) : AV := if parseE k r c w bs = 0 then descA (pLen bs) (pDep bs) (pRefs bs) else desc0
theorem desc0_id (e : Int) (k : Nat) (m : Mem) : fzT k m (.tup [desc0, intV e]) = some (.tup [desc0, intV e]) := fzId_two (fzId_agg fun c hc => by
 simp only [List.mem_cons, List.not_mem_nil, or_false] at hc
 rcases hc with rfl | rfl | rfl <;> exact fzId_val _) (fzId_val _) k m
theorem descA_id (len dep : Int) (l : List RefI) : fzId (descA len dep l) := fzId_agg fun c hc => by
 simp only [List.mem_cons, List.not_mem_nil, or_false] at hc
 rcases hc with rfl | rfl | rfl
 · exact fzId_val _
 · exact fzId_val _
 · exact fzId_rd (treeR_rd _ _)
theorem treeR_cells {n : Nat} {cs : List AV} : (treeR n cs).cells = [treeR n cs] := by unfold treeR; split <;> rfl
theorem treeR_ok {n : Nat} {cs : List AV} : okA (treeR n cs) = true := by unfold treeR; split <;> rfl
theorem treeR_fz {n : Nat} {cs : List AV} {m : Mem} : fz m (treeR n cs) = some (treeR n cs, m) := rd_fz (treeR_rd _ _) m
theorem treeR_one {n : Nat} {cs : List AV} : oneA (treeR n cs) = true := rd_one (treeR_rd _ _)
def oncePa : Nat → Bool := fun d => d != 4 && d != 7
theorem desc_Parse (k r c w : Int) (v : AV) (bs : List UInt8) (x : List AV) (hv : RdSl v bs.length (bytesA bs ++ x)) : FSpec Tryz.prog 92 [parV k r c w, v] ⟨.tup [parseD k r c w bs, intV (parseE k r c w bs)], []⟩ := by
 refine fspec_fzT ?_
 have hp := hv.plain
 have h1 := desc_sized k r c w v bs.length _ hv
 have hfz : ∀ E, parseE k r c w bs = E → E ≠ 0 → ∀ m, fzT 0 m (.tup [.agg [.val (.int .i64 0), .val (.int .i64 0), .val (.slice none 0 0)], .val (.int .i64 E)]) = some (.tup [parseD k r c w bs, intV E]) := fun E hE h0 m => by
   unfold parseD
   rw [hE, if_neg h0]
   exact desc0_id E 0 m
 by_cases hg : mayB k r c w = true ∧ (bs.length : Int) = wI k c
 · obtain ⟨hm, hl⟩ := hg
   rw [if_pos hm, if_pos hl] at h1
   have hw := may_w hm
   have hbl : bs.length ≤ 768 ∧ 32 ≤ bs.length := by unfold wI at hl; omega
   have hE : parseE k r c w bs = if parseOk k r c w bs = true then 0 else 150 := by unfold parseE; rw [if_pos hm, if_pos hl]
   obtain ⟨v1, s1, r1⟩ := hv.slice (P := Tryz.prog) (t := 52) (sz := 1) (lo := none) (hi := some 4) (by kernel_rfl) (by simp) (by simp only [Option.getD_some]; omega)
   obtain ⟨v2, s2, r2⟩ := hv.slice (P := Tryz.prog) (t := 52) (sz := 1) (lo := some 4) (hi := some 5) (by kernel_rfl) (by simp) (by simp only [Option.getD_some]; omega)
   obtain ⟨v3, s3, r3⟩ := hv.slice (P := Tryz.prog) (t := 52) (sz := 1) (lo := some 5) (hi := some 7) (by kernel_rfl) (by simp) (by simp only [Option.getD_some]; omega)
   obtain ⟨v4, s4, r4⟩ := hv.slice (P := Tryz.prog) (t := 52) (sz := 1) (lo := some 7) (hi := none) (by kernel_rfl) (by simp only [Option.getD_some, Option.getD_none]; omega) (by simp)
   simp only [Option.getD_some, Option.getD_none, Nat.mul_one, Nat.sub_zero, List.drop_zero] at r1 r2 r3 r4
   rw [bytesA_drop _ x 4 (by omega)] at r2
   rw [bytesA_drop _ x 5 (by omega)] at r3
   rw [bytesA_drop _ x 7 (by omega), ← List.length_drop] at r4
   have c1 := desc_number v1 4 bs x r1 (by omega) (by omega)
   have c2 := desc_number v2 1 (bs.drop 4) x r2 (by rw [List.length_drop]; omega) (by omega)
   have c3 := desc_number v3 2 (bs.drop 5) x r3 (by rw [List.length_drop]; omega) (by omega)
   have pl1 := r1.plain
   have pl2 := r2.plain
   have pl3 := r3.plain
   have pl4 := r4.plain
   have hn2 : pN bs < 65536 := be_le 2 (bs.drop 5)
   rw [show beN ((bs.drop 5).take 2) = pN bs from rfl] at c3
   rw [show ((beN (bs.take 4) : Nat) : Int) = pLen bs from rfl] at c1
   rw [show ((beN ((bs.drop 4).take 1) : Nat) : Int) = pDep bs from rfl] at c2
   have n4 : natOf (.val (.int .i64 4)) = some 4 := rfl
   have n5 : natOf (.val (.int .i64 5)) = some 5 := rfl
   have n7 : natOf (.val (.int .i64 7)) = some 7 := rfl
   have w1 : IntKind.i64.wrap (6 * ((pN bs : Nat) : Int)) = ((6 * pN bs : Nat) : Int) := by rw [show 6 * ((pN bs : Nat) : Int) = ((6 * pN bs : Nat) : Int) by simp]; exact wrap_nat (by omega)
   have w2 : IntKind.i64.wrap (7 + ((6 * pN bs : Nat) : Int)) = ((7 + 6 * pN bs : Nat) : Int) := by rw [show 7 + ((6 * pN bs : Nat) : Int) = ((7 + 6 * pN bs : Nat) : Int) by simp]; exact wrap_nat (by omega)
   have hso := fun m => hv.slOk (P := Tryz.prog) (m := m) (t := 52)
   have hsx := fun d c m lo hi mx => hv.sliceX (P := Tryz.prog) (m := m) (t := 52) (d := d) (c := c) (lo := lo) (hi := hi) (mx := mx)
   by_cases hfit : 7 + 6 * pN bs ≤ bs.length
   · have hfit' : ¬ ((bs.length : Nat) : Int) < ((7 + 6 * pN bs : Nat) : Int) := by omega
     have c4 := desc_read v4 (bs.drop 7) x (pN bs) r4 (by rw [List.length_drop]; omega) (by rw [List.length_drop]; omega)
     rw [show refsOf (bs.drop 7) (pN bs) = pRefs bs from rfl] at c4
     have hpl : (pRefs bs).length = pN bs := refsOf_len _ _
     have c5 := desc_Bytes k r c w (pLen bs) (pDep bs) (treeR (pN bs) (refsA (pRefs bs))) (pRefs bs) ⟨[], by rw [List.append_nil, hpl]; exact treeR_rd _ _⟩ (by omega)
     have q1 := rd_one (treeR_rd (pN bs) (refsA (pRefs bs)))
     have pt := (treeR_rd (pN bs) (refsA (pRefs bs))).plain
     have hTRf : treeR (pN bs) (refsA (pRefs bs)) = .val (.slice none 0 0) ∨ treeR (pN bs) (refsA (pRefs bs)) = .tree (pN bs) (pN bs) (refsA (pRefs bs)) false := by unfold treeR; split; exact .inl rfl; exact .inr rfl
     unfold descBV at c5
     have hok : parseOk k r c w bs = (decide (chkD k r c w (pLen bs) (pDep bs) (pRefs bs) = 0) && decide (madeB k c (pLen bs) (pDep bs) (pRefs bs) = bs)) := by unfold parseOk; rw [decide_eq_true hfit]; rfl
     by_cases hck : chkD k r c w (pLen bs) (pDep bs) (pRefs bs) = 0
     · rw [if_pos hck] at c5
       rw [decide_eq_true hck, Bool.true_and] at hok
       have hml : (madeB k c (pLen bs) (pDep bs) (pRefs bs)).length = (wI k c).toNat := by
         unfold madeB
         refine padB_len ?_
         obtain ⟨_, _, _, hll, _⟩ := desc_bounds hck
         unfold headB
         simp only [List.length_append, numB_len, refsB_len]
         unfold dI at hll
         unfold wI
         omega
       have c6 := bytes_Equal (.tree (wI k c).toNat (wI k c).toNat (bytesA (madeB k c (pLen bs) (pDep bs) (pRefs bs))) true) v (madeB k c (pLen bs) (pDep bs) (pRefs bs)) bs [] x ⟨.inr (.inr ⟨_, true, by rw [hml, List.append_nil], by rw [hml]; exact Nat.le_refl _⟩)⟩ hv
       have hfin : parseOk k r c w bs = true → ∀ m, fzT 0 m (.tup [.agg [.val (.int .i64 (pLen bs)), .val (.int .i64 (pDep bs)), treeR (pN bs) (refsA (pRefs bs))], .val (.int .i64 0)]) = some (.tup [parseD k r c w bs, intV 0]) := fun h m => by
         have := fzId_two (descA_id (pLen bs) (pDep bs) (pRefs bs)) (fzId_val (.int .i64 0)) 0 m
         unfold parseD
         rw [hE, h, if_pos rfl, if_pos rfl]
         unfold descA at this ⊢
         rw [hpl] at this ⊢
         exact this
       by_cases heq : madeB k c (pLen bs) (pDep bs) (pRefs bs) = bs
       · rw [decide_eq_true heq] at hok c6
         rw [hok, if_pos rfl] at hE
         rw [hE]
         replace hfin := Hid.mk (hfin hok)
         replace hok := Hid.mk hok
         replace hE := Hid.mk hE
         replace hck := Hid.mk hck
         replace heq := Hid.mk heq
         replace hfz := Hid.mk hfz
         replace hfit := Hid.mk hfit
         replace hpl := Hid.mk hpl
         generalize madeB k c (pLen bs) (pDep bs) (pRefs bs) = MB at *
         rcases hTRf with hT | hT
         all_goals rw [hT] at c4 c5 hfin
         all_goals clear q1 pt
         all_goals replace hT := Hid.mk hT
         all_goals (
           refine ospec_of_body follows Tryz.func92 (by unfold Tryz.f92; rfl) (by unfold Tryz.f92; simp) oncePa (by unfold Tryz.f92; simp) (by kernel_rfl) ?_; unfold Tryz.f92
           simp only [↓pre, simprocAttr, parV, sx, tys92, oncePa, bne, postU, postFz, optNat, Option.map_none, Option.map_some, storeE, allocE, put_at, push_at, me0, Nat.one_ne_zero, Nat.zero_ne_one, ↓treeR_cells, ↓treeR_ok, ↓treeR_fz, ↓treeR_one, n4, n5, n7, hso, hsx, s1, s2, s3, s4, sr]
           (first | refine call_plain (h1) (by first | rfl | simp only [parV, plQ, *]) ?_ | refine call_pure (h1) (by first | rfl | simp only [parV, plQ, *]) (by intro k; first | rfl | simp only [sq, sr, *]) ?_); simp only [↓pre, simprocAttr, parV, sx, tys92, oncePa, bne, postU, postFz, optNat, Option.map_none, Option.map_some, storeE, allocE, put_at, push_at, me0, Nat.one_ne_zero, Nat.zero_ne_one, ↓treeR_cells, ↓treeR_ok, ↓treeR_fz, ↓treeR_one, n4, n5, n7, hso, hsx, s1, s2, s3, s4, sr]; (first | refine call_plain (c1) (by first | rfl | simp only [parV, plQ, *]) ?_ | refine call_pure (c1) (by first | rfl | simp only [parV, plQ, *]) (by intro k; first | rfl | simp only [sq, sr, *]) ?_); simp only [↓pre, simprocAttr, parV, sx, tys92, oncePa, bne, postU, postFz, optNat, Option.map_none, Option.map_some, storeE, allocE, put_at, push_at, me0, Nat.one_ne_zero, Nat.zero_ne_one, ↓treeR_cells, ↓treeR_ok, ↓treeR_fz, ↓treeR_one, n4, n5, n7, hso, hsx, s1, s2, s3, s4, sr]; (first | refine call_plain (c2) (by first | rfl | simp only [parV, plQ, *]) ?_ | refine call_pure (c2) (by first | rfl | simp only [parV, plQ, *]) (by intro k; first | rfl | simp only [sq, sr, *]) ?_); simp only [↓pre, simprocAttr, parV, sx, tys92, oncePa, bne, postU, postFz, optNat, Option.map_none, Option.map_some, storeE, allocE, put_at, push_at, me0, Nat.one_ne_zero, Nat.zero_ne_one, ↓treeR_cells, ↓treeR_ok, ↓treeR_fz, ↓treeR_one, n4, n5, n7, hso, hsx, s1, s2, s3, s4, sr]
           refine contW_fixed (by kernel_rfl) ?_
           simp only [↓pre, simprocAttr, parV, sx, tys92, oncePa, bne, postU, postFz, optNat, Option.map_none, Option.map_some, storeE, allocE, put_at, push_at, me0, Nat.one_ne_zero, Nat.zero_ne_one, ↓treeR_cells, ↓treeR_ok, ↓treeR_fz, ↓treeR_one, n4, n5, n7, hso, hsx, s1, s2, s3, s4, sr]
           refine contW_fixed (by kernel_rfl) ?_
           simp only [↓pre, simprocAttr, parV, sx, tys92, oncePa, bne, postU, postFz, optNat, Option.map_none, Option.map_some, storeE, allocE, put_at, push_at, me0, Nat.one_ne_zero, Nat.zero_ne_one, ↓treeR_cells, ↓treeR_ok, ↓treeR_fz, ↓treeR_one, n4, n5, n7, hso, hsx, s1, s2, s3, s4, sr]
           (first | refine call_plain (c3) (by first | rfl | simp only [parV, plQ, *]) ?_ | refine call_pure (c3) (by first | rfl | simp only [parV, plQ, *]) (by intro k; first | rfl | simp only [sq, sr, *]) ?_); simp only [↓pre, simprocAttr, parV, sx, tys92, oncePa, bne, postU, postFz, optNat, Option.map_none, Option.map_some, storeE, allocE, put_at, push_at, me0, Nat.one_ne_zero, Nat.zero_ne_one, ↓treeR_cells, ↓treeR_ok, ↓treeR_fz, ↓treeR_one, n4, n5, n7, hso, hsx, s1, s2, s3, s4, w1, w2, hv.len', hfit', sr]; (first | refine call_plain (c4) (by first | rfl | simp only [parV, plQ, *]) ?_ | refine call_pure (c4) (by first | rfl | simp only [parV, plQ, *]) (by intro k; first | rfl | simp only [sq, sr, *]) ?_); simp only [↓pre, simprocAttr, parV, sx, tys92, oncePa, bne, postU, postFz, optNat, Option.map_none, Option.map_some, storeE, allocE, put_at, push_at, me0, Nat.one_ne_zero, Nat.zero_ne_one, ↓treeR_cells, ↓treeR_ok, ↓treeR_fz, ↓treeR_one, n4, n5, n7, hso, hsx, s1, s2, s3, s4, w1, w2, hv.len', hfit', sr]; (first | refine call_plain (c5) (by first | rfl | simp only [parV, plQ, *]) ?_ | refine call_pure (c5) (by first | rfl | simp only [parV, plQ, *]) (by intro k; first | rfl | simp only [sq, sr, *]) ?_); simp only [↓pre, simprocAttr, parV, sx, tys92, oncePa, bne, postU, postFz, optNat, Option.map_none, Option.map_some, storeE, allocE, put_at, push_at, me0, Nat.one_ne_zero, Nat.zero_ne_one, ↓treeR_cells, ↓treeR_ok, ↓treeR_fz, ↓treeR_one, n4, n5, n7, hso, hsx, s1, s2, s3, s4, w1, w2, hv.len', hfit', sr]; (first | refine call_plain (c6) (by first | rfl | simp only [parV, plQ, *]) ?_ | refine call_pure (c6) (by first | rfl | simp only [parV, plQ, *]) (by intro k; first | rfl | simp only [sq, sr, *]) ?_); simp only [↓pre, simprocAttr, parV, sx, tys92, oncePa, bne, postU, postFz, optNat, Option.map_none, Option.map_some, storeE, allocE, put_at, push_at, me0, Nat.one_ne_zero, Nat.zero_ne_one, ↓treeR_cells, ↓treeR_ok, ↓treeR_fz, ↓treeR_one, n4, n5, n7, hso, hsx, s1, s2, s3, s4, w1, w2, hv.len', hfit', sr]
           exact ⟨0, hfin.out _⟩
           )
       · rw [decide_eq_false heq] at hok c6
         rw [hok, if_neg (by decide)] at hE
         have hz := hfz 150 hE (by decide)
         rw [hE]
         replace hz := Hid.mk hz
         replace hok := Hid.mk hok
         replace hE := Hid.mk hE
         replace hck := Hid.mk hck
         replace heq := Hid.mk heq
         replace hfz := Hid.mk hfz
         replace hfin := Hid.mk hfin
         replace hfit := Hid.mk hfit
         replace hpl := Hid.mk hpl
         generalize madeB k c (pLen bs) (pDep bs) (pRefs bs) = MB at *
         rcases hTRf with hT | hT
         all_goals rw [hT] at c4 c5
         all_goals clear q1 pt
         all_goals replace hT := Hid.mk hT
         all_goals (
           refine ospec_of_body follows Tryz.func92 (by unfold Tryz.f92; rfl) (by unfold Tryz.f92; simp) oncePa (by unfold Tryz.f92; simp) (by kernel_rfl) ?_; unfold Tryz.f92
           simp only [↓pre, simprocAttr, parV, sx, tys92, oncePa, bne, postU, postFz, optNat, Option.map_none, Option.map_some, storeE, allocE, put_at, push_at, me0, Nat.one_ne_zero, Nat.zero_ne_one, ↓treeR_cells, ↓treeR_ok, ↓treeR_fz, ↓treeR_one, n4, n5, n7, hso, hsx, s1, s2, s3, s4, sr]
           (first | refine call_plain (h1) (by first | rfl | simp only [parV, plQ, *]) ?_ | refine call_pure (h1) (by first | rfl | simp only [parV, plQ, *]) (by intro k; first | rfl | simp only [sq, sr, *]) ?_); simp only [↓pre, simprocAttr, parV, sx, tys92, oncePa, bne, postU, postFz, optNat, Option.map_none, Option.map_some, storeE, allocE, put_at, push_at, me0, Nat.one_ne_zero, Nat.zero_ne_one, ↓treeR_cells, ↓treeR_ok, ↓treeR_fz, ↓treeR_one, n4, n5, n7, hso, hsx, s1, s2, s3, s4, sr]; (first | refine call_plain (c1) (by first | rfl | simp only [parV, plQ, *]) ?_ | refine call_pure (c1) (by first | rfl | simp only [parV, plQ, *]) (by intro k; first | rfl | simp only [sq, sr, *]) ?_); simp only [↓pre, simprocAttr, parV, sx, tys92, oncePa, bne, postU, postFz, optNat, Option.map_none, Option.map_some, storeE, allocE, put_at, push_at, me0, Nat.one_ne_zero, Nat.zero_ne_one, ↓treeR_cells, ↓treeR_ok, ↓treeR_fz, ↓treeR_one, n4, n5, n7, hso, hsx, s1, s2, s3, s4, sr]; (first | refine call_plain (c2) (by first | rfl | simp only [parV, plQ, *]) ?_ | refine call_pure (c2) (by first | rfl | simp only [parV, plQ, *]) (by intro k; first | rfl | simp only [sq, sr, *]) ?_); simp only [↓pre, simprocAttr, parV, sx, tys92, oncePa, bne, postU, postFz, optNat, Option.map_none, Option.map_some, storeE, allocE, put_at, push_at, me0, Nat.one_ne_zero, Nat.zero_ne_one, ↓treeR_cells, ↓treeR_ok, ↓treeR_fz, ↓treeR_one, n4, n5, n7, hso, hsx, s1, s2, s3, s4, sr]
           refine contW_fixed (by kernel_rfl) ?_
           simp only [↓pre, simprocAttr, parV, sx, tys92, oncePa, bne, postU, postFz, optNat, Option.map_none, Option.map_some, storeE, allocE, put_at, push_at, me0, Nat.one_ne_zero, Nat.zero_ne_one, ↓treeR_cells, ↓treeR_ok, ↓treeR_fz, ↓treeR_one, n4, n5, n7, hso, hsx, s1, s2, s3, s4, sr]
           refine contW_fixed (by kernel_rfl) ?_
           simp only [↓pre, simprocAttr, parV, sx, tys92, oncePa, bne, postU, postFz, optNat, Option.map_none, Option.map_some, storeE, allocE, put_at, push_at, me0, Nat.one_ne_zero, Nat.zero_ne_one, ↓treeR_cells, ↓treeR_ok, ↓treeR_fz, ↓treeR_one, n4, n5, n7, hso, hsx, s1, s2, s3, s4, sr]
           (first | refine call_plain (c3) (by first | rfl | simp only [parV, plQ, *]) ?_ | refine call_pure (c3) (by first | rfl | simp only [parV, plQ, *]) (by intro k; first | rfl | simp only [sq, sr, *]) ?_); simp only [↓pre, simprocAttr, parV, sx, tys92, oncePa, bne, postU, postFz, optNat, Option.map_none, Option.map_some, storeE, allocE, put_at, push_at, me0, Nat.one_ne_zero, Nat.zero_ne_one, ↓treeR_cells, ↓treeR_ok, ↓treeR_fz, ↓treeR_one, n4, n5, n7, hso, hsx, s1, s2, s3, s4, w1, w2, hv.len', hfit', sr]; (first | refine call_plain (c4) (by first | rfl | simp only [parV, plQ, *]) ?_ | refine call_pure (c4) (by first | rfl | simp only [parV, plQ, *]) (by intro k; first | rfl | simp only [sq, sr, *]) ?_); simp only [↓pre, simprocAttr, parV, sx, tys92, oncePa, bne, postU, postFz, optNat, Option.map_none, Option.map_some, storeE, allocE, put_at, push_at, me0, Nat.one_ne_zero, Nat.zero_ne_one, ↓treeR_cells, ↓treeR_ok, ↓treeR_fz, ↓treeR_one, n4, n5, n7, hso, hsx, s1, s2, s3, s4, w1, w2, hv.len', hfit', sr]; (first | refine call_plain (c5) (by first | rfl | simp only [parV, plQ, *]) ?_ | refine call_pure (c5) (by first | rfl | simp only [parV, plQ, *]) (by intro k; first | rfl | simp only [sq, sr, *]) ?_); simp only [↓pre, simprocAttr, parV, sx, tys92, oncePa, bne, postU, postFz, optNat, Option.map_none, Option.map_some, storeE, allocE, put_at, push_at, me0, Nat.one_ne_zero, Nat.zero_ne_one, ↓treeR_cells, ↓treeR_ok, ↓treeR_fz, ↓treeR_one, n4, n5, n7, hso, hsx, s1, s2, s3, s4, w1, w2, hv.len', hfit', sr]; (first | refine call_plain (c6) (by first | rfl | simp only [parV, plQ, *]) ?_ | refine call_pure (c6) (by first | rfl | simp only [parV, plQ, *]) (by intro k; first | rfl | simp only [sq, sr, *]) ?_); simp only [↓pre, simprocAttr, parV, sx, tys92, oncePa, bne, postU, postFz, optNat, Option.map_none, Option.map_some, storeE, allocE, put_at, push_at, me0, Nat.one_ne_zero, Nat.zero_ne_one, ↓treeR_cells, ↓treeR_ok, ↓treeR_fz, ↓treeR_one, n4, n5, n7, hso, hsx, s1, s2, s3, s4, w1, w2, hv.len', hfit', sr]
           exact ⟨0, hz.out _⟩
           )
     · rw [if_neg hck] at c5
       rw [decide_eq_false hck, Bool.false_and] at hok
       rw [hok, if_neg (by decide)] at hE
       have hz := hfz 150 hE (by decide)
       rw [hE]
       replace hz := Hid.mk hz
       replace hok := Hid.mk hok
       replace hE := Hid.mk hE
       replace hfz := Hid.mk hfz
       replace hfit := Hid.mk hfit
       replace hpl := Hid.mk hpl
       generalize chkD k r c w (pLen bs) (pDep bs) (pRefs bs) = CK at *
       simp only [nilS] at c5
       rcases hTRf with hT | hT
       all_goals rw [hT] at c4 c5
       all_goals clear q1 pt
       all_goals replace hT := Hid.mk hT
       all_goals (
         refine ospec_of_body follows Tryz.func92 (by unfold Tryz.f92; rfl) (by unfold Tryz.f92; simp) oncePa (by unfold Tryz.f92; simp) (by kernel_rfl) ?_; unfold Tryz.f92
         simp only [↓pre, simprocAttr, parV, sx, tys92, oncePa, bne, postU, postFz, optNat, Option.map_none, Option.map_some, storeE, allocE, put_at, push_at, me0, Nat.one_ne_zero, Nat.zero_ne_one, ↓treeR_cells, ↓treeR_ok, ↓treeR_fz, ↓treeR_one, n4, n5, n7, hso, hsx, s1, s2, s3, s4, sr]
         (first | refine call_plain (h1) (by first | rfl | simp only [parV, plQ, *]) ?_ | refine call_pure (h1) (by first | rfl | simp only [parV, plQ, *]) (by intro k; first | rfl | simp only [sq, sr, *]) ?_); simp only [↓pre, simprocAttr, parV, sx, tys92, oncePa, bne, postU, postFz, optNat, Option.map_none, Option.map_some, storeE, allocE, put_at, push_at, me0, Nat.one_ne_zero, Nat.zero_ne_one, ↓treeR_cells, ↓treeR_ok, ↓treeR_fz, ↓treeR_one, n4, n5, n7, hso, hsx, s1, s2, s3, s4, sr]; (first | refine call_plain (c1) (by first | rfl | simp only [parV, plQ, *]) ?_ | refine call_pure (c1) (by first | rfl | simp only [parV, plQ, *]) (by intro k; first | rfl | simp only [sq, sr, *]) ?_); simp only [↓pre, simprocAttr, parV, sx, tys92, oncePa, bne, postU, postFz, optNat, Option.map_none, Option.map_some, storeE, allocE, put_at, push_at, me0, Nat.one_ne_zero, Nat.zero_ne_one, ↓treeR_cells, ↓treeR_ok, ↓treeR_fz, ↓treeR_one, n4, n5, n7, hso, hsx, s1, s2, s3, s4, sr]; (first | refine call_plain (c2) (by first | rfl | simp only [parV, plQ, *]) ?_ | refine call_pure (c2) (by first | rfl | simp only [parV, plQ, *]) (by intro k; first | rfl | simp only [sq, sr, *]) ?_); simp only [↓pre, simprocAttr, parV, sx, tys92, oncePa, bne, postU, postFz, optNat, Option.map_none, Option.map_some, storeE, allocE, put_at, push_at, me0, Nat.one_ne_zero, Nat.zero_ne_one, ↓treeR_cells, ↓treeR_ok, ↓treeR_fz, ↓treeR_one, n4, n5, n7, hso, hsx, s1, s2, s3, s4, sr]
         refine contW_fixed (by kernel_rfl) ?_
         simp only [↓pre, simprocAttr, parV, sx, tys92, oncePa, bne, postU, postFz, optNat, Option.map_none, Option.map_some, storeE, allocE, put_at, push_at, me0, Nat.one_ne_zero, Nat.zero_ne_one, ↓treeR_cells, ↓treeR_ok, ↓treeR_fz, ↓treeR_one, n4, n5, n7, hso, hsx, s1, s2, s3, s4, sr]
         refine contW_fixed (by kernel_rfl) ?_
         simp only [↓pre, simprocAttr, parV, sx, tys92, oncePa, bne, postU, postFz, optNat, Option.map_none, Option.map_some, storeE, allocE, put_at, push_at, me0, Nat.one_ne_zero, Nat.zero_ne_one, ↓treeR_cells, ↓treeR_ok, ↓treeR_fz, ↓treeR_one, n4, n5, n7, hso, hsx, s1, s2, s3, s4, sr]
         (first | refine call_plain (c3) (by first | rfl | simp only [parV, plQ, *]) ?_ | refine call_pure (c3) (by first | rfl | simp only [parV, plQ, *]) (by intro k; first | rfl | simp only [sq, sr, *]) ?_); simp only [↓pre, simprocAttr, parV, sx, tys92, oncePa, bne, postU, postFz, optNat, Option.map_none, Option.map_some, storeE, allocE, put_at, push_at, me0, Nat.one_ne_zero, Nat.zero_ne_one, ↓treeR_cells, ↓treeR_ok, ↓treeR_fz, ↓treeR_one, n4, n5, n7, hso, hsx, s1, s2, s3, s4, w1, w2, hv.len', hfit', hck, sr]; (first | refine call_plain (c4) (by first | rfl | simp only [parV, plQ, *]) ?_ | refine call_pure (c4) (by first | rfl | simp only [parV, plQ, *]) (by intro k; first | rfl | simp only [sq, sr, *]) ?_); simp only [↓pre, simprocAttr, parV, sx, tys92, oncePa, bne, postU, postFz, optNat, Option.map_none, Option.map_some, storeE, allocE, put_at, push_at, me0, Nat.one_ne_zero, Nat.zero_ne_one, ↓treeR_cells, ↓treeR_ok, ↓treeR_fz, ↓treeR_one, n4, n5, n7, hso, hsx, s1, s2, s3, s4, w1, w2, hv.len', hfit', hck, sr]; (first | refine call_plain (c5) (by first | rfl | simp only [parV, plQ, *]) ?_ | refine call_pure (c5) (by first | rfl | simp only [parV, plQ, *]) (by intro k; first | rfl | simp only [sq, sr, *]) ?_); simp only [↓pre, simprocAttr, parV, sx, tys92, oncePa, bne, postU, postFz, optNat, Option.map_none, Option.map_some, storeE, allocE, put_at, push_at, me0, Nat.one_ne_zero, Nat.zero_ne_one, ↓treeR_cells, ↓treeR_ok, ↓treeR_fz, ↓treeR_one, n4, n5, n7, hso, hsx, s1, s2, s3, s4, w1, w2, hv.len', hfit', hck, sr]
         exact ⟨0, hz.out _⟩
         )
   · have hfit' : ((bs.length : Nat) : Int) < ((7 + 6 * pN bs : Nat) : Int) := by omega
     have hok : parseOk k r c w bs = false := by unfold parseOk; rw [decide_eq_false hfit]; rfl
     rw [hok, if_neg (by decide)] at hE
     have hz := hfz 150 hE (by decide)
     rw [hE]
     replace hz := Hid.mk hz
     replace hok := Hid.mk hok
     replace hE := Hid.mk hE
     replace hfz := Hid.mk hfz
     replace hfit := Hid.mk hfit
     refine ospec_of_body follows Tryz.func92 (by unfold Tryz.f92; rfl) (by unfold Tryz.f92; simp) oncePa (by unfold Tryz.f92; simp) (by kernel_rfl) ?_; unfold Tryz.f92
     simp only [↓pre, simprocAttr, parV, sx, tys92, oncePa, bne, postU, postFz, optNat, Option.map_none, Option.map_some, storeE, allocE, put_at, push_at, me0, Nat.one_ne_zero, Nat.zero_ne_one, ↓treeR_cells, ↓treeR_ok, ↓treeR_fz, ↓treeR_one, n4, n5, n7, hso, hsx, s1, s2, s3, s4, sr]
     (first | refine call_plain (h1) (by first | rfl | simp only [parV, plQ, *]) ?_ | refine call_pure (h1) (by first | rfl | simp only [parV, plQ, *]) (by intro k; first | rfl | simp only [sq, sr, *]) ?_); simp only [↓pre, simprocAttr, parV, sx, tys92, oncePa, bne, postU, postFz, optNat, Option.map_none, Option.map_some, storeE, allocE, put_at, push_at, me0, Nat.one_ne_zero, Nat.zero_ne_one, ↓treeR_cells, ↓treeR_ok, ↓treeR_fz, ↓treeR_one, n4, n5, n7, hso, hsx, s1, s2, s3, s4, sr]; (first | refine call_plain (c1) (by first | rfl | simp only [parV, plQ, *]) ?_ | refine call_pure (c1) (by first | rfl | simp only [parV, plQ, *]) (by intro k; first | rfl | simp only [sq, sr, *]) ?_); simp only [↓pre, simprocAttr, parV, sx, tys92, oncePa, bne, postU, postFz, optNat, Option.map_none, Option.map_some, storeE, allocE, put_at, push_at, me0, Nat.one_ne_zero, Nat.zero_ne_one, ↓treeR_cells, ↓treeR_ok, ↓treeR_fz, ↓treeR_one, n4, n5, n7, hso, hsx, s1, s2, s3, s4, sr]; (first | refine call_plain (c2) (by first | rfl | simp only [parV, plQ, *]) ?_ | refine call_pure (c2) (by first | rfl | simp only [parV, plQ, *]) (by intro k; first | rfl | simp only [sq, sr, *]) ?_); simp only [↓pre, simprocAttr, parV, sx, tys92, oncePa, bne, postU, postFz, optNat, Option.map_none, Option.map_some, storeE, allocE, put_at, push_at, me0, Nat.one_ne_zero, Nat.zero_ne_one, ↓treeR_cells, ↓treeR_ok, ↓treeR_fz, ↓treeR_one, n4, n5, n7, hso, hsx, s1, s2, s3, s4, sr]
     refine contW_fixed (by kernel_rfl) ?_
     simp only [↓pre, simprocAttr, parV, sx, tys92, oncePa, bne, postU, postFz, optNat, Option.map_none, Option.map_some, storeE, allocE, put_at, push_at, me0, Nat.one_ne_zero, Nat.zero_ne_one, ↓treeR_cells, ↓treeR_ok, ↓treeR_fz, ↓treeR_one, n4, n5, n7, hso, hsx, s1, s2, s3, s4, sr]
     refine contW_fixed (by kernel_rfl) ?_
     simp only [↓pre, simprocAttr, parV, sx, tys92, oncePa, bne, postU, postFz, optNat, Option.map_none, Option.map_some, storeE, allocE, put_at, push_at, me0, Nat.one_ne_zero, Nat.zero_ne_one, ↓treeR_cells, ↓treeR_ok, ↓treeR_fz, ↓treeR_one, n4, n5, n7, hso, hsx, s1, s2, s3, s4, sr]
     (first | refine call_plain (c3) (by first | rfl | simp only [parV, plQ, *]) ?_ | refine call_pure (c3) (by first | rfl | simp only [parV, plQ, *]) (by intro k; first | rfl | simp only [sq, sr, *]) ?_); simp only [↓pre, simprocAttr, parV, sx, tys92, oncePa, bne, postU, postFz, optNat, Option.map_none, Option.map_some, storeE, allocE, put_at, push_at, me0, Nat.one_ne_zero, Nat.zero_ne_one, ↓treeR_cells, ↓treeR_ok, ↓treeR_fz, ↓treeR_one, n4, n5, n7, hso, hsx, s1, s2, s3, s4, w1, w2, hv.len', hfit', sr]
     exact ⟨0, hz.out _⟩
 · have hE : parseE k r c w bs = (if mayB k r c w = true then (if (bs.length : Int) = wI k c then 0 else 20) else 2) := by
     unfold parseE
     by_cases hm : mayB k r c w = true
     · rw [if_pos hm, if_pos hm, if_neg (fun h => hg ⟨hm, h⟩), if_neg (fun h => hg ⟨hm, h⟩)]
     · rw [if_neg hm, if_neg hm]
   have hne : parseE k r c w bs ≠ 0 := by
     rw [hE]
     by_cases hm : mayB k r c w = true
     · rw [if_pos hm, if_neg (fun h => hg ⟨hm, h⟩)]; decide
     · rw [if_neg hm]; decide
   rw [← hE] at h1
   have hz := hfz _ rfl hne
   replace hz := Hid.mk hz
   replace hE := Hid.mk hE
   replace hfz := Hid.mk hfz
   refine ospec_of_body follows Tryz.func92 (by unfold Tryz.f92; rfl) (by unfold Tryz.f92; simp) oncePa (by unfold Tryz.f92; simp) (by kernel_rfl) ?_; unfold Tryz.f92
   simp only [↓pre, simprocAttr, parV, sx, tys92, oncePa, bne, postU, postFz, optNat, Option.map_none, Option.map_some, storeE, allocE, put_at, push_at, me0, Nat.one_ne_zero, Nat.zero_ne_one, ↓treeR_cells, ↓treeR_ok, ↓treeR_fz, ↓treeR_one, sr]
   (first | refine call_plain (h1) (by first | rfl | simp only [parV, plQ, *]) ?_ | refine call_pure (h1) (by first | rfl | simp only [parV, plQ, *]) (by intro k; first | rfl | simp only [sq, sr, *]) ?_); simp only [↓pre, simprocAttr, parV, sx, tys92, oncePa, bne, postU, postFz, optNat, Option.map_none, Option.map_some, storeE, allocE, put_at, push_at, me0, Nat.one_ne_zero, Nat.zero_ne_one, ↓treeR_cells, ↓treeR_ok, ↓treeR_fz, ↓treeR_one, hne, sr]
   exact ⟨0, hz.out _⟩
theorem rd_cells {v : AV} {n : Nat} {cs : List AV} (h : RdSl v n cs) : v.cells = [v] := by
 rcases h.form with ⟨rfl, _⟩ | ⟨_, _, rfl, _⟩ | ⟨_, _, rfl, _⟩ <;> rfl
theorem rd_okA {v : AV} {n : Nat} {cs : List AV} (h : RdSl v n cs) : okA v = true := by
 rcases h.form with ⟨rfl, _⟩ | ⟨_, _, rfl, _⟩ | ⟨_, _, rfl, _⟩ <;> rfl
abbrev rowA (k r c w : Int) (v : AV) : AV := .agg [.val (.int .i64 k), .val (.int .i64 r), .val (.int .i64 c), .val (.int .i64 w), v]
theorem commit_version (k r c w : Int) (v : AV) (n : Nat) (cs : List AV) (hv : RdSl v n cs) (g : FuncId) (a : Int) (is : Bool) (e : Int) (hg : FSpec Tryz.prog g [rowA k r c w v] ⟨.tup [intV a, boolV is, intV e], []⟩) : FSpec Tryz.prog 87 [rowA k r c w v, .clo g []] ⟨.tup [intV (if e = 0 then (if is = true then a else 0) else 0), intV e], []⟩ := by
 have f1 := rd_fz hv
 have q1 := rd_one hv
 have hp := hv.plain
 by_cases he : e = 0
 · subst he
   rw [if_pos rfl]
   cases is with
   | true =>
     rw [if_pos rfl]
     refine fspec_of_body follows Tryz.func87 (by unfold Tryz.f87; rfl) (by unfold Tryz.f87; simp) onceA (by unfold Tryz.f87; simp) (by kernel_rfl) ?_; unfold Tryz.f87
     simp only [↓pre, simprocAttr, parV, sx, tys87, onceA, postU, f1, q1, sr]
     (first | refine call_plain (hg) (by first | rfl | simp only [parV, plQ, *]) ?_ | refine call_pure (hg) (by first | rfl | simp only [parV, plQ, *]) (by intro k; first | rfl | simp only [sq, sr, *]) ?_); simp only [↓pre, simprocAttr, parV, sx, tys87, onceA, postU, f1, q1, sr]
   | false =>
     rw [if_neg (by decide)]
     refine fspec_of_body follows Tryz.func87 (by unfold Tryz.f87; rfl) (by unfold Tryz.f87; simp) onceA (by unfold Tryz.f87; simp) (by kernel_rfl) ?_; unfold Tryz.f87
     simp only [↓pre, simprocAttr, parV, sx, tys87, onceA, postU, f1, q1, sr]
     (first | refine call_plain (hg) (by first | rfl | simp only [parV, plQ, *]) ?_ | refine call_pure (hg) (by first | rfl | simp only [parV, plQ, *]) (by intro k; first | rfl | simp only [sq, sr, *]) ?_); simp only [↓pre, simprocAttr, parV, sx, tys87, onceA, postU, f1, q1, sr]
 · rw [if_neg he]
   refine fspec_of_body follows Tryz.func87 (by unfold Tryz.f87; rfl) (by unfold Tryz.f87; simp) onceA (by unfold Tryz.f87; simp) (by kernel_rfl) ?_; unfold Tryz.f87
   simp only [↓pre, simprocAttr, parV, sx, tys87, onceA, postU, f1, q1, sr]
   (first | refine call_plain (hg) (by first | rfl | simp only [parV, plQ, *]) ?_ | refine call_pure (hg) (by first | rfl | simp only [parV, plQ, *]) (by intro k; first | rfl | simp only [sq, sr, *]) ?_); simp only [↓pre, simprocAttr, parV, sx, tys87, onceA, postU, f1, q1, he, sr]
theorem commit_winner (k r c w : Int) (v : AV) (ps : List PairB) (cells : List AV) (hv : RowV v ps cells) : FSpec Tryz.prog 88 [rowA k r c w v] ⟨winV k r c w ps, []⟩ := by
 have h := census_Winner k r c w v ps cells hv
 have f1 := rd_fz hv.rd
 have q1 := rd_one hv.rd
 have hp := hv.rd.plain
 unfold winV at h ⊢
 generalize (cntP k r c w ps).getD 0 0 = a at *
 generalize decide (1 ≤ (cntP k r c w ps).length) = b at *
 generalize chkI k r c w ps = e at *
 refine fspec_of_body follows Tryz.func88 (by unfold Tryz.f88; rfl) (by unfold Tryz.f88; simp) onceA (by unfold Tryz.f88; simp) (by kernel_rfl) ?_; unfold Tryz.f88
 simp only [↓pre, simprocAttr, parV, sx, tys88, onceA, f1, q1]
 (first | refine call_plain (h) (by first | rfl | simp only [parV, plQ, *]) ?_ | refine call_pure (h) (by first | rfl | simp only [parV, plQ, *]) (by intro k; first | rfl | simp only [sq, sr, *]) ?_); simp only [↓pre, simprocAttr, parV, sx, tys88, onceA, f1, q1, boolV]
theorem commit_runner (k r c w : Int) (v : AV) (ps : List PairB) (cells : List AV) (hv : RowV v ps cells) : FSpec Tryz.prog 89 [rowA k r c w v] ⟨runV k r c w ps, []⟩ := by
 have h := census_Runner k r c w v ps cells hv
 have f1 := rd_fz hv.rd
 have q1 := rd_one hv.rd
 have hp := hv.rd.plain
 unfold runV at h ⊢
 generalize (cntP k r c w ps).getD 1 0 = a at *
 generalize decide (2 ≤ (cntP k r c w ps).length) = b at *
 generalize chkI k r c w ps = e at *
 refine fspec_of_body follows Tryz.func89 (by unfold Tryz.f89; rfl) (by unfold Tryz.f89; simp) onceA (by unfold Tryz.f89; simp) (by kernel_rfl) ?_; unfold Tryz.f89
 simp only [↓pre, simprocAttr, parV, sx, tys89, onceA, f1, q1]
 (first | refine call_plain (h) (by first | rfl | simp only [parV, plQ, *]) ?_ | refine call_pure (h) (by first | rfl | simp only [parV, plQ, *]) (by intro k; first | rfl | simp only [sq, sr, *]) ?_); simp only [↓pre, simprocAttr, parV, sx, tys89, onceA, f1, q1, boolV]
def winI (k r c w : Int) (ps : List PairB) : Int := (cntP k r c w ps).getD 0 0
def runI (k r c w : Int) (ps : List PairB) : Int := (cntP k r c w ps).getD 1 0
theorem version_win (k r c w : Int) (v : AV) (ps : List PairB) (cells : List AV) (hv : RowV v ps cells) : FSpec Tryz.prog 87 [rowA k r c w v, .clo 88 []] ⟨.tup [intV (if chkI k r c w ps = 0 then winI k r c w ps else 0), intV (chkI k r c w ps)], []⟩ := by
 have h := commit_version k r c w v _ _ hv.rd _ _ _ _ (commit_winner k r c w v ps cells hv)
 have e : (if decide (1 ≤ (cntP k r c w ps).length) = true then (cntP k r c w ps).getD 0 0 else 0) = winI k r c w ps := by
   unfold winI
   split
   · rfl
   · rename_i h1
     have : (cntP k r c w ps).length = 0 := by simp at h1; simp [h1]
     rw [List.eq_nil_of_length_eq_zero this]
     rfl
 rw [e] at h
 exact h
theorem version_run (k r c w : Int) (v : AV) (ps : List PairB) (cells : List AV) (hv : RowV v ps cells) : FSpec Tryz.prog 87 [rowA k r c w v, .clo 89 []] ⟨.tup [intV (if chkI k r c w ps = 0 then runI k r c w ps else 0), intV (chkI k r c w ps)], []⟩ := by
 have h := commit_version k r c w v _ _ hv.rd _ _ _ _ (commit_runner k r c w v ps cells hv)
 have e : (if decide (2 ≤ (cntP k r c w ps).length) = true then (cntP k r c w ps).getD 1 0 else 0) = runI k r c w ps := by
   unfold runI
   split
   · rfl
   · rename_i h1
     have : (cntP k r c w ps).length ≤ 1 := by simp at h1; omega
     rw [List.getD_eq_getElem?_getD, List.getElem?_eq_none this]
     rfl
 rw [e] at h
 exact h
def comD (k r c w : Int) (ps : List PairB) : List UInt8 := dataL k r c w ps 2 (winI k r c w ps) k.toNat
def comE (k r c w : Int) (ps : List PairB) : Int := if chkI k r c w ps = 0 then (if winI k r c w ps = 0 then 5 else if manyN k r c w ps 2 (winI k r c w ps) < k.toNat then 5 else parseE k r c w (comD k r c w ps)) else chkI k r c w ps
def comV (k r c w : Int) (ps : List PairB) : AV := if comE k r c w ps = 0 then .tup [descA (pLen (comD k r c w ps)) (pDep (comD k r c w ps)) (pRefs (comD k r c w ps)), intV (winI k r c w ps), intV 0] else .tup [desc0, intV 0, intV (comE k r c w ps)]
theorem chk_parts {k r c w : Int} {ps : List PairB} (h : chkI k r c w ps = 0) : mayB k r c w = true ∧ rowB k r c ps = true := by
 unfold chkI at h
 split at h
 · rename_i h1
   split at h
   · rename_i h2; exact ⟨h1, h2⟩
   · omega
 · omega
theorem win_ver {k r c w : Int} {ps : List PairB} (hc : chkI k r c w ps = 0) (h : winI k r c w ps ≠ 0) : verB (winI k r c w ps) = true := by
 have hl : 1 ≤ (cntP k r c w ps).length := by
   rcases Nat.eq_zero_or_pos (cntP k r c w ps).length with h0 | h0
   · exfalso
     apply h
     unfold winI
     rw [List.eq_nil_of_length_eq_zero h0]
     rfl
   · exact h0
 have hm := win_mem hl
 have hm2 : winI k r c w ps ∈ (talT k r c w ps).filter (cntB k (heldsP k r c w ps)) := hm
 have := (tal_pw k r c w ps).2 _ (List.mem_filter.1 hm2).1
 unfold verB
 exact decide_eq_true this
theorem bytes_rd (bs : List UInt8) (n : Nat) (h : bs.length = n) : RdSl (treeR n (bytesA bs)) bs.length (bytesA bs ++ []) := by rw [h, List.append_nil]; exact treeR_rd _ _
theorem comD_len {k r c w : Int} {ps : List PairB} (hm : mayB k r c w = true) : (comD k r c w ps).length = k.toNat * c.toNat := dataL_len _ _ _ _ _ _ _ _
def onceCR : Nat → Bool := fun d => d != 4
theorem commit_Read (k r c w : Int) (v : AV) (ps : List PairB) (cells : List AV) (hv : RowV v ps cells) : FSpec Tryz.prog 17 [parV k r c w, v] ⟨comV k r c w ps, []⟩ := by
 refine fspec_fzT ?_
 have h1 := version_win k r c w v ps cells hv
 have hvc := rd_cells hv.rd
 have hvo := rd_okA hv.rd
 have f1 := rd_fz hv.rd
 have q1 := rd_one hv.rd
 have hp := hv.rd.plain
 have hz : comE k r c w ps ≠ 0 → ∀ m, fzT 0 m (.tup [.agg [.val (.int .i64 0), .val (.int .i64 0), .val (.slice none 0 0)], .val (.int .i64 0), .val (.int .i64 (comE k r c w ps))]) = some (comV k r c w ps) := fun h m => by
   unfold comV
   rw [if_neg h]
   exact fzId_tup (fun x hx => by
     simp only [List.mem_cons, List.not_mem_nil, or_false] at hx
     rcases hx with rfl | rfl | rfl
     · exact fzId_agg fun c hc => by
         simp only [List.mem_cons, List.not_mem_nil, or_false] at hc
         rcases hc with rfl | rfl | rfl <;> exact fzId_val _
     · exact fzId_val _
     · exact fzId_val _) 0 m
 by_cases hc : chkI k r c w ps = 0
 · obtain ⟨hm, hr⟩ := chk_parts hc
   have hE : comE k r c w ps = if winI k r c w ps = 0 then 5 else if manyN k r c w ps 2 (winI k r c w ps) < k.toNat then 5 else parseE k r c w (comD k r c w ps) := by unfold comE; rw [if_pos hc]
   rw [if_pos hc, hc] at h1
   have hver := win_ver hc
   have hrd := fun h => stripe_Read k r c w 2 (winI k r c w ps) v ps cells hv hm hr (.inr rfl) (hver h)
   have hcv : comE k r c w ps = 0 → comV k r c w ps = .tup [descA (pLen (comD k r c w ps)) (pDep (comD k r c w ps)) (pRefs (comD k r c w ps)), intV (winI k r c w ps), intV 0] := fun h => by unfold comV; rw [if_pos h]
   have hdl := comD_len (ps := ps) hm
   have hcD : comD k r c w ps = dataL k r c w ps 2 (winI k r c w ps) k.toNat := rfl
   unfold sreadV at hrd
   rw [← hcD] at hrd
   clear hcD
   generalize winI k r c w ps = W at *
   generalize comD k r c w ps = D at *
   by_cases hW : W = 0
   · subst hW
     rw [if_pos rfl] at hE
     have hz := hz (by rw [hE]; decide)
     rw [hE] at hz
     replace hz := Hid.mk hz
     replace hE := Hid.mk hE
     clear hrd hver hcv
     refine ospec_of_body follows Tryz.func17 (by unfold Tryz.f17; rfl) (by unfold Tryz.f17; simp) onceCR (by unfold Tryz.f17; simp) (by kernel_rfl) ?_; unfold Tryz.f17
     simp only [↓pre, simprocAttr, parV, sx, tys17, onceCR, bne, postU, postFz, storeE, allocE, put_at, push_at, me0, f1, q1, Nat.one_ne_zero, Nat.zero_ne_one, ↓hvc, ↓hvo, sr]
     (first | refine call_plain (h1) (by first | rfl | simp only [parV, plQ, *]) ?_ | refine call_pure (h1) (by first | rfl | simp only [parV, plQ, *]) (by intro k; first | rfl | simp only [sq, sr, *]) ?_); simp only [↓pre, simprocAttr, parV, sx, tys17, onceCR, bne, postU, postFz, storeE, allocE, put_at, push_at, me0, f1, q1, Nat.one_ne_zero, Nat.zero_ne_one, ↓hvc, ↓hvo, sr]
     exact ⟨0, hz.out _⟩
   · rw [if_neg hW] at hE
     have hrd := hrd hW
     clear hver
     by_cases hlt : manyN k r c w ps 2 W < k.toNat
     · rw [if_pos hlt] at hE hrd
       have hz := hz (by rw [hE]; decide)
       rw [hE] at hz
       replace hz := Hid.mk hz
       replace hE := Hid.mk hE
       clear hcv
       simp only [nilS] at hrd
       refine ospec_of_body follows Tryz.func17 (by unfold Tryz.f17; rfl) (by unfold Tryz.f17; simp) onceCR (by unfold Tryz.f17; simp) (by kernel_rfl) ?_; unfold Tryz.f17
       simp only [↓pre, simprocAttr, parV, sx, tys17, onceCR, bne, postU, postFz, storeE, allocE, put_at, push_at, me0, f1, q1, Nat.one_ne_zero, Nat.zero_ne_one, ↓hvc, ↓hvo, sr]
       (first | refine call_plain (h1) (by first | rfl | simp only [parV, plQ, *]) ?_ | refine call_pure (h1) (by first | rfl | simp only [parV, plQ, *]) (by intro k; first | rfl | simp only [sq, sr, *]) ?_); simp only [↓pre, simprocAttr, parV, sx, tys17, onceCR, bne, postU, postFz, storeE, allocE, put_at, push_at, me0, f1, q1, Nat.one_ne_zero, Nat.zero_ne_one, ↓hvc, ↓hvo, hW, sr]; (first | refine call_plain (hrd) (by first | rfl | simp only [parV, plQ, *]) ?_ | refine call_pure (hrd) (by first | rfl | simp only [parV, plQ, *]) (by intro k; first | rfl | simp only [sq, sr, *]) ?_); simp only [↓pre, simprocAttr, parV, sx, tys17, onceCR, bne, postU, postFz, storeE, allocE, put_at, push_at, me0, f1, q1, Nat.one_ne_zero, Nat.zero_ne_one, ↓hvc, ↓hvo, hW, sr]
       exact ⟨0, hz.out _⟩
     · rw [if_neg hlt] at hE hrd
       have hpa := desc_Parse k r c w (treeR (k.toNat * c.toNat) (bytesA D)) D [] (bytes_rd D _ hdl)
       unfold parseD at hpa
       have pt := (treeR_rd (k.toNat * c.toNat) (bytesA D)).plain
       rw [← hE] at hpa
       replace hlt := Hid.mk hlt
       by_cases he : comE k r c w ps = 0
       · rw [he, if_pos rfl] at hpa
         have hcv := hcv he
         have hf := fun m => fzId_tup (fun x (hx : x ∈ [descA (pLen D) (pDep D) (pRefs D), intV W, intV 0]) => by
           simp only [List.mem_cons, List.not_mem_nil, or_false] at hx
           rcases hx with rfl | rfl | rfl
           · exact descA_id _ _ _
           · exact fzId_val _
           · exact fzId_val _) 0 m
         rw [← hcv] at hf
         unfold descA at hpa
         rw [hcv] at hf
         unfold descA at hf
         rw [hcv]
         unfold descA
         replace hcv := Hid.mk hcv
         replace hE := Hid.mk hE
         replace hz := Hid.mk hz
         generalize pLen D = pl at *
         generalize pDep D = pd at *
         generalize pRefs D = pr at *
         have hTRf : treeR pr.length (refsA pr) = .val (.slice none 0 0) ∨ treeR pr.length (refsA pr) = .tree pr.length pr.length (refsA pr) false := by unfold treeR; split; exact .inl rfl; exact .inr rfl
         rcases hTRf with hT | hT
         all_goals rw [hT] at hpa hf ⊢
         all_goals replace hT := Hid.mk hT
         all_goals replace hf := Hid.mk hf
         all_goals (
           refine ospec_of_body follows Tryz.func17 (by unfold Tryz.f17; rfl) (by unfold Tryz.f17; simp) onceCR (by unfold Tryz.f17; simp) (by kernel_rfl) ?_; unfold Tryz.f17
           simp only [↓pre, simprocAttr, parV, sx, tys17, onceCR, bne, postU, postFz, storeE, allocE, put_at, push_at, me0, f1, q1, Nat.one_ne_zero, Nat.zero_ne_one, ↓hvc, ↓hvo, sr]
           (first | refine call_plain (h1) (by first | rfl | simp only [parV, plQ, *]) ?_ | refine call_pure (h1) (by first | rfl | simp only [parV, plQ, *]) (by intro k; first | rfl | simp only [sq, sr, *]) ?_); simp only [↓pre, simprocAttr, parV, sx, tys17, onceCR, bne, postU, postFz, storeE, allocE, put_at, push_at, me0, f1, q1, Nat.one_ne_zero, Nat.zero_ne_one, ↓hvc, ↓hvo, hW, sr]; (first | refine call_plain (hrd) (by first | rfl | simp only [parV, plQ, *]) ?_ | refine call_pure (hrd) (by first | rfl | simp only [parV, plQ, *]) (by intro k; first | rfl | simp only [sq, sr, *]) ?_); simp only [↓pre, simprocAttr, parV, sx, tys17, onceCR, bne, postU, postFz, storeE, allocE, put_at, push_at, me0, f1, q1, Nat.one_ne_zero, Nat.zero_ne_one, ↓hvc, ↓hvo, hW, sr]; (first | refine call_plain (hpa) (by first | rfl | simp only [parV, plQ, *]) ?_ | refine call_pure (hpa) (by first | rfl | simp only [parV, plQ, *]) (by intro k; first | rfl | simp only [sq, sr, *]) ?_); simp only [↓pre, simprocAttr, parV, sx, tys17, onceCR, bne, postU, postFz, storeE, allocE, put_at, push_at, me0, f1, q1, Nat.one_ne_zero, Nat.zero_ne_one, ↓hvc, ↓hvo, hW, sr]
           exact ⟨0, hf.out _⟩
         )
       · rw [if_neg he] at hpa
         have hz := hz he
         replace hz := Hid.mk hz
         replace hE := Hid.mk hE
         replace hcv := Hid.mk hcv
         generalize comE k r c w ps = CE at *
         unfold desc0 nilS at hpa
         refine ospec_of_body follows Tryz.func17 (by unfold Tryz.f17; rfl) (by unfold Tryz.f17; simp) onceCR (by unfold Tryz.f17; simp) (by kernel_rfl) ?_; unfold Tryz.f17
         simp only [↓pre, simprocAttr, parV, sx, tys17, onceCR, bne, postU, postFz, storeE, allocE, put_at, push_at, me0, f1, q1, Nat.one_ne_zero, Nat.zero_ne_one, ↓hvc, ↓hvo, sr]
         (first | refine call_plain (h1) (by first | rfl | simp only [parV, plQ, *]) ?_ | refine call_pure (h1) (by first | rfl | simp only [parV, plQ, *]) (by intro k; first | rfl | simp only [sq, sr, *]) ?_); simp only [↓pre, simprocAttr, parV, sx, tys17, onceCR, bne, postU, postFz, storeE, allocE, put_at, push_at, me0, f1, q1, Nat.one_ne_zero, Nat.zero_ne_one, ↓hvc, ↓hvo, hW, he, sr]; (first | refine call_plain (hrd) (by first | rfl | simp only [parV, plQ, *]) ?_ | refine call_pure (hrd) (by first | rfl | simp only [parV, plQ, *]) (by intro k; first | rfl | simp only [sq, sr, *]) ?_); simp only [↓pre, simprocAttr, parV, sx, tys17, onceCR, bne, postU, postFz, storeE, allocE, put_at, push_at, me0, f1, q1, Nat.one_ne_zero, Nat.zero_ne_one, ↓hvc, ↓hvo, hW, he, sr]; (first | refine call_plain (hpa) (by first | rfl | simp only [parV, plQ, *]) ?_ | refine call_pure (hpa) (by first | rfl | simp only [parV, plQ, *]) (by intro k; first | rfl | simp only [sq, sr, *]) ?_); simp only [↓pre, simprocAttr, parV, sx, tys17, onceCR, bne, postU, postFz, storeE, allocE, put_at, push_at, me0, f1, q1, Nat.one_ne_zero, Nat.zero_ne_one, ↓hvc, ↓hvo, hW, he, sr]
         exact ⟨0, hz.out _⟩
 · have hE : comE k r c w ps = chkI k r c w ps := by unfold comE; rw [if_neg hc]
   rw [if_neg hc] at h1
   have hz := hz (by rw [hE]; exact hc)
   rw [hE] at hz
   replace hz := Hid.mk hz
   replace hE := Hid.mk hE
   refine ospec_of_body follows Tryz.func17 (by unfold Tryz.f17; rfl) (by unfold Tryz.f17; simp) onceCR (by unfold Tryz.f17; simp) (by kernel_rfl) ?_; unfold Tryz.f17
   simp only [↓pre, simprocAttr, parV, sx, tys17, onceCR, bne, postU, postFz, storeE, allocE, put_at, push_at, me0, f1, q1, Nat.one_ne_zero, Nat.zero_ne_one, ↓hvc, ↓hvo, sr]
   (first | refine call_plain (h1) (by first | rfl | simp only [parV, plQ, *]) ?_ | refine call_pure (h1) (by first | rfl | simp only [parV, plQ, *]) (by intro k; first | rfl | simp only [sq, sr, *]) ?_); simp only [↓pre, simprocAttr, parV, sx, tys17, onceCR, bne, postU, postFz, storeE, allocE, put_at, push_at, me0, f1, q1, Nat.one_ne_zero, Nat.zero_ne_one, ↓hvc, ↓hvo, hc, sr]
   exact ⟨0, hz.out _⟩
theorem slot_put (m0 : Mem) (lv : AV) (cs : List AV) (n : Int) (ho : Own m0 5 1 lv cs.length cs) (hn : 0 ≤ n) (hn2 : n ≤ 1073741824) (hl : cs.length ≤ 100000) : OSpec Tryz.prog 294 [lv, intV n] m0 fun r m' => r = (growB 5 m0 lv cs (bytesA (numB n 4))).2 ∧ m' = (growB 5 m0 lv cs (bytesA (numB n 4))).1 := by
 refine ospec_of_body follows Tryz.func294 (by unfold Tryz.f294; rfl) (by unfold Tryz.f294; simp) onceA (by unfold Tryz.f294; simp) (by kernel_rfl) ?_; unfold Tryz.f294
 simp only [↓pre, simprocAttr, parV, sx, tys294, onceA, postU, postA, postV, sr]
 rw [codeW_loop]
 refine loop_intro (fun q e m => ∃ (c' : Nat) (ys : List UInt8), q = c' ∧ c' ≤ 4 ∧ Hid (ys ++ numB n c' = numB n 4) ∧ e 0 = (growB 5 m0 lv cs (bytesA ys)).2 ∧ e 1 = intV n ∧ e 5 = intV (8 * (c' : Int) - 8) ∧ m = (growB 5 m0 lv cs (bytesA ys)).1) 4 ⟨4, [], rfl, Nat.le_refl _, ⟨rfl⟩, rfl, rfl, rfl, rfl⟩ ?_
 rintro q e m ⟨c', ys, rfl, hcc, hys, e0, e1, e5, hmm⟩
 replace hcc := Hid.mk hcc
 cases q with
 | zero =>
   have hno : ¬ (0 : Int) ≤ 8 * ((0 : Nat) : Int) - 8 := by omega
   have hy := hys.out
   rw [show numB n 0 = [] from rfl, List.append_nil] at hy
   subst hy
   simp only [↓pre, simprocAttr, parV, sx, tys294, onceA, postU, postA, postV, e0, e1, e5, hno, sr]
   exact hmm
 | succ d =>
   have hd : 8 * ((d + 1 : Nat) : Int) - 8 = (8 * d : Nat) := by omega
   have hyes : (0 : Int) ≤ ((8 * d : Nat) : Int) := by omega
   have w2 : IntKind.i64.wrap (((8 * d : Nat) : Int) - 8) = 8 * ((d : Nat) : Int) - 8 := by rw [show ((8 * d : Nat) : Int) - 8 = 8 * ((d : Nat) : Int) - 8 by omega]; exact wrap_id (by omega) (by have := hcc.out; omega)
   have hmin : min (8 * d) IntKind.i64.bits = 8 * d := by have := hcc.out; have : IntKind.i64.bits = 64 := rfl; omega
   have hpos : 0 ≤ n / 2 ^ (8 * d) := Int.ediv_nonneg hn (Int.le_of_lt (Int.pow_pos (by decide)))
   have wu : IntKind.u8.wrap (n / 2 ^ (8 * d)) = ((UInt8.ofNat (n / 2 ^ (8 * d)).toNat).toNat : Int) := by
     have := u8_wrap (n / 2 ^ (8 * d)).toNat
     rw [Int.toNat_of_nonneg hpos] at this
     exact this
   have hown := growB_own (bytesA ys) m0 lv cs ho
   rw [← hmm, ← e0] at hown
   have hyl : (bytesA ys).length ≤ 4 := by
     have h9 := congrArg List.length hys.out
     rw [List.length_append, numB_len, numB_len] at h9
     simp [bytesA]
     omega
   have happ := app_grow (P := Tryz.prog) (x := .tree 1 1 [.val (.int .u8 (UInt8.ofNat (n / 2 ^ (8 * d)).toNat).toNat)] true) (y := .val (.int .u8 (UInt8.ofNat (n / 2 ^ (8 * d)).toNat).toNat)) (yb := 1) (zl := [.int .u8 0]) (by kernel_rfl) hown (by kernel_rfl) (by kernel_rfl) (by kernel_rfl) rfl srcT1 (by omega) (by omega)
   have hga := growB_append (el := 5) (bytesA ys) [.val (.int .u8 (UInt8.ofNat (n / 2 ^ (8 * d)).toNat).toNat)] m0 lv cs
   rw [← hmm, ← e0] at hga
   simp only [growB] at hga
   generalize hv0 : e 0 = v0 at *
   rw [hd] at e5
   replace hyl := Hid.mk hyl
   replace hown := Hid.mk hown
   replace hga := Hid.mk hga
   replace hmm := Hid.mk hmm
   replace e0 := Hid.mk e0
   replace hpos := Hid.mk hpos
   simp only [↓pre, simprocAttr, parV, sx, tys294, onceA, postU, postA, postV, hv0, e1, e5, hyes, w2, bin_shr_nat, hmin, wu, happ, sr]
   refine ⟨d, by omega, d, ys ++ [UInt8.ofNat (n / 2 ^ (8 * d)).toNat], rfl, by have := hcc.out; omega, ⟨by rw [List.append_assoc]; exact hys.out⟩, ?_, rfl, ?_⟩
   · unfold bytesA at hga ⊢
     rw [List.map_append, List.map_cons, List.map_nil]
     exact (congrArg Prod.snd hga.out).symm
   · unfold bytesA at hga ⊢
     rw [List.map_append, List.map_cons, List.map_nil]
     exact (congrArg Prod.fst hga.out).symm
def vecB (l : List Int) : List UInt8 := l.flatMap fun n => numB n 4
theorem vecB_len (l : List Int) : (vecB l).length = l.length * 4 := by
 induction l with
 | nil => rfl
 | cons a l ih => simp only [vecB, List.flatMap_cons, List.length_append, numB_len, List.length_cons] at ih ⊢; omega
def slotB (s : SlotC) : List UInt8 := [84, 50, UInt8.ofNat s.kd.toNat, UInt8.ofNat s.ix.toNat] ++ (numB s.ce 4 ++ (numB s.st 4 ++ (vecB s.vec ++ s.data)))
theorem build4 {m : Mem} {a b c d : Int} : buildTreeE Tryz.prog m 52 4 [(0, .val (.int .u8 a)), (1, .val (.int .u8 b)), (2, .val (.int .u8 c)), (3, .val (.int .u8 d))] = some ⟨.tree 4 4 [.val (.int .u8 a), .val (.int .u8 b), .val (.int .u8 c), .val (.int .u8 d)] true, m, none⟩ := by
 have h1 : elE Tryz.prog 52 = some 5 := by kernel_rfl
 have h2 : szE Tryz.prog 5 = some 1 := by kernel_rfl
 have h5 : zeroE Tryz.prog 5 = some [.int .u8 0] := by kernel_rfl
 simp [buildTreeE, h1, h2, h5, zerosE, List.range_succ, fillE, okA, oneA, splice, AV.cells, hasRefs, hasRef, outV]
theorem make_cap (m : Mem) {n : Nat} (hn : n ≤ 65536) : makeE Tryz.prog m 52 0 n = some ⟨.sl m.next 0 0 n true, m.push ⟨[], 5, .flat, true⟩, none⟩ := by
 have h1 : elE Tryz.prog 52 = some 5 := by kernel_rfl
 have h2 : szE Tryz.prog 5 = some 1 := by kernel_rfl
 have h3 : byE Tryz.prog 5 = some 1 := by kernel_rfl
 have h4 : kindT Tryz.prog 5 = .flat := by kernel_rfl
 have hz := zeros_one h2 (x := .int .u8 0) (by kernel_rfl) n
 simp only [makeE, h1, h2, h3, h4, hz, outV, Option.bind_some, Nat.mul_one]
 rw [if_pos (by omega)]
 rfl
theorem last_le {M : Int} : ∀ (l : List Int) (a : Int), a ≤ M → (∀ v ∈ l, v ≤ M) → a ≤ l.foldl max a ∧ l.foldl max a ≤ M
 | [], a, h, _ => ⟨Int.le_refl _, h⟩
 | x :: l, a, h, hl => by
   have := last_le l (max a x) (by have := hl x (by simp); omega) fun v hv => hl v (by simp [hv])
   simp only [List.foldl_cons]
   omega
def onceSB : Nat → Bool := fun d => d != 35 && d != 38
theorem slot_Bytes (k r c w : Int) (s : SlotC) (vv dv : AV) (x y : List AV) (hv : RdSl vv s.vec.length (intsA s.vec ++ x)) (hd : RdSl dv s.data.length (bytesA s.data ++ y)) (hm : mayB k r c w = true) (hs : SlotOk k r c w s) : FSpec Tryz.prog 238 [parV k r c w, .agg [.val (.int .u8 s.kd), intV s.ix, intV s.ce, intV s.st, vv, dv]] ⟨.tup [treeR (slotB s).length (bytesA (slotB s)), intV 0], []⟩ := by
 refine fspec_fzT ?_
 have hsz := slot_Size k r c w
 simp only [hm, if_true] at hsz
 obtain ⟨hvl, hvv⟩ := vec_ok hs.vec
 have hmn := may_n hm
 have hmay := slot_may k r c w s.kd s.ix s.ce s.st vv dv s.vec x s.data.length (bytesA s.data ++ y) hv hd (by omega)
 have hmt : mayS k r c w s.kd s.ix s.ce s.st s.vec s.data.length = true := by
   unfold mayS
   rw [decide_eq_true hs.vec, decide_eq_true hs.st, decide_eq_true ⟨hs.ix0, hs.ix1⟩, decide_eq_true hs.ce, decide_eq_true hs.data]
   rcases hs.kd with h | h <;> simp [h]
 rw [hmt] at hmay
 have hce := hvv _ (List.mem_of_getElem? hs.ce)
 have hix0 := hs.ix0
 have hix1 := hs.ix1
 have hdl := hs.data
 have hst : 0 ≤ s.st ∧ s.st ≤ 1073741824 := by
   rw [hs.st]
   exact last_le s.vec 0 (by omega) fun v hv => (hvv v hv).2
 have hslA : s.vec.length ≤ 16 := by omega
 have hkd2 : s.kd = ((UInt8.ofNat s.kd.toNat).toNat : Int) := by rcases hs.kd with h | h <;> (rw [h]; rfl)
 have hix2 : IntKind.u8.wrap s.ix = ((UInt8.ofNat s.ix.toNat).toNat : Int) := by
   have := u8_wrap s.ix.toNat
   rw [Int.toNat_of_nonneg hix0] at this
   exact this
 obtain ⟨SZ, hSZ⟩ : ∃ n : Nat, sizeI k r c = (n : Int) := ⟨(sizeI k r c).toNat, by unfold sizeI; omega⟩
 have hSZ2 : SZ ≤ 200 ∧ 0 < SZ := by unfold sizeI at hSZ; omega
 rw [hSZ] at hsz
 have hmk := fun m => make_cap m (n := SZ) (by omega)
 have f1 := rd_fz hv
 have f2 := rd_fz hd
 have q1 := rd_one hv
 have q2 := rd_one hd
 have pv := hv.plain
 have pd := hd.plain
 have hfin : slotB s = [84, 50, UInt8.ofNat s.kd.toNat, UInt8.ofNat s.ix.toNat] ++ (numB s.ce 4 ++ (numB s.st 4 ++ (vecB s.vec ++ s.data))) := rfl
 have hput := fun m lv cs n a b c d => slot_put m lv cs n a b c d
 replace hput := Hid.mk hput
 obtain ⟨kd, ix, ce, st, vec, data⟩ := s
 simp only at *
 clear hs hmt
 replace hfin := Hid.mk hfin
 replace hvv := Hid.mk hvv
 replace hvl := Hid.mk hvl
 replace hmn := Hid.mk hmn
 replace hSZ := Hid.mk hSZ
 replace hix0 := Hid.mk hix0
 replace hix1 := Hid.mk hix1
 replace hdl := Hid.mk hdl
 replace hce := Hid.mk hce
 replace hst := Hid.mk hst
 replace hslA := Hid.mk hslA
 replace hSZ2 := Hid.mk hSZ2
 replace hkd2 := Hid.mk hkd2
 simp only [slotV, intV] at hmay
 refine ospec_of_body follows Tryz.func238 (by unfold Tryz.f238; rfl) (by unfold Tryz.f238; simp) onceSB (by unfold Tryz.f238; simp) (by kernel_rfl) ?_; unfold Tryz.f238
 simp only [↓pre, simprocAttr, parV, sx, tys238, onceSB, bne, postU, postV, f1, f2, q1, q2, sr]
 (first | refine call_plain (hsz) (by first | rfl | simp only [parV, plQ, *]) ?_ | refine call_pure (hsz) (by first | rfl | simp only [parV, plQ, *]) (by intro k; first | rfl | simp only [sq, sr, *]) ?_); simp only [↓pre, simprocAttr, parV, sx, tys238, onceSB, bne, postU, postV, f1, f2, q1, q2, hmk, sr]; (first | refine call_plain (hmay) (by first | rfl | simp only [parV, plQ, *]) ?_ | refine call_pure (hmay) (by first | rfl | simp only [parV, plQ, *]) (by intro k; first | rfl | simp only [sq, sr, *]) ?_); simp only [↓pre, simprocAttr, parV, sx, tys238, onceSB, bne, postU, postV, f1, f2, q1, q2, hmk, sr]
 refine contW_fixed (by kernel_rfl) ?_
 simp only [↓pre, simprocAttr, parV, sx, tys238, onceSB, bne, postU, postV, f1, f2, q1, q2, hix2, build4, sr]
 generalize hm1 : Mem.push Mem.empty _ = m1
 have hown1 : Own1 m1 5 1 (.sl Mem.empty.next 0 0 SZ true) 0 [] := by
   rw [← hm1]
   exact ⟨.inr ⟨_, SZ, rfl, by rw [push_at, if_pos rfl], by rw [push_next]; omega, rfl, rfl, by have := hSZ2.out; omega⟩⟩
 refine app_one (sz := 1) (y := 1) (zl := [.int .u8 0]) (by kernel_rfl) hown1 (by kernel_rfl) (by kernel_rfl) (by kernel_rfl) rfl (src_tree (by simp)) rfl (by omega) (by omega) (by omega) ?_
 intro v2 m2 ho2 hn2
 clear hm1 hown1
 have hcs2 : ([] : List AV) ++ ([.val (.int .u8 84), .val (.int .u8 50), .val (.int .u8 kd), .val (.int .u8 ((UInt8.ofNat ix.toNat).toNat : Int))] : List AV).take (4 * 1) = bytesA [84, 50, UInt8.ofNat kd.toNat, UInt8.ofNat ix.toNat] := by
   have h9 := hkd2.out
   show ([.val (.int .u8 84), .val (.int .u8 50), .val (.int .u8 kd), .val (.int .u8 ((UInt8.ofNat ix.toNat).toNat : Int))] : List AV) = [byteV 84, byteV 50, byteV (UInt8.ofNat kd.toNat), byteV (UInt8.ofNat ix.toNat)]
   unfold byteV
   rw [← h9]
   rfl
 rw [hcs2] at ho2
 have ho2 : Own m2 5 1 v2 (bytesA [84, 50, UInt8.ofNat kd.toNat, UInt8.ofNat ix.toNat]).length (bytesA [84, 50, UInt8.ofNat kd.toNat, UInt8.ofNat ix.toNat]) := ho2
 generalize hB0 : bytesA [84, 50, UInt8.ofNat kd.toNat, UInt8.ofNat ix.toNat] = B0 at *
 have hB0l : B0.length = 4 := by rw [← hB0]; rfl
 have c1 := hput.out m2 v2 B0 ce ho2 (by have := hce.out; omega) (by have := hce.out; omega) (by omega)
 have o1 := growB_own (bytesA (numB ce 4)) m2 v2 B0 ho2
 rw [← List.length_append] at o1
 have c2 := hput.out _ _ _ st o1 (by have := hst.out; omega) (by have := hst.out; omega) (by rw [List.length_append, bytesA_len, numB_len]; omega)
 have o2 := growB_own (bytesA (numB st 4)) _ _ _ o1
 rw [← List.length_append] at o2
 generalize growB 5 m2 v2 B0 (bytesA (numB ce 4)) = G1 at *
 generalize growB 5 G1.1 G1.2 (B0 ++ bytesA (numB ce 4)) (bytesA (numB st 4)) = G2 at *
 replace o1 := Hid.mk o1
 replace o2 := Hid.mk o2
 replace ho2 := Hid.mk ho2
 replace hB0l := Hid.mk hB0l
 replace hB0 := Hid.mk hB0
 replace hcs2 := Hid.mk hcs2
 simp only [intV] at c1 c2
 refine contW_fixed (by kernel_rfl) ?_
 simp only [↓pre, simprocAttr, parV, sx, tys238, onceSB, bne, postU, postV, f1, f2, q1, q2, sr]
 refine call_det c1 ?_
 refine contW_fixed (by kernel_rfl) ?_
 simp only [↓pre, simprocAttr, parV, sx, tys238, onceSB, bne, postU, postV, f1, f2, q1, q2, sr]
 refine call_det c2 ?_
 refine contW_fixed (by kernel_rfl) ?_
 simp only [↓pre, simprocAttr, parV, sx, tys238, onceSB, bne, postU, postV, f1, f2, q1, q2, hv.len', sr]
 generalize hCS : B0 ++ bytesA (numB ce 4) ++ bytesA (numB st 4) = CS at *
 have hCSl : CS.length = 12 := by rw [← hCS, List.length_append, List.length_append, bytesA_len, bytesA_len, numB_len, numB_len, hB0l.out]
 have hO : Own G2.1 5 1 G2.2 (CS ++ bytesA (vecB (vec.take 0))).length (CS ++ bytesA (vecB (vec.take 0))) := by simpa [vecB, bytesA] using o2.out
 rw [codeW_loop]
 refine loop_intro (fun q e m => ∃ i, q + i = vec.length ∧ e 3 = .tptr 0 [.val (.int .u8 kd), .val (.int .i64 ix), .val (.int .i64 ce), .val (.int .i64 st), vv, dv] ∧ e 40 = vv ∧ e 41 = intV (vec.length : Nat) ∧ e 42 = intV (i : Nat) ∧ Hid (Own m 5 1 (e 8) (CS ++ bytesA (vecB (vec.take i))).length (CS ++ bytesA (vecB (vec.take i))))) vec.length ⟨0, by omega, rfl, rfl, rfl, rfl, ⟨hO⟩⟩ ?_
 rintro q e m ⟨i, hq, e3, e40, e41, e42, hJ⟩
 replace hq := Hid.mk hq
 generalize hv0 : e 8 = v0 at *
 by_cases hlt : i < vec.length
 · have hlt' : ((i : Nat) : Int) < ((vec.length : Nat) : Int) := by omega
   have wi := wrap_succ (n := i) (by have := hslA.out; omega)
   obtain ⟨z, hz⟩ : ∃ z, vec[i]? = some z := ⟨_, List.getElem?_eq_getElem hlt⟩
   have hza := int_at (x := x) hz
   have hzv := hvv.out z (List.mem_of_getElem? hz)
   have hvs : vecB (vec.take (i + 1)) = vecB (vec.take i) ++ numB z 4 := by rw [List.take_add_one, hz]; simp [vecB]
   have hlen : (CS ++ bytesA (vecB (vec.take i))).length ≤ 100 := by rw [List.length_append, bytesA_len, vecB_len, List.length_take]; have := hslA.out; omega
   have c3 := hput.out m v0 _ z hJ.out (by omega) (by omega) (by omega)
   have o3 := growB_own (bytesA (numB z 4)) m v0 _ hJ.out
   rw [← List.length_append, List.append_assoc, ← bytesA_append, ← hvs] at o3
   replace hz := Hid.mk hz
   replace hzv := Hid.mk hzv
   replace hvs := Hid.mk hvs
   replace o3 := Hid.mk o3
   simp only [intV] at c3
   simp only [↓pre, simprocAttr, parV, sx, tys238, onceSB, bne, postU, postV, f1, f2, q1, q2, hv0, e3, e40, e41, e42, hlt', hv.addr', hlt, hza, sr]
   refine call_det c3 ?_
   simp only [↓pre, simprocAttr, parV, sx, tys238, onceSB, bne, postU, postV, f1, f2, q1, q2, hv0, e3, e40, e41, e42, wi, sr]
   exact ⟨q - 1, by have := hq.out; omega, i + 1, by have := hq.out; omega, rfl, ⟨o3.out⟩⟩
 · have hlt' : ¬ ((i : Nat) : Int) < ((vec.length : Nat) : Int) := by omega
   have hi : i = vec.length := by have := hq.out; omega
   subst hi
   rw [List.take_length] at hJ
   have hsrc := RdSl.src (P := Tryz.prog) (m := m) (el := 5) (sz := 1) hd (by rw [Nat.mul_one, List.length_append, bytesA_len]; omega)
   rw [Nat.mul_one, List.take_left' (bytesA_len data)] at hsrc
   have hlen : (CS ++ bytesA (vecB vec)).length ≤ 100 := by rw [List.length_append, bytesA_len, vecB_len]; have := hslA.out; omega
   have hdn : data.length ≤ 64 := by have := hdl.out; have := hmn.out; omega
   simp only [↓pre, simprocAttr, parV, sx, tys238, onceSB, bne, postU, postV, f1, f2, q1, q2, hv0, e3, e40, e41, e42, hlt', sr]
   refine app_rule (sz := 1) (y := 1) (zl := [.int .u8 0]) (by kernel_rfl) hJ.out (by kernel_rfl) (by kernel_rfl) (by kernel_rfl) rfl hsrc (by rw [bytesA_len]; omega) (by omega) (by omega) ?_
   intro v4 m4 ho4 hn4
   simp only [↓pre, simprocAttr, parV, sx, tys238, onceSB, bne, postU, postV, f1, f2, q1, q2, hv0, e3, e40, e41, e42, sr]
   have hfl : (CS ++ bytesA (vecB vec)) ++ bytesA data = bytesA (slotB ⟨kd, ix, ce, st, vec, data⟩) := by
     rw [hfin.out, ← hCS, ← hB0.out]
     simp only [bytesA_append, List.append_assoc]
   have hll : (CS ++ bytesA (vecB vec)).length + data.length = (slotB ⟨kd, ix, ce, st, vec, data⟩).length := by
     have := congrArg List.length hfl
     rw [List.length_append, bytesA_len, bytesA_len] at this
     exact this
   rw [hfl, hll] at ho4
   exact ⟨0, by rw [fzT_tup, fzTs_cons, own_fzT ho4, Option.bind_some, fzTs_cons, fzT_val, fzTs_nil]; rfl⟩
structure PutC where
 dr : Nat
 row : Int
 sl : Nat
 bs : List UInt8
def PutC.cells (p : PutC) : List AV := [intV p.dr, intV p.row, intV p.sl, treeR p.bs.length (bytesA p.bs)]
def putsA (l : List PutC) : List AV := l.flatMap PutC.cells
structure WrA (m0 m : Mem) (a : Nat) (k r c w : Int) (row : AV) (num : Int) (kv : AV) (l : List PutC) : Prop where
 ex : ∃ v, m.at_ a = some ⟨[intV k, intV r, intV c, intV w, row, intV num, kv, v], 195, .var, true⟩ ∧ OwnK .var m 69 4 v l.length (putsA l) ∧ NewV m0 v
 lt : a < m0.next
 next : m0.next ≤ m.next
 mm : m.mm = m0.mm
 at_ : ∀ j k, m0.at_ j = some k → j < m0.next → j ≠ a → m.at_ j = some k
def keepI (o : Option (List Int)) (i : Nat) : Int := match o with | some l => l.getD i 0 | none => 0
def putC (k r c w : Int) (ps : List PairB) (num : Int) (o : Option (List Int)) (s : SlotC) : PutC := ⟨s.ix.toNat, num, olderN k r c w (ps.getD s.ix.toNat ([], [])) s.ix s.kd (keepI o s.ix.toNat), slotB s⟩
theorem build_put {m : Mem} {a b c : Int} {BV : AV} {n : Nat} {cs : List AV} (h : RdSl BV n cs) : buildTreeE Tryz.prog m 27 1 [(0, .agg [.val (.int .i64 a), .val (.int .i64 b), .val (.int .i64 c), BV])] = some ⟨.tree 1 1 [.val (.int .i64 a), .val (.int .i64 b), .val (.int .i64 c), BV] true, m, none⟩ := by
 have h1 : elE Tryz.prog 27 = some 69 := by kernel_rfl
 have h2 : szE Tryz.prog 69 = some 4 := by kernel_rfl
 have h5 : zeroE Tryz.prog 69 = some [.int .i64 0, .int .i64 0, .int .i64 0, .slice none 0 0] := by kernel_rfl
 have hr : hasRef BV = false := by rcases h.form with ⟨rfl, _⟩ | ⟨_, _, rfl, _⟩ | ⟨_, _, rfl, _⟩ <;> rfl
 simp [buildTreeE, h1, h2, h5, zerosE, List.range_succ, fillE, okA, oneA, splice, AV.cells, hasRefs, hasRef, outV, rd_okA h, rd_one h, hr]
structure Kept' (m m' : Mem) (pv : AV) : Prop where
 next : m.next ≤ m'.next
 mm : m'.mm = m.mm
 at_ : ∀ j k, m.at_ j = some k → j < m.next → blkOf pv ≠ some j → m'.at_ j = some k
def oncePu : Nat → Bool := fun d => d != 13 && d != 29 && d != 38 && d != 42 && d != 62 && d != 68
theorem writer_put (k r c w num : Int) (v : AV) (ps : List PairB) (cells : List AV) (hv : RowV v ps cells) (hm : mayB k r c w = true) (hr : rowB k r c ps = true) (o : Option (List Int)) (ho : ∀ l, o = some l → (l.length : Int) = k + r ∧ ∀ v ∈ l, 1 ≤ v ∧ v ≤ 1073741824) (s : SlotC) (hs : SlotOk k r c w s) (vv dv : AV) (x y : List AV) (hvv : RdSl vv s.vec.length (intsA s.vec ++ x)) (hd : RdSl dv s.data.length (bytesA s.data ++ y)) (m0 m : Mem) (a : Nat) (l : List PutC) (hl1 : l.length ≤ 1000) (hw : WrA m0 m a k r c w v num (vecA o) l) : OSpec Tryz.prog 164 [.ptr a 0, .agg [.val (.int .u8 s.kd), intV s.ix, intV s.ce, intV s.st, vv, dv]] m fun res m' => res = intV 0 ∧ WrA m0 m' a k r c w v num (vecA o) (l ++ [putC k r c w ps num o s]) := by
 have hsb := slot_Bytes k r c w s vv dv x y hvv hd hm hs
 have hmn := may_n hm
 obtain ⟨hl, hpr⟩ := row_at hr
 obtain ⟨pv, hat, hown, hnew⟩ := hw.ex
 obtain ⟨i, hi⟩ : ∃ i : Nat, s.ix = (i : Int) := ⟨s.ix.toNat, by have := hs.ix0; omega⟩
 have hin : s.ix.toNat = i := by omega
 have hvl := (vec_ok hs.vec).1
 have hip : i < ps.length := by have := hs.ix1; omega
 have hkd := hs.kd
 obtain ⟨p, hpi⟩ : ∃ p, ps[i]? = some p := ⟨_, List.getElem?_eq_getElem hip⟩
 have hpg : ps.getD i ([], []) = p := by rw [List.getD_eq_getElem?_getD, hpi]; rfl
 obtain ⟨pa, pb, xa, xb, ha, hb, hra, hrb⟩ := hv.at_ i p hpi
 obtain ⟨ht, htl⟩ := take2 ha hb
 have hkp : 0 ≤ keepI o i ∧ keepI o i ≤ 1073741824 := by
   unfold keepI
   cases o with
   | some l2 =>
     obtain ⟨g1, g2⟩ := ho l2 rfl
     have hlt : i < l2.length := by omega
     have := g2 (l2.getD i 0) (by rw [List.getD_eq_getElem?_getD, List.getElem?_eq_getElem hlt]; exact List.getElem_mem _)
     simp only
     omega
   | none => simp only; omega
 have hol := cell_Older k r c w (i : Nat) s.kd (keepI o i) pa pb p xa xb hra hrb hm (hpr p (List.mem_of_getElem? hpi)) hkd (by omega) (by have := hs.ix1; omega) hkp.1 hkp.2
 have hpc : putC k r c w ps num o s = ⟨i, num, olderN k r c w p (i : Nat) s.kd (keepI o i), slotB s⟩ := by
   unfold putC
   rw [hin, hpg, hi]
 rw [hpc]
 have hsl : (slotB s).length ≤ 1000 := by
   have h1 := hs.data
   have h2 := hs.ix1
   unfold slotB
   simp only [List.length_append, numB_len, vecB_len, List.length_cons, List.length_nil]
   omega
 generalize olderN k r c w p (i : Nat) s.kd (keepI o i) = N at *
 generalize slotB s = B at *
 have hBr := treeR_rd (B.length) (bytesA B)
 have hrw : ∃ BV, treeR B.length (bytesA B) = BV := ⟨_, rfl⟩
 obtain ⟨BV, hBV⟩ := hrw
 rw [hBV] at hsb hBr
 have f3 := rd_fz hBr
 have q3 := rd_one hBr
 have t3 := rd_shift hBr
 have p3 := hBr.plain
 have k3 := rd_okA hBr
 have c3 := rd_cells hBr
 replace hBV := Hid.mk hBV
 replace hBr := Hid.mk hBr
 have f1 := rd_fz hvv
 have f2 := rd_fz hd
 have q1 := rd_one hvv
 have q2 := rd_one hd
 have pv1 := hvv.plain
 have pd1 := hd.plain
 have pa1 := hra.plain
 have pb1 := hrb.plain
 obtain ⟨kd, ix, ce, st, vec, data⟩ := s
 simp only at *
 subst hi
 replace hw := Hid.mk hw
 replace hnew := Hid.mk hnew
 replace hown := Hid.mk hown
 replace ho := Hid.mk ho
 replace hkp := Hid.mk hkp
 replace hpi := Hid.mk hpi
 replace hmn := Hid.mk hmn
 replace hs := Hid.mk hs
 replace hpr := Hid.mk hpr
 simp only [intV] at hat
 refine ospec_of_body follows Tryz.func164 (by unfold Tryz.f164; rfl) (by unfold Tryz.f164; simp) oncePu (by unfold Tryz.f164; simp) (by kernel_rfl) ?_; unfold Tryz.f164
 simp only [↓pre, simprocAttr, parV, sx, tys164, oncePu, bne, postU, postA, storeE, allocE, put_at, push_at, f1, f2, q1, q2, f3, q3, t3, ↓k3, ↓c3, hat, sr]
 (first | refine call_plain (hsb) (by first | rfl | simp only [parV, plQ, *]) ?_ | refine call_pure (hsb) (by first | rfl | simp only [parV, plQ, *]) (by intro k; first | rfl | simp only [sq, sr, *]) ?_); simp only [↓pre, simprocAttr, parV, sx, tys164, oncePu, bne, postU, postA, storeE, allocE, put_at, push_at, f1, f2, q1, q2, f3, q3, t3, ↓k3, ↓c3, hat, sr]
 have hgo : ∀ (v' : AV) (m' : Mem), OwnK .var m' 69 4 v' (l.length + 1) (putsA l ++ [intV (i : Nat), intV num, intV (N : Nat), BV]) → Kept' m m' pv → NewV m0 v' → (m'.at_ a = m.at_ a) ∧ WrA m0 (m'.put a (some ⟨[intV k, intV r, intV c, intV w, v, intV num, vecA o, v'], 195, .var, true⟩)) a k r c w v num (vecA o) (l ++ [⟨i, num, N, B⟩]) := fun v' m' h1 h2 h3 => by
   have hw := hw.out
   have hne : ∀ {u : AV}, NewV m0 u → blkOf u ≠ some a := fun hu h => by have := hu a h; have := hw.lt; omega
   have hpn := hnew.out
   refine ⟨?_, ⟨⟨v', ?_, ?_, h3⟩, hw.lt, by rw [put_next]; exact Nat.le_trans hw.next h2.next, by show m'.mm = m0.mm; rw [h2.mm, hw.mm], fun j x hj hlj hja => ?_⟩⟩
   · rw [hat]; exact h2.at_ a _ hat (by have := hw.lt; have := hw.next; omega) (hne hpn)
   · rw [put_at, if_pos rfl]
   · have hpl : putsA (l ++ [⟨i, num, N, B⟩]) = putsA l ++ [intV (i : Nat), intV num, intV (N : Nat), BV] := by
       rw [← hBV.out]
       simp [putsA, PutC.cells]
     rw [hpl, List.length_append]
     exact h1.put_ne (hne h3)
   · rw [put_at, if_neg hja]
     exact h2.at_ j x (hw.at_ j x hj hlj hja) (by have := hw.next; omega) (fun h => by have := hpn j h; omega)
 replace hgo := Hid.mk hgo
 have hpn : ∀ (m' : Mem) (v' : AV), (m.next ≤ m'.next) → (∀ j, blkOf v' = some j → j = m.next ∨ blkOf pv = some j) → NewV m0 v' := fun m' v' _ h j hj => by
   rcases h j hj with h | h
   · rw [h]; exact hw.out.next
   · exact hnew.out j h
 replace hpn := Hid.mk hpn
 have hll : l.length ≤ 1000 := hl1
 replace hll := Hid.mk hll
 have hsrc : srcE Tryz.prog 69 4 m (.tree 1 1 [.val (.int .i64 (i : Nat)), .val (.int .i64 num), .val (.int .i64 (N : Nat)), BV] true) = some ([intV (i : Nat), intV num, intV (N : Nat), BV], 1) := by simp [srcE, slView]; exact ⟨rfl, rfl, rfl⟩
 cases o with
 | none =>
   simp only [vecA, nilS] at *
   simp only [keepI] at hol
   have hne : binE Tryz.prog .neq 41 (.tmp 24) (.const (.slice none 0 0)) (.val (.slice none 0 0)) (.val (.slice none 0 0)) = some (boolV false) := by kernel_rfl
   simp only [↓pre, simprocAttr, parV, sx, tys164, oncePu, bne, postU, postA, storeE, allocE, put_at, push_at, f1, f2, q1, q2, f3, q3, t3, ↓k3, ↓c3, hat, hne, hv.rd.addr', hip, ht, htl, sr]
   (first | refine call_plain (hol) (by first | rfl | simp only [parV, plQ, *]) ?_ | refine call_pure (hol) (by first | rfl | simp only [parV, plQ, *]) (by intro k; first | rfl | simp only [sq, sr, *]) ?_); simp only [↓pre, simprocAttr, parV, sx, tys164, oncePu, bne, postU, postA, storeE, allocE, put_at, push_at, f1, f2, q1, q2, f3, q3, t3, ↓k3, ↓c3, hat, hv.rd.addr', hip, ht, htl, sr]
   rw [build_put hBr.out]
   simp only [↓pre, simprocAttr, parV, sx, tys164, oncePu, bne, postU, postA, storeE, allocE, put_at, push_at, f1, f2, q1, q2, f3, q3, t3, ↓k3, ↓c3, hat, sr]
   refine app_keepM (sz := 4) (y := 48) (zl := [.int .i64 0, .int .i64 0, .int .i64 0, .slice none 0 0]) (by kernel_rfl) hown.out (by kernel_rfl) (by kernel_rfl) (by kernel_rfl) rfl hsrc rfl (by have := hll.out; omega) (by have := hll.out; omega) ?_
   intro v' m' g1 g2 g3 g4 g5
   obtain ⟨g6, g7⟩ := hgo.out v' m' g1 ⟨g2, g5, g3⟩ (hpn.out m' v' g2 g4)
   rw [hat] at g6
   have kv : okA v' = true := by rcases g1.form with ⟨rfl, _⟩ | ⟨_, rfl, _⟩ <;> rfl
   have cv : v'.cells = [v'] := by rcases g1.form with ⟨rfl, _⟩ | ⟨_, rfl, _⟩ <;> rfl
   replace g1 := Hid.mk g1
   replace g7 := Hid.mk g7
   refine contW_fixed (by kernel_rfl) ?_
   have hst : ∀ q, storeE Tryz.prog m' 27 q v' (.ptr a 7) = outV undefA (m'.put a (some ⟨[intV k, intV r, intV c, intV w, v, intV num, .val (.slice none 0 0), v'], 195, .var, true⟩)) := by
     have hs1 : szE Tryz.prog 27 = some 1 := by kernel_rfl
     intro q
     simp [storeE, g6, hs1, kv, cv, splice, intV]
   simp only [↓pre, simprocAttr, parV, sx, tys164, oncePu, bne, postU, postA, allocE, put_at, push_at, f1, f2, q1, q2, f3, q3, t3, ↓k3, ↓c3, hat, hst, sr]
   refine contW_fixed (by kernel_rfl) ?_
   simp only [↓pre, simprocAttr, parV, sx, tys164, oncePu, bne, postU, postA, allocE, put_at, push_at, f1, f2, q1, q2, f3, q3, t3, ↓k3, ↓c3, hat, sr]
   exact g7.out
 | some o =>
   obtain ⟨ho1, ho2⟩ := ho.out o rfl
   have hio : i < o.length := by omega
   obtain ⟨z, hz⟩ : ∃ z, o[i]? = some z := ⟨_, List.getElem?_eq_getElem hio⟩
   have hza := int_at (x := []) hz
   rw [List.append_nil] at hza
   have hrdo : RdSl (.tree o.length o.length (intsA o) false) o.length (intsA o) := ⟨.inr (.inr ⟨_, false, rfl, Nat.le_refl _⟩)⟩
   have hgz : keepI (some o) i = z := by unfold keepI; simp only; rw [List.getD_eq_getElem?_getD, hz]; rfl
   rw [hgz] at hol
   have hne : binE Tryz.prog .neq 41 (.tmp 24) (.const (.slice none 0 0)) (.tree o.length o.length (intsA o) false) (.val (.slice none 0 0)) = some (boolV true) := by kernel_rfl
   simp only [vecA] at *
   replace ho1 := Hid.mk ho1
   replace hz := Hid.mk hz
   simp only [↓pre, simprocAttr, parV, sx, tys164, oncePu, bne, postU, postA, storeE, allocE, put_at, push_at, f1, f2, q1, q2, f3, q3, t3, ↓k3, ↓c3, hat, hne, hrdo.addr', hio, hza, hv.rd.addr', hip, ht, htl, sr]
   (first | refine call_plain (hol) (by first | rfl | simp only [parV, plQ, *]) ?_ | refine call_pure (hol) (by first | rfl | simp only [parV, plQ, *]) (by intro k; first | rfl | simp only [sq, sr, *]) ?_); simp only [↓pre, simprocAttr, parV, sx, tys164, oncePu, bne, postU, postA, storeE, allocE, put_at, push_at, f1, f2, q1, q2, f3, q3, t3, ↓k3, ↓c3, hat, hv.rd.addr', hip, ht, htl, sr]
   rw [build_put hBr.out]
   simp only [↓pre, simprocAttr, parV, sx, tys164, oncePu, bne, postU, postA, storeE, allocE, put_at, push_at, f1, f2, q1, q2, f3, q3, t3, ↓k3, ↓c3, hat, sr]
   refine app_keepM (sz := 4) (y := 48) (zl := [.int .i64 0, .int .i64 0, .int .i64 0, .slice none 0 0]) (by kernel_rfl) hown.out (by kernel_rfl) (by kernel_rfl) (by kernel_rfl) rfl hsrc rfl (by have := hll.out; omega) (by have := hll.out; omega) ?_
   intro v' m' g1 g2 g3 g4 g5
   obtain ⟨g6, g7⟩ := hgo.out v' m' g1 ⟨g2, g5, g3⟩ (hpn.out m' v' g2 g4)
   rw [hat] at g6
   have kv : okA v' = true := by rcases g1.form with ⟨rfl, _⟩ | ⟨_, rfl, _⟩ <;> rfl
   have cv : v'.cells = [v'] := by rcases g1.form with ⟨rfl, _⟩ | ⟨_, rfl, _⟩ <;> rfl
   replace g1 := Hid.mk g1
   replace g7 := Hid.mk g7
   refine contW_fixed (by kernel_rfl) ?_
   have hst : ∀ q, storeE Tryz.prog m' 27 q v' (.ptr a 7) = outV undefA (m'.put a (some ⟨[intV k, intV r, intV c, intV w, v, intV num, .tree o.length o.length (intsA o) false, v'], 195, .var, true⟩)) := by
     have hs1 : szE Tryz.prog 27 = some 1 := by kernel_rfl
     intro q
     simp [storeE, g6, hs1, kv, cv, splice, intV]
   simp only [↓pre, simprocAttr, parV, sx, tys164, oncePu, bne, postU, postA, allocE, put_at, push_at, f1, f2, q1, q2, f3, q3, t3, ↓k3, ↓c3, hat, hst, sr]
   refine contW_fixed (by kernel_rfl) ?_
   simp only [↓pre, simprocAttr, parV, sx, tys164, oncePu, bne, postU, postA, allocE, put_at, push_at, f1, f2, q1, q2, f3, q3, t3, ↓k3, ↓c3, hat, sr]
   exact g7.out
def begI (k r c w : Int) (ps : List PairB) (num kd keep ver : Int) : Int := if lookI k r c w ps = 0 then (if num < 0 ∨ w ≤ num ∨ keep < 0 ∨ 1073741824 < keep then 2 else kindsI kd ver) else lookI k r c w ps
def keepO (k r c w : Int) (ps : List PairB) (kd keep : Int) : Option (List Int) := if 0 < keep then toldL k r c w ps kd keep else none
def begV (k r c w : Int) (v : AV) (ps : List PairB) (num kd keep : Int) : List AV := [intV k, intV r, intV c, intV w, v, intV num, vecA (keepO k r c w ps kd keep), nilS]
theorem look_parts {k r c w : Int} {ps : List PairB} (h : lookI k r c w ps = 0) : mayB k r c w = true ∧ rowB k r c ps = true := by
 unfold lookI at h
 split at h
 · rename_i h1
   split at h
   · rename_i h2; exact ⟨h1, h2⟩
   · simp at h
 · simp at h
def onceBe : Nat → Bool := fun d => d != 53
theorem stripe_begin (k r c w num kd keep ver : Int) (v : AV) (ps : List PairB) (cells : List AV) (hv : RowV v ps cells) (m : Mem) : OSpec Tryz.prog 159 [parV k r c w, v, intV num, .val (.int .u8 kd), intV keep, intV ver] m fun res m' => res = (if begI k r c w ps num kd keep ver = 0 then .tup [.ptr m.next 0, intV 0] else .tup [.val (.pointer none), intV (begI k r c w ps num kd keep ver)]) ∧ m' = (if begI k r c w ps num kd keep ver = 0 then m.push ⟨begV k r c w v ps num kd keep, 195, .var, true⟩ else m) := by
 have hlk := stripe_look k r c w v ps cells hv
 have hki := stripe_kinds kd ver
 have htold := fun hm hr => stripe_told k r c w kd keep v ps cells hv hm hr
 have hp := hv.rd.plain
 have ov := rd_one hv.rd
 have kv := rd_okA hv.rd
 have cv := rd_cells hv.rd
 have hlp := fun h => look_parts (k := k) (r := r) (c := c) (w := w) (ps := ps) h
 unfold begI
 replace htold := Hid.mk htold
 replace hlp := Hid.mk hlp
 refine ospec_of_body follows Tryz.func159 (by unfold Tryz.f159; rfl) (by unfold Tryz.f159; simp) onceBe (by unfold Tryz.f159; simp) (by kernel_rfl) ?_; unfold Tryz.f159
 simp only [↓pre, simprocAttr, parV, sx, tys159, onceBe, bne, postU, postA, storeE, allocE, put_at, push_at, ov, ↓kv, ↓cv, sr]
 (first | refine call_plain (hlk) (by first | rfl | simp only [parV, plQ, *]) ?_ | refine call_pure (hlk) (by first | rfl | simp only [parV, plQ, *]) (by intro k; first | rfl | simp only [sq, sr, *]) ?_); simp only [↓pre, simprocAttr, parV, sx, tys159, onceBe, bne, postU, postA, storeE, allocE, put_at, push_at, ov, ↓kv, ↓cv, sr]
 by_cases hl : lookI k r c w ps = 0
 · by_cases c1 : num < 0
   · simp only [↓pre, simprocAttr, parV, sx, tys159, onceBe, bne, postU, postA, storeE, allocE, put_at, push_at, ov, ↓kv, ↓cv, hl, c1, true_or, sr]
   · by_cases c2 : w ≤ num
     · simp only [↓pre, simprocAttr, parV, sx, tys159, onceBe, bne, postU, postA, storeE, allocE, put_at, push_at, ov, ↓kv, ↓cv, hl, c1, c2, true_or, or_true, sr]
     · by_cases c3 : keep < 0
       · simp only [↓pre, simprocAttr, parV, sx, tys159, onceBe, bne, postU, postA, storeE, allocE, put_at, push_at, ov, ↓kv, ↓cv, hl, c1, c2, c3, true_or, or_true, sr]
       · by_cases c4 : 1073741824 < keep
         · simp only [↓pre, simprocAttr, parV, sx, tys159, onceBe, bne, postU, postA, storeE, allocE, put_at, push_at, ov, ↓kv, ↓cv, hl, c1, c2, c3, c4, true_or, or_true, sr]
         · simp only [↓pre, simprocAttr, parV, sx, tys159, onceBe, bne, postU, postA, storeE, allocE, put_at, push_at, ov, ↓kv, ↓cv, hl, c1, c2, c3, c4, or_self, sr]
           (first | refine call_plain (hki) (by first | rfl | simp only [parV, plQ, *]) ?_ | refine call_pure (hki) (by first | rfl | simp only [parV, plQ, *]) (by intro k; first | rfl | simp only [sq, sr, *]) ?_); simp only [↓pre, simprocAttr, parV, sx, tys159, onceBe, bne, postU, postA, storeE, allocE, put_at, push_at, ov, ↓kv, ↓cv, sr]
           by_cases c5 : kindsI kd ver = 0
           · by_cases c6 : 0 < keep
             · obtain ⟨hm, hr⟩ := hlp.out hl
               have htold := htold.out hm hr
               have hko : keepO k r c w ps kd keep = toldL k r c w ps kd keep := by unfold keepO; rw [if_pos c6]
               unfold begV
               rw [hko]
               cases hT : toldL k r c w ps kd keep with
               | none =>
                 rw [hT] at htold
                 unfold vecA nilS at htold ⊢
                 simp only [↓pre, simprocAttr, parV, sx, tys159, onceBe, bne, postU, postA, storeE, allocE, put_at, push_at, ov, ↓kv, ↓cv, c5, c6, sr]
                 (first | refine call_plain (htold) (by first | rfl | simp only [parV, plQ, *]) ?_ | refine call_pure (htold) (by first | rfl | simp only [parV, plQ, *]) (by intro k; first | rfl | simp only [sq, sr, *]) ?_); simp only [↓pre, simprocAttr, parV, sx, tys159, onceBe, bne, postU, postA, storeE, allocE, put_at, push_at, ov, ↓kv, ↓cv, sr]
                 exact push_put rfl
               | some l =>
                 rw [hT] at htold
                 unfold vecA at htold ⊢
                 simp only [↓pre, simprocAttr, parV, sx, tys159, onceBe, bne, postU, postA, storeE, allocE, put_at, push_at, ov, ↓kv, ↓cv, c5, c6, sr]
                 (first | refine call_plain (htold) (by first | rfl | simp only [parV, plQ, *]) ?_ | refine call_pure (htold) (by first | rfl | simp only [parV, plQ, *]) (by intro k; first | rfl | simp only [sq, sr, *]) ?_); simp only [↓pre, simprocAttr, parV, sx, tys159, onceBe, bne, postU, postA, storeE, allocE, put_at, push_at, ov, ↓kv, ↓cv, sr]
                 exact push_put rfl
             · have hko : keepO k r c w ps kd keep = none := by unfold keepO; rw [if_neg c6]
               simp only [↓pre, simprocAttr, parV, sx, tys159, onceBe, bne, postU, postA, storeE, allocE, put_at, push_at, ov, ↓kv, ↓cv, c5, c6, sr]
               unfold begV
               rw [hko]
               rfl
           · simp only [↓pre, simprocAttr, parV, sx, tys159, onceBe, bne, postU, postA, storeE, allocE, put_at, push_at, ov, ↓kv, ↓cv, c5, sr]
 · simp only [↓pre, simprocAttr, parV, sx, tys159, onceBe, bne, postU, postA, storeE, allocE, put_at, push_at, ov, ↓kv, ↓cv, hl, sr]
def thereB (l : List Bool) : List AV := l.map boolV
theorem thereB_len (l : List Bool) : (thereB l).length = l.length := List.length_map _
theorem Mend_1 (m : Mem) (i N a b : Nat) (s : SlA) (hs : s.Rd) (l : List Bool) (hi : i < N) (hN : l.length = N) (h0 : m.at_ a = some ⟨thereB l, 4, .flat, true⟩) (h1 : m.at_ b = some ⟨[.sl a 0 N N true], 25, .var, true⟩) : OSpec Tryz.prog 162 [intV (i : Nat), .agg s.cells, .ptr b 0] m fun res m' => res = .tup [] ∧ m' = m.put a (some ⟨thereB (l.set i true), 4, .flat, true⟩) := by
 obtain ⟨⟨n1, y1, g1⟩, ⟨n2, y2, g2⟩⟩ := hs
 have f1 := rd_fz g1
 have f2 := rd_fz g2
 have q1 := rd_one g1
 have q2 := rd_one g2
 have hl : i + 1 ≤ (thereB l).length := by rw [thereB_len]; omega
 have hsp : List.take i (thereB l) ++ [AV.val (Value.bool true)] ++ List.drop (i + 1) (thereB l) = thereB (l.set i true) := by
   rw [List.set_eq_take_append_cons_drop, if_pos (by omega)]
   unfold thereB
   simp [List.map_take, List.map_drop, boolV]
 obtain ⟨kd, ix, ce, st, vv, dv⟩ := s
 simp only [SlA.cells] at *
 refine ospec_of_body follows Tryz.func162 (by unfold Tryz.f162; rfl) (by unfold Tryz.f162; simp) onceA (by unfold Tryz.f162; simp) (by kernel_rfl) ?_; unfold Tryz.f162
 simp only [↓pre, simprocAttr, parV, sx, tys162, onceA, postU, postA, storeE, allocE, put_at, push_at, Nat.one_ne_zero, Nat.reduceEqDiff, f1, f2, q1, q2, h0, h1, hi, hl, addr_slp, sr]
 rw [hsp]
theorem bool_at {l : List Bool} {i : Nat} {b : Bool} (h : l[i]? = some b) : (thereB l)[i]? = some (.val (.bool b)) := by
 unfold thereB
 rw [List.getElem?_map, h]
 rfl
theorem make_bools (m : Mem) {n : Nat} (hn : n ≤ 32) : makeE Tryz.prog m 25 n n = some ⟨.sl m.next 0 n n true, m.push ⟨thereB (List.replicate n false), 4, .flat, true⟩, none⟩ := by
 have h1 : elE Tryz.prog 25 = some 4 := by kernel_rfl
 have h2 : szE Tryz.prog 4 = some 1 := by kernel_rfl
 have h3 : byE Tryz.prog 4 = some 1 := by kernel_rfl
 have h4 : kindT Tryz.prog 4 = .flat := by kernel_rfl
 have hz := zeros_one h2 (x := .bool false) (by kernel_rfl) n
 have hr : thereB (List.replicate n false) = (List.range n).map fun _ => AV.val (.bool false) := by
   unfold thereB
   rw [List.map_replicate, List.map_const', List.length_range]
   rfl
 rw [hr]
 simp only [makeE, h1, h2, h3, h4, hz, outV, Option.bind_some, Nat.mul_one]
 rw [if_pos (by omega)]
 rw [List.take_of_length_le (by simp)]
def flgB (T : List (List UInt8)) (n : Nat) : List Bool := (List.range T.length).map fun j => decide (j < n) && decide ((T.getD j []).length ≠ 0)
theorem flgB_len (T : List (List UInt8)) (n : Nat) : (flgB T n).length = T.length := by simp [flgB]
theorem flgB_at {T : List (List UInt8)} {n j : Nat} (h : j < T.length) : (flgB T n)[j]? = some (decide (j < n) && decide ((T.getD j []).length ≠ 0)) := by
 unfold flgB
 rw [List.getElem?_map, List.getElem?_range h]
 rfl
theorem flgB_zero (T : List (List UInt8)) : flgB T 0 = List.replicate T.length false := by
 refine List.eq_replicate_iff.2 ⟨flgB_len T 0, fun b hb => ?_⟩
 unfold flgB at hb
 obtain ⟨j, _, rfl⟩ := List.mem_map.1 hb
 simp
theorem flgB_set {T : List (List UInt8)} {i : Nat} (hi : i < T.length) (h : (T.getD i []).length ≠ 0) : (flgB T i).set i true = flgB T (i + 1) := by
 refine List.ext_getElem? fun j => ?_
 rw [List.getElem?_set]
 by_cases hj : j < T.length
 · rw [flgB_at hj, flgB_at hj]
   by_cases e : i = j
   · subst e
     rw [if_pos rfl, if_pos (by rw [flgB_len]; exact hi)]
     simp only [h, Nat.lt_add_one, decide_true, Bool.and_self, ne_eq, not_false_eq_true]
   · rw [if_neg e, show decide (j < i + 1) = decide (j < i) from decide_eq_decide.2 (by omega)]
 · rw [if_neg (by omega), List.getElem?_eq_none (by rw [flgB_len]; omega), List.getElem?_eq_none (by rw [flgB_len]; omega)]
theorem flgB_stay {T : List (List UInt8)} {i : Nat} (h : (T.getD i []).length = 0) : flgB T i = flgB T (i + 1) := by
 unfold flgB
 refine List.map_congr_left fun j _ => ?_
 by_cases e : i = j
 · subst e
   simp only [h, ne_eq, not_true_eq_false, decide_false, Bool.and_false]
 · rw [show decide (j < i + 1) = decide (j < i) from decide_eq_decide.2 (by omega)]
def mendS (k r c w : Int) (ps : List PairB) (kd ver : Int) (i : Nat) : SlotC := ⟨kd, i, ((toldL k r c w ps kd ver).getD []).getD i 0, ver, (toldL k r c w ps kd ver).getD [], tab c.toNat (wholeA k r c w ps kd ver i)⟩
def mendN (k r c w : Int) (ps : List PairB) (num kd keep ver : Int) (n : Nat) : List PutC := (List.range n).flatMap fun i => if ((thereL k r c w ps kd ver).getD i []).length = 0 then [putC k r c w ps num (keepO k r c w ps kd keep) (mendS k r c w ps kd ver i)] else []
theorem mendN_succ (k r c w : Int) (ps : List PairB) (num kd keep ver : Int) (n : Nat) : mendN k r c w ps num kd keep ver (n + 1) = mendN k r c w ps num kd keep ver n ++ (if ((thereL k r c w ps kd ver).getD n []).length = 0 then [putC k r c w ps num (keepO k r c w ps kd keep) (mendS k r c w ps kd ver n)] else []) := by
 unfold mendN
 rw [List.range_succ, List.flatMap_append]
 simp
theorem mendN_le (k r c w : Int) (ps : List PairB) (num kd keep ver : Int) : ∀ n, (mendN k r c w ps num kd keep ver n).length ≤ n
 | 0 => by simp [mendN]
 | n + 1 => by
   rw [mendN_succ, List.length_append]
   have := mendN_le k r c w ps num kd keep ver n
   split <;> simp <;> omega
theorem told_slot {k r c w : Int} {ps : List PairB} {kd ver : Int} {l : List Int} (h : toldL k r c w ps kd ver = some l) : vecE k r c w l = 0 ∧ ver = lastI l := by
 obtain ⟨i, hi, h1⟩ := toldN_some _ _ h
 obtain ⟨h2, bs, _, h3, rfl⟩ := told1_some h1
 refine ⟨h2, ?_⟩
 unfold toldB at h3
 simp only [Bool.and_eq_true, decide_eq_true_eq] at h3
 obtain ⟨h4, h5, h6, h7⟩ := h3
 have := (slot_ok h4).st
 rw [← this, ← h7]
 unfold slA
 rw [if_pos h4]
 rfl
theorem mendS_ok {k r c w : Int} {ps : List PairB} {kd ver : Int} {l : List Int} (hm : mayB k r c w = true) (hk : kd = 1 ∨ kd = 2) (h : toldL k r c w ps kd ver = some l) {i : Nat} (hi : (i : Int) < k + r) : SlotOk k r c w (mendS k r c w ps kd ver i) := by
 obtain ⟨h1, h2⟩ := told_slot h
 have hl := (vec_ok h1).1
 have hmn := may_n hm
 unfold mendS
 rw [h]
 refine ⟨h1, h2, by simp only; omega, by simp only [Option.getD_some]; omega, hk, ?_, ?_⟩
 · simp only [Option.getD_some, Int.toNat_natCast]
   rw [List.getD_eq_getElem?_getD, List.getElem?_eq_getElem (by omega)]
   rfl
 · simp only [tab_len]
   omega
theorem there_told {k r c w : Int} {ps : List PairB} {kd ver : Int} (hm : mayB k r c w = true) (h : ¬ manyN k r c w ps kd ver < k.toNat) : ∃ l, toldL k r c w ps kd ver = some l := by
 cases hT : toldL k r c w ps kd ver with
 | some l => exact ⟨l, rfl⟩
 | none =>
   have hmn := may_n hm
   unfold manyN at h
   rw [thereN_none hT] at h
   simp at h
   omega
def mendE (k r c w : Int) (ps : List PairB) (num kd keep ver : Int) : Int := if begI k r c w ps num kd keep ver = 0 then (if manyN k r c w ps kd ver < k.toNat then 5 else 0) else begI k r c w ps num kd keep ver
def mendV (k r c w : Int) (ps : List PairB) (num kd keep ver : Int) : AV := if mendE k r c w ps num kd keep ver = 0 then .tup [treeR (mendN k r c w ps num kd keep ver (k + r).toNat).length (putsA (mendN k r c w ps num kd keep ver (k + r).toNat)), intV 0] else .tup [nilS, intV (mendE k r c w ps num kd keep ver)]
theorem putsA_id (l : List PutC) : ∀ c ∈ putsA l, fzId c := by
 intro c hc
 obtain ⟨p, _, h⟩ := List.mem_flatMap.1 hc
 unfold PutC.cells at h
 simp only [List.mem_cons, List.not_mem_nil, or_false] at h
 rcases h with rfl | rfl | rfl | rfl
 · exact fzId_val _
 · exact fzId_val _
 · exact fzId_val _
 · exact fzId_rd (treeR_rd _ _)
theorem kinds_of {kd ver : Int} (h : kindsI kd ver = 0) : (kd = 1 ∨ kd = 2) ∧ verB ver = true := by
 unfold kindsI at h
 split at h
 · rename_i h1; exact h1
 · simp at h
theorem begI_of {k r c w : Int} {ps : List PairB} {num kd keep ver : Int} (h : begI k r c w ps num kd keep ver = 0) : mayB k r c w = true ∧ rowB k r c ps = true ∧ 0 ≤ num ∧ num < w ∧ 0 ≤ keep ∧ keep ≤ 1073741824 ∧ (kd = 1 ∨ kd = 2) ∧ verB ver = true := by
 unfold begI at h
 split at h
 · rename_i h1
   split at h
   · simp at h
   · rename_i h2
     obtain ⟨a, b⟩ := look_parts h1
     obtain ⟨c, d⟩ := kinds_of h
     exact ⟨a, b, by omega, by omega, by omega, by omega, c, d⟩
 · contradiction
theorem keepO_ok {k r c w : Int} {ps : List PairB} {kd keep : Int} {l : List Int} (h : keepO k r c w ps kd keep = some l) : (l.length : Int) = k + r ∧ ∀ v ∈ l, 1 ≤ v ∧ v ≤ 1073741824 := by
 unfold keepO at h
 split at h
 · exact told_ok h
 · cases h
theorem begV_wr (k r c w num kd keep : Int) (v : AV) (ps : List PairB) (m : Mem) (hb : m.at_ 0 = some ⟨begV k r c w v ps num kd keep, 195, .var, true⟩) (hn : 0 < m.next) : WrA m m 0 k r c w v num (vecA (keepO k r c w ps kd keep)) [] :=
 ⟨⟨nilS, hb, own_nil, newV_nil m⟩, hn, Nat.le_refl _, rfl, fun j x h _ _ => h⟩
def onceMe : Nat → Bool := fun d => d != 48 && d != 17
theorem stripe_Mend (k r c w num kd keep ver : Int) (v : AV) (ps : List PairB) (cells : List AV) (hv : RowV v ps cells) : FSpec Tryz.prog 90 [parV k r c w, v, intV num, .val (.int .u8 kd), intV keep, intV ver] ⟨mendV k r c w ps num kd keep ver, []⟩ := by
 refine fspec_fzT ?_
 have hp := hv.rd.plain
 have hbeg := fun m => stripe_begin k r c w num kd keep ver v ps cells hv m
 have ov := rd_one hv.rd
 have fv := rd_fz hv.rd
 unfold mendV mendE
 by_cases hB : begI k r c w ps num kd keep ver = 0
 · simp only [hB, if_true] at hbeg ⊢
   obtain ⟨hm, hr, hn1, hn2, hk1, hk2, hkd, hver⟩ := begI_of hB
   have hce := stripe_cells k r c w kd ver v ps cells hv hm hr hkd
   unfold cellsV at hce
   replace hB := Hid.mk hB
   by_cases hlt : manyN k r c w ps kd ver < k.toNat
   · rw [if_pos hlt] at hce
     simp only [hlt, if_true]
     rw [if_neg (by decide)]
     have hf := fun m => fzId_two (fzId_val (.slice none 0 0)) (fzId_val (.int .i64 5)) 1 m
     unfold nilS at hce
     replace hf := Hid.mk hf
     refine ospec_of_body follows Tryz.func90 (by unfold Tryz.f90; rfl) (by unfold Tryz.f90; simp) onceMe (by unfold Tryz.f90; simp) (by kernel_rfl) ?_; unfold Tryz.f90
     simp only [↓pre, simprocAttr, parV, sx, tys90, onceMe, bne, postU, postA, storeE, allocE, put_at, push_at, me0, Nat.one_ne_zero, Nat.reduceEqDiff, Array.size_empty, List.size_toArray, sr]
     refine call_det (hbeg _) ?_
     simp only [↓pre, simprocAttr, parV, sx, tys90, onceMe, bne, postU, postA, storeE, allocE, put_at, push_at, me0, Nat.one_ne_zero, Nat.reduceEqDiff, Array.size_empty, List.size_toArray, sr]
     (first | refine call_plain (hce) (by first | rfl | simp only [parV, plQ, *]) ?_ | refine call_pure (hce) (by first | rfl | simp only [parV, plQ, *]) (by intro k; first | rfl | simp only [sq, sr, *]) ?_); simp only [↓pre, simprocAttr, parV, sx, tys90, onceMe, bne, postU, postA, storeE, allocE, put_at, push_at, me0, Nat.one_ne_zero, Nat.reduceEqDiff, Array.size_empty, List.size_toArray, sr]
     exact ⟨1, hf.out _⟩
   · rw [if_neg hlt] at hce
     simp only [hlt, if_false, if_true]
     obtain ⟨l, hT⟩ := there_told hm hlt
     obtain ⟨hll, hlv⟩ := told_ok hT
     obtain ⟨hl, hpr⟩ := row_at hr
     have hmn := may_n hm
     have hml := mayB_of.1 hm
     obtain ⟨N, hN⟩ : ∃ N : Nat, k + r = (N : Int) := ⟨(k + r).toNat, by omega⟩
     have hNn : (k + r).toNat = N := by omega
     have hpsl : ps.length = N := by omega
     have hlN : l.length = N := by omega
     have htold := stripe_told k r c w kd ver v ps cells hv hm hr
     rw [hT] at htold
     have heach := fun m0 g caps Inv h0 hkeep hdo hno => stripe_each k r c w kd ver v ps cells hv hm hr hkd m0 g caps Inv h0 hkeep hdo hno
     have hTl := thereL_len k r c w ps kd ver
     have hput := fun i (hi : i < N) dv y hd m0 m a ls hls hw => writer_put k r c w num v ps cells hv hm hr (keepO k r c w ps kd keep) (fun l h => keepO_ok h) (mendS k r c w ps kd ver i) (mendS_ok hm hkd hT (by omega)) (.tree l.length l.length (intsA l) false) dv [] y ⟨.inr (.inr ⟨_, false, by rw [List.append_nil]; unfold mendS; rw [hT]; rfl, by unfold mendS; rw [hT]; exact Nat.le_refl _⟩)⟩ hd m0 m a ls hls hw
     have hdat : ∀ (l : List Int) (i : Nat) (p : PairB) (s : SlA), toldL k r c w ps kd ver = some l → ps[i]? = some p → findO k r c w p (i : Nat) kd (l.getD i 0) = some s → ((thereL k r c w ps kd ver).getD i []).length ≠ 0 := fun l i p s h1 h2 h3 => by
       obtain ⟨g1, g2⟩ := datO_some h3
       rw [thereL_at h1 h2]
       omega
     have hdno : ∀ (l : List Int) (i : Nat) (p : PairB), toldL k r c w ps kd ver = some l → ps[i]? = some p → findO k r c w p (i : Nat) kd (l.getD i 0) = none → ((thereL k r c w ps kd ver).getD i []).length = 0 := fun l i p h1 h2 h3 => by
       rw [thereL_at h1 h2, datO_none h3]
       rfl
     have hms := mendN_succ k r c w ps num kd keep ver
     have hmle := mendN_le k r c w ps num kd keep ver
     have hm0 : mendN k r c w ps num kd keep ver 0 = [] := rfl
     have hbw := fun m h1 h2 => begV_wr k r c w num kd keep v ps m h1 h2
     obtain ⟨C, hC⟩ : ∃ C : Nat, c = (C : Int) := ⟨c.toNat, by omega⟩
     have hCn : c.toNat = C := by omega
     have hlh : ∀ i, mendS k r c w ps kd ver i = ⟨kd, i, l.getD i 0, ver, l, tab C (wholeA k r c w ps kd ver i)⟩ := fun i => by unfold mendS; rw [hT, hCn]; rfl
     rw [hCn] at hce
     rw [hNn] at hce ⊢
     have hcat := fun i (h : i < N) => cellsA_at (L := C) (F := wholeA k r c w ps kd ver) (a := 0) h
     have hrdc := treeR_rd N (cellsA C (wholeA k r c w ps kd ver) 0 N)
     have hmk := fun m => make_bools m (n := N) (by omega)
     have shc := rd_shift hrdc
     generalize mendN k r c w ps num kd keep ver = MN at *
     generalize mendS k r c w ps kd ver = MS at *
     generalize keepO k r c w ps kd keep = KO at *
     generalize wholeA k r c w ps kd ver = W at *
     generalize thereL k r c w ps kd ver = T at *
     generalize begV k r c w v ps num kd keep = BW at *
     have hn : T.length = N := by omega
     unfold vecA at htold
     replace hmn := Hid.mk hmn
     replace hml := Hid.mk hml
     replace hbw := Hid.mk hbw
     replace hlh := Hid.mk hlh
     replace hms := Hid.mk hms
     replace hmle := Hid.mk hmle
     replace hdat := Hid.mk hdat
     replace hdno := Hid.mk hdno
     replace hput := Hid.mk hput
     replace heach := Hid.mk heach
     replace hpr := Hid.mk hpr
     replace hlv := Hid.mk hlv
     replace hcat := Hid.mk hcat
     replace hm0 := Hid.mk hm0
     replace hlt := Hid.mk hlt
     refine ospec_of_body follows Tryz.func90 (by unfold Tryz.f90; rfl) (by unfold Tryz.f90; simp) onceMe (by unfold Tryz.f90; simp) (by kernel_rfl) ?_; unfold Tryz.f90
     simp only [↓pre, simprocAttr, parV, sx, tys90, onceMe, bne, postU, postA, storeE, allocE, put_at, push_at, me0, Nat.one_ne_zero, Nat.reduceEqDiff, Array.size_empty, List.size_toArray, sr]
     refine call_det (hbeg _) ?_
     simp only [↓pre, simprocAttr, parV, sx, tys90, onceMe, bne, postU, postA, storeE, allocE, put_at, push_at, me0, Nat.one_ne_zero, Nat.reduceEqDiff, Array.size_empty, List.size_toArray, sr]
     (first | refine call_plain (hce) (by first | rfl | simp only [parV, plQ, *]) ?_ | refine call_pure (hce) (by first | rfl | simp only [parV, plQ, *]) (by intro k; first | rfl | simp only [sq, sr, *]) ?_); simp only [↓pre, simprocAttr, parV, sx, tys90, onceMe, bne, postU, postA, storeE, allocE, put_at, push_at, me0, Nat.one_ne_zero, Nat.reduceEqDiff, Array.size_empty, List.size_toArray, hv.rd.len', hpsl, hmk, sr]
     generalize hm3 : Mem.put (Mem.push _ _) _ _ = m3
     have hb0 : m3.at_ 0 = some ⟨BW, 195, .var, true⟩ := by rw [← hm3]; simp [put_at, push_at, put_next, push_next, me0]
     have hb1 : m3.at_ 1 = some ⟨thereB (flgB T 0), 4, .flat, true⟩ := by rw [← hm3, flgB_zero, hn]; simp [put_at, push_at, put_next, push_next, me0]
     have hb2 : m3.at_ 2 = some ⟨[.sl 1 0 N N true], 25, .var, true⟩ := by rw [← hm3]; simp [put_at, push_at, put_next, push_next, me0]
     have hnx : 2 < m3.next := by rw [← hm3]; simp [put_next, push_next, me0]
     refine call_open (heach.out m3 162 [.ptr 2 0] (fun i m => m.at_ 0 = some ⟨BW, 195, .var, true⟩ ∧ m.at_ 1 = some ⟨thereB (flgB T i), 4, .flat, true⟩ ∧ m.at_ 2 = some ⟨[.sl 1 0 N N true], 25, .var, true⟩ ∧ 2 < m.next) ⟨hb0, hb1, hb2, hnx⟩ ?_ ?_ ?_) ?_
     · rintro i m m' ⟨h1, h2, h3, h4⟩ hkp
       exact ⟨hkp.at_ 0 _ h1 (by omega), hkp.at_ 1 _ h2 (by omega), hkp.at_ 2 _ h3 (by omega), Nat.lt_of_lt_of_le h4 hkp.next⟩
     · rintro l i p m s hTl2 hi hpi hF ⟨h1, h2, h3, h4⟩
       obtain ⟨hsR, _⟩ := findV_some hF
       have hd1 := hdat.out l i p s hTl2 hpi hF
       refine ospec_mono (Mend_1 m i N 1 2 s hsR _ (by omega) (by rw [flgB_len]; omega) h2 h3) ?_
       rintro res m' ⟨rfl, rfl⟩
       refine ⟨rfl, ?_, ?_, ?_, h4⟩
       · rw [put_at, if_neg (by decide)]; exact h1
       · rw [put_at, if_pos rfl, flgB_set (by omega) hd1]
       · rw [put_at, if_neg (by decide)]; exact h3
     · rintro l i p m hTl2 hi hpi hF ⟨h1, h2, h3, h4⟩
       have hd := hdno.out l i p hTl2 hpi hF
       rw [← flgB_stay hd]
       exact ⟨h1, h2, h3, h4⟩
     rintro res m4 ⟨rfl, hInv⟩
     have hsome : (toldL k r c w ps kd ver).isSome = true := by rw [hT]; rfl
     rw [if_pos hsome, hpsl] at hInv
     obtain ⟨h0, h1, h2, h4⟩ := hInv
     have hw0 := hbw.out m4 h0 (by omega)
     have hrdl : RdSl (.tree l.length l.length (intsA l) false) l.length (intsA l ++ []) := ⟨.inr (.inr ⟨_, false, by rw [List.append_nil], Nat.le_refl _⟩)⟩
     replace hT := Hid.mk hT
     replace hw0 := Hid.mk hw0
     clear hm3 hb0 hb1 hb2 hnx heach hdat hdno h0 hbw hbeg
     simp only [↓pre, simprocAttr, parV, sx, tys90, onceMe, bne, postU, postA, storeE, allocE, put_at, push_at, me0, Nat.one_ne_zero, Nat.reduceEqDiff, Array.size_empty, List.size_toArray, sr]
     (first | refine call_plain (htold) (by first | rfl | simp only [parV, plQ, *]) ?_ | refine call_pure (htold) (by first | rfl | simp only [parV, plQ, *]) (by intro k; first | rfl | simp only [sq, sr, *]) ?_); simp only [↓pre, simprocAttr, parV, sx, tys90, onceMe, bne, postU, postA, storeE, allocE, put_at, push_at, me0, Nat.one_ne_zero, Nat.reduceEqDiff, Array.size_empty, List.size_toArray, hrdc.len', shc, sr]
     rw [codeW_loop]
     refine loop_intro (fun q e m => ∃ i, q + i = N ∧ e 3 = .val (.int .u8 kd) ∧ e 5 = intV ver ∧ e 14 = .ptr 0 0 ∧ e 17 = .ptr 2 0 ∧ e 18 = .tree l.length l.length (intsA l) false ∧ e 60 = treeR N (cellsA C W 0 N) ∧ e 61 = intV (N : Nat) ∧ e 62 = intV (i : Nat) ∧ Hid (WrA m4 m 0 k r c w v num (vecA KO) (MN i))) N ⟨0, by omega, rfl, rfl, rfl, rfl, rfl, rfl, rfl, rfl, ⟨by rw [hm0.out]; exact hw0.out⟩⟩ ?_
     rintro q e m ⟨i, hq, e3, e5, e14, e17, e18, e60, e61, e62, hJ⟩
     replace hq := Hid.mk hq
     by_cases hlt2 : i < N
     · have hlt2' : ((i : Nat) : Int) < ((N : Nat) : Int) := by omega
       have wi := wrap_succ (n := i) (by have := hmn.out; omega)
       have hca := hcat.out i hlt2
       rw [Nat.zero_add] at hca
       have hfl := flgB_at (T := T) (n := N) (j := i) (by omega)
       rw [decide_eq_true hlt2, Bool.true_and] at hfl
       have hfa := bool_at hfl
       have k1 := hJ.out.at_ 1 _ h1 (by omega) (by decide)
       have k2 := hJ.out.at_ 2 _ h2 (by omega) (by decide)
       replace hfl := Hid.mk hfl
       have hms := hms.out i
       by_cases h9 : (T.getD i []).length = 0
       · rw [if_pos h9] at hms
         rw [decide_eq_false (by omega)] at hfa
         replace hms := Hid.mk hms
         obtain ⟨z, hz⟩ : ∃ z, l[i]? = some z := ⟨_, List.getElem?_eq_getElem (by omega)⟩
         have hza := int_at (x := []) hz
         have hil : i < l.length := by omega
         have hgz : l.getD i 0 = z := by rw [List.getD_eq_getElem?_getD, hz]; rfl
         have hMi := hlh.out i
         rw [hgz] at hMi
         have hpu := hput.out i hlt2 (.tree C C (tabA C (W i)) true) [] (by rw [hMi]; exact ⟨.inr (.inr ⟨C, true, by rw [List.append_nil]; simp only [tab_len]; rfl, by simp only [tab_len]; exact Nat.le_refl _⟩)⟩) m4 m 0 (MN i) (by have := hmle.out i; have := hmn.out; omega) hJ.out
         rw [← hms.out, hMi] at hpu
         simp only [intV] at hpu
         rw [List.append_nil] at hza hrdl
         replace hz := Hid.mk hz
         replace hgz := Hid.mk hgz
         replace hMi := Hid.mk hMi
         simp only [↓pre, simprocAttr, parV, sx, tys90, onceMe, bne, postU, postA, storeE, allocE, put_at, push_at, me0, Nat.one_ne_zero, Nat.reduceEqDiff, Array.size_empty, List.size_toArray, e3, e5, e14, e17, e18, e60, e61, e62, hlt2', hlt2, hca, hrdc.addr', k1, k2, hfa, hrdl.addr', hil, hza, sr]
         refine call_open hpu ?_
         rintro res m' ⟨rfl, hw'⟩
         replace hw' := Hid.mk hw'
         simp only [↓pre, simprocAttr, parV, sx, tys90, onceMe, bne, postU, postA, storeE, allocE, put_at, push_at, me0, Nat.one_ne_zero, Nat.reduceEqDiff, Array.size_empty, List.size_toArray, e3, e5, e14, e17, e18, e60, e61, e62, wi, sr]
         exact ⟨q - 1, by have := hq.out; omega, i + 1, by have := hq.out; omega, rfl, hw'⟩
       · rw [if_neg h9, List.append_nil] at hms
         rw [decide_eq_true h9] at hfa
         replace hms := Hid.mk hms
         simp only [↓pre, simprocAttr, parV, sx, tys90, onceMe, bne, postU, postA, storeE, allocE, put_at, push_at, me0, Nat.one_ne_zero, Nat.reduceEqDiff, Array.size_empty, List.size_toArray, e3, e5, e14, e17, e18, e60, e61, e62, hlt2', hlt2, hca, hrdc.addr', k1, k2, hfa, wi, sr]
         refine ⟨q - 1, by have := hq.out; omega, i + 1, by have := hq.out; omega, rfl, ⟨?_⟩⟩
         rw [hms.out]
         exact hJ.out
     · have hlt2' : ¬ ((i : Nat) : Int) < ((N : Nat) : Int) := by omega
       have hi : i = N := by have := hq.out; omega
       subst hi
       obtain ⟨v', g1, g2, g3⟩ := hJ.out.ex
       have hfin := fun k => own_fzTv g2 (putsA_id _) k
       replace g2 := Hid.mk g2
       replace g3 := Hid.mk g3
       replace hfin := Hid.mk hfin
       simp only [↓pre, simprocAttr, parV, sx, tys90, onceMe, bne, postU, postA, storeE, allocE, put_at, push_at, me0, Nat.one_ne_zero, Nat.reduceEqDiff, Array.size_empty, List.size_toArray, e3, e5, e14, e17, e18, e60, e61, e62, hlt2', g1, sr]
       exact ⟨1, by rw [fzT_tup, fzTs_cons, hfin.out, Option.bind_some, fzTs_cons, fzT_val, fzTs_nil]; rfl⟩
 · simp only [hB, if_false] at hbeg ⊢
   generalize begI k r c w ps num kd keep ver = e at *
   have hf := fun m => fzId_two (fzId_val (.slice none 0 0)) (fzId_val (.int .i64 e)) 1 m
   replace hf := Hid.mk hf
   refine ospec_of_body follows Tryz.func90 (by unfold Tryz.f90; rfl) (by unfold Tryz.f90; simp) onceMe (by unfold Tryz.f90; simp) (by kernel_rfl) ?_; unfold Tryz.f90
   simp only [↓pre, simprocAttr, parV, sx, tys90, onceMe, bne, postU, postA, storeE, allocE, put_at, push_at, me0, Nat.one_ne_zero, Nat.reduceEqDiff, Array.size_empty, List.size_toArray, sr]
   refine call_det (hbeg _) ?_
   simp only [↓pre, simprocAttr, parV, sx, tys90, onceMe, bne, postU, postA, storeE, allocE, put_at, push_at, me0, Nat.one_ne_zero, Nat.reduceEqDiff, Array.size_empty, List.size_toArray, hB, sr]
   exact ⟨1, hf.out _⟩
def finE (k r c w : Int) (ps : List PairB) (num : Int) : Int := if chkI k r c w ps = 0 then (if num < 0 ∨ w ≤ num then 2 else if winI k r c w ps = 0 then 5 else mendE k r c w ps num 2 (runI k r c w ps) (winI k r c w ps)) else chkI k r c w ps
def finL (k r c w : Int) (ps : List PairB) (num : Int) : List PutC := mendN k r c w ps num 2 (runI k r c w ps) (winI k r c w ps) (k + r).toNat
def finV (k r c w : Int) (ps : List PairB) (num : Int) : AV := if finE k r c w ps num = 0 then .tup [treeR (finL k r c w ps num).length (putsA (finL k r c w ps num)), intV 0] else .tup [nilS, intV (finE k r c w ps num)]
def onceFn : Nat → Bool := fun d => d != 8
theorem commit_Finish (k r c w num : Int) (v : AV) (ps : List PairB) (cells : List AV) (hv : RowV v ps cells) : FSpec Tryz.prog 16 [parV k r c w, v, intV num] ⟨finV k r c w ps num, []⟩ := by
 refine fspec_fzT ?_
 have h1 := version_win k r c w v ps cells hv
 have h2 := version_run k r c w v ps cells hv
 have hvc := rd_cells hv.rd
 have hvo := rd_okA hv.rd
 have f1 := rd_fz hv.rd
 have q1 := rd_one hv.rd
 have hp := hv.rd.plain
 have hz : finE k r c w ps num ≠ 0 → ∀ m, fzT 0 m (.tup [.val (.slice none 0 0), .val (.int .i64 (finE k r c w ps num))]) = some (finV k r c w ps num) := fun h m => by
   unfold finV
   rw [if_neg h]
   exact fzId_two (fzId_val _) (fzId_val _) 0 m
 by_cases hc : chkI k r c w ps = 0
 · have hE : finE k r c w ps num = if num < 0 ∨ w ≤ num then 2 else if winI k r c w ps = 0 then 5 else mendE k r c w ps num 2 (runI k r c w ps) (winI k r c w ps) := by unfold finE; rw [if_pos hc]
   rw [if_pos hc, hc] at h1 h2
   have hme := stripe_Mend k r c w num 2 (runI k r c w ps) (winI k r c w ps) v ps cells hv
   unfold mendV at hme
   have hfl : finL k r c w ps num = mendN k r c w ps num 2 (runI k r c w ps) (winI k r c w ps) (k + r).toNat := rfl
   rw [← hfl] at hme
   clear hfl
   have hbad : (num < 0 ∨ w ≤ num) → ∀ m, fzT 0 m (.tup [.val (.slice none 0 0), .val (.int .i64 2)]) = some (finV k r c w ps num) := fun h => by
     rw [if_pos h] at hE
     have := hz (by rw [hE]; decide)
     rw [hE] at this
     exact this
   replace hbad := Hid.mk hbad
   by_cases c1 : num < 0
   · have hb := Hid.mk (hbad.out (.inl c1))
     refine ospec_of_body follows Tryz.func16 (by unfold Tryz.f16; rfl) (by unfold Tryz.f16; simp) onceFn (by unfold Tryz.f16; simp) (by kernel_rfl) ?_; unfold Tryz.f16
     simp only [↓pre, simprocAttr, parV, sx, tys16, onceFn, bne, postU, postFz, storeE, allocE, put_at, push_at, me0, f1, q1, Nat.one_ne_zero, Nat.zero_ne_one, ↓hvc, ↓hvo, sr]
     (first | refine call_plain (h1) (by first | rfl | simp only [parV, plQ, *]) ?_ | refine call_pure (h1) (by first | rfl | simp only [parV, plQ, *]) (by intro k; first | rfl | simp only [sq, sr, *]) ?_); simp only [↓pre, simprocAttr, parV, sx, tys16, onceFn, bne, postU, postFz, storeE, allocE, put_at, push_at, me0, f1, q1, Nat.one_ne_zero, Nat.zero_ne_one, ↓hvc, ↓hvo, c1, sr]
     exact ⟨0, hb.out _⟩
   · by_cases c2 : w ≤ num
     · have hb := Hid.mk (hbad.out (.inr c2))
       refine ospec_of_body follows Tryz.func16 (by unfold Tryz.f16; rfl) (by unfold Tryz.f16; simp) onceFn (by unfold Tryz.f16; simp) (by kernel_rfl) ?_; unfold Tryz.f16
       simp only [↓pre, simprocAttr, parV, sx, tys16, onceFn, bne, postU, postFz, storeE, allocE, put_at, push_at, me0, f1, q1, Nat.one_ne_zero, Nat.zero_ne_one, ↓hvc, ↓hvo, sr]
       (first | refine call_plain (h1) (by first | rfl | simp only [parV, plQ, *]) ?_ | refine call_pure (h1) (by first | rfl | simp only [parV, plQ, *]) (by intro k; first | rfl | simp only [sq, sr, *]) ?_); simp only [↓pre, simprocAttr, parV, sx, tys16, onceFn, bne, postU, postFz, storeE, allocE, put_at, push_at, me0, f1, q1, Nat.one_ne_zero, Nat.zero_ne_one, ↓hvc, ↓hvo, c1, c2, sr]
       exact ⟨0, hb.out _⟩
     · rw [if_neg (by omega)] at hE
       generalize winI k r c w ps = W at *
       by_cases hW : W = 0
       · subst hW
         rw [if_pos rfl] at hE
         have hz := hz (by rw [hE]; decide)
         rw [hE] at hz
         replace hz := Hid.mk hz
         replace hE := Hid.mk hE
         clear hme
         refine ospec_of_body follows Tryz.func16 (by unfold Tryz.f16; rfl) (by unfold Tryz.f16; simp) onceFn (by unfold Tryz.f16; simp) (by kernel_rfl) ?_; unfold Tryz.f16
         simp only [↓pre, simprocAttr, parV, sx, tys16, onceFn, bne, postU, postFz, storeE, allocE, put_at, push_at, me0, f1, q1, Nat.one_ne_zero, Nat.zero_ne_one, ↓hvc, ↓hvo, sr]
         (first | refine call_plain (h1) (by first | rfl | simp only [parV, plQ, *]) ?_ | refine call_pure (h1) (by first | rfl | simp only [parV, plQ, *]) (by intro k; first | rfl | simp only [sq, sr, *]) ?_); simp only [↓pre, simprocAttr, parV, sx, tys16, onceFn, bne, postU, postFz, storeE, allocE, put_at, push_at, me0, f1, q1, Nat.one_ne_zero, Nat.zero_ne_one, ↓hvc, ↓hvo, c1, c2, sr]
         exact ⟨0, hz.out _⟩
       · rw [if_neg hW] at hE
         rw [← hE] at hme
         have hfv : (if finE k r c w ps num = 0 then AV.tup [treeR (finL k r c w ps num).length (putsA (finL k r c w ps num)), intV 0] else .tup [nilS, intV (finE k r c w ps num)]) = finV k r c w ps num := rfl
         by_cases he : finE k r c w ps num = 0
         · rw [if_pos he] at hme hfv
           have hf := fun m => fzId_two (fzId_rd (treeR_rd (finL k r c w ps num).length (putsA (finL k r c w ps num)))) (fzId_val (.int .i64 0)) 1 m
           have hts := rd_shift (treeR_rd (finL k r c w ps num).length (putsA (finL k r c w ps num)))
           have hpl := (treeR_rd (finL k r c w ps num).length (putsA (finL k r c w ps num))).plain
           rw [← hfv]
           generalize treeR (finL k r c w ps num).length (putsA (finL k r c w ps num)) = BV at *
           simp only [intV] at hme hf ⊢
           replace hf := Hid.mk hf
           replace hE := Hid.mk hE
           clear hz
           refine ospec_of_body follows Tryz.func16 (by unfold Tryz.f16; rfl) (by unfold Tryz.f16; simp) onceFn (by unfold Tryz.f16; simp) (by kernel_rfl) ?_; unfold Tryz.f16
           simp only [↓pre, simprocAttr, parV, sx, tys16, onceFn, bne, postU, postFz, storeE, allocE, put_at, push_at, me0, f1, q1, Nat.one_ne_zero, Nat.zero_ne_one, ↓hvc, ↓hvo, sr]
           (first | refine call_plain (h1) (by first | rfl | simp only [parV, plQ, *]) ?_ | refine call_pure (h1) (by first | rfl | simp only [parV, plQ, *]) (by intro k; first | rfl | simp only [sq, sr, *]) ?_); simp only [↓pre, simprocAttr, parV, sx, tys16, onceFn, bne, postU, postFz, storeE, allocE, put_at, push_at, me0, f1, q1, Nat.one_ne_zero, Nat.zero_ne_one, ↓hvc, ↓hvo, c1, c2, hW, hts, sr]; (first | refine call_plain (h2) (by first | rfl | simp only [parV, plQ, *]) ?_ | refine call_pure (h2) (by first | rfl | simp only [parV, plQ, *]) (by intro k; first | rfl | simp only [sq, sr, *]) ?_); simp only [↓pre, simprocAttr, parV, sx, tys16, onceFn, bne, postU, postFz, storeE, allocE, put_at, push_at, me0, f1, q1, Nat.one_ne_zero, Nat.zero_ne_one, ↓hvc, ↓hvo, c1, c2, hW, hts, sr]; (first | refine call_plain (hme) (by first | rfl | simp only [parV, plQ, *]) ?_ | refine call_pure (hme) (by first | rfl | simp only [parV, plQ, *]) (by intro k; first | rfl | simp only [sq, sr, *]) ?_); simp only [↓pre, simprocAttr, parV, sx, tys16, onceFn, bne, postU, postFz, storeE, allocE, put_at, push_at, me0, f1, q1, Nat.one_ne_zero, Nat.zero_ne_one, ↓hvc, ↓hvo, c1, c2, hW, hts, sr]
           exact ⟨1, hf.out _⟩
         · rw [if_neg he] at hme hfv
           have hz := hz he
           replace hz := Hid.mk hz
           replace hE := Hid.mk hE
           unfold nilS at hme
           refine ospec_of_body follows Tryz.func16 (by unfold Tryz.f16; rfl) (by unfold Tryz.f16; simp) onceFn (by unfold Tryz.f16; simp) (by kernel_rfl) ?_; unfold Tryz.f16
           simp only [↓pre, simprocAttr, parV, sx, tys16, onceFn, bne, postU, postFz, storeE, allocE, put_at, push_at, me0, f1, q1, Nat.one_ne_zero, Nat.zero_ne_one, ↓hvc, ↓hvo, sr]
           (first | refine call_plain (h1) (by first | rfl | simp only [parV, plQ, *]) ?_ | refine call_pure (h1) (by first | rfl | simp only [parV, plQ, *]) (by intro k; first | rfl | simp only [sq, sr, *]) ?_); simp only [↓pre, simprocAttr, parV, sx, tys16, onceFn, bne, postU, postFz, storeE, allocE, put_at, push_at, me0, f1, q1, Nat.one_ne_zero, Nat.zero_ne_one, ↓hvc, ↓hvo, c1, c2, hW, sr]; (first | refine call_plain (h2) (by first | rfl | simp only [parV, plQ, *]) ?_ | refine call_pure (h2) (by first | rfl | simp only [parV, plQ, *]) (by intro k; first | rfl | simp only [sq, sr, *]) ?_); simp only [↓pre, simprocAttr, parV, sx, tys16, onceFn, bne, postU, postFz, storeE, allocE, put_at, push_at, me0, f1, q1, Nat.one_ne_zero, Nat.zero_ne_one, ↓hvc, ↓hvo, c1, c2, hW, sr]; (first | refine call_plain (hme) (by first | rfl | simp only [parV, plQ, *]) ?_ | refine call_pure (hme) (by first | rfl | simp only [parV, plQ, *]) (by intro k; first | rfl | simp only [sq, sr, *]) ?_); simp only [↓pre, simprocAttr, parV, sx, tys16, onceFn, bne, postU, postFz, storeE, allocE, put_at, push_at, me0, f1, q1, Nat.one_ne_zero, Nat.zero_ne_one, ↓hvc, ↓hvo, c1, c2, hW, sr]
           exact ⟨0, hz.out _⟩
 · have hE : finE k r c w ps num = chkI k r c w ps := by unfold finE; rw [if_neg hc]
   rw [if_neg hc] at h1
   have hz := hz (by rw [hE]; exact hc)
   rw [hE] at hz
   replace hz := Hid.mk hz
   clear h2
   refine ospec_of_body follows Tryz.func16 (by unfold Tryz.f16; rfl) (by unfold Tryz.f16; simp) onceFn (by unfold Tryz.f16; simp) (by kernel_rfl) ?_; unfold Tryz.f16
   simp only [↓pre, simprocAttr, parV, sx, tys16, onceFn, bne, postU, postFz, storeE, allocE, put_at, push_at, me0, f1, q1, Nat.one_ne_zero, Nat.zero_ne_one, ↓hvc, ↓hvo, sr]
   (first | refine call_plain (h1) (by first | rfl | simp only [parV, plQ, *]) ?_ | refine call_pure (h1) (by first | rfl | simp only [parV, plQ, *]) (by intro k; first | rfl | simp only [sq, sr, *]) ?_); simp only [↓pre, simprocAttr, parV, sx, tys16, onceFn, bne, postU, postFz, storeE, allocE, put_at, push_at, me0, f1, q1, Nat.one_ne_zero, Nat.zero_ne_one, ↓hvc, ↓hvo, hc, sr]
   exact ⟨0, hz.out _⟩
theorem list_eq_at {α : Type} {A B : List α} (hl : A.length = B.length) (h : ∀ j : Nat, j < A.length → A[j]? = B[j]?) : A = B := by
 refine List.ext_getElem? fun j => ?_
 by_cases hj : j < A.length
 · exact h j hj
 · rw [List.getElem?_eq_none (by omega), List.getElem?_eq_none (by omega)]
theorem slices_EqualFunc (va vb : AV) (A B : List (List UInt8)) (ca cb : List AV) (ha : RowsV va A ca) (hb : RowsV vb B cb) (hA : A.length ≤ 1000) (hB : B.length ≤ 1000) : FSpec Tryz.prog 180 [va, vb, .clo 169 []] ⟨boolV (decide (A = B)), []⟩ := by
 have hpa := ha.rd.plain
 have hpb := hb.rd.plain
 generalize hres : decide (A = B) = T
 have hbad : ∀ j : Nat, A[j]? ≠ B[j]? → T = false := fun j h => by
   rw [← hres]
   exact decide_eq_false fun e => h (by rw [e])
 replace hbad := Hid.mk hbad
 by_cases hl : A.length = B.length
 · have hgood : (∀ j : Nat, j < A.length → A[j]? = B[j]?) → T = true := fun h => by
     rw [← hres]
     exact decide_eq_true (list_eq_at hl h)
   replace hgood := Hid.mk hgood
   refine fspec_of_body follows Tryz.func180 (by unfold Tryz.f180; rfl) (by unfold Tryz.f180; simp) onceA (by unfold Tryz.f180; simp) (by kernel_rfl) ?_; unfold Tryz.f180
   simp only [↓pre, simprocAttr, parV, sx, tys180, onceA, postU, postA, ha.rd.len', hb.rd.len', hl, sr]
   rw [codeW_loop]
   refine loop_intro (fun q e m => ∃ i, q + i = A.length ∧ e 1 = vb ∧ e 2 = .clo 169 [] ∧ e 15 = va ∧ e 16 = intV (A.length : Nat) ∧ e 17 = intV (i : Nat) ∧ Hid (∀ j : Nat, j < i → A[j]? = B[j]?)) A.length ⟨0, by omega, rfl, rfl, rfl, by rw [hl]; rfl, rfl, ⟨fun j h => by omega⟩⟩ ?_
   rintro q e m ⟨i, hq, e1, e2, e15, e16, e17, hJ⟩
   replace hq := Hid.mk hq
   by_cases hlt : i < A.length
   · have hlt' : ((i : Nat) : Int) < ((A.length : Nat) : Int) := by omega
     have hltB : i < B.length := by omega
     have wi := wrap_succ (n := i) (by omega)
     obtain ⟨x, hx⟩ : ∃ x, A[i]? = some x := ⟨_, List.getElem?_eq_getElem hlt⟩
     obtain ⟨y, hy⟩ : ∃ y, B[i]? = some y := ⟨_, List.getElem?_eq_getElem hltB⟩
     obtain ⟨a1, x1, g1, g2⟩ := ha.at_ i x hx
     obtain ⟨a2, x2, g3, g4⟩ := hb.at_ i y hy
     have heq := bytes_Equal a1 a2 x y x1 x2 g2 g4
     have pa := g2.plain
     have pb := g4.plain
     by_cases hxy : x = y
     · rw [decide_eq_true hxy] at heq
       have hJ2 : ∀ j : Nat, j < i + 1 → A[j]? = B[j]? := fun j hj => by
         by_cases e : j = i
         · rw [e, hx, hy, hxy]
         · exact hJ.out j (by omega)
       replace hJ2 := Hid.mk hJ2
       replace hx := Hid.mk hx
       replace hy := Hid.mk hy
       replace hxy := Hid.mk hxy
       simp only [↓pre, simprocAttr, parV, sx, tys180, onceA, postU, postA, e1, e2, e15, e16, e17, hlt', ha.rd.addr', hb.rd.addr', hlt, hltB, g1, g3, sr]
       (first | refine call_plain (heq) (by first | rfl | simp only [parV, plQ, *]) ?_ | refine call_pure (heq) (by first | rfl | simp only [parV, plQ, *]) (by intro k; first | rfl | simp only [sq, sr, *]) ?_); simp only [↓pre, simprocAttr, parV, sx, tys180, onceA, postU, postA, e1, e2, e15, e16, e17, wi, sr]
       exact ⟨q - 1, by have := hq.out; omega, i + 1, by have := hq.out; omega, rfl, hJ2⟩
     · rw [decide_eq_false hxy] at heq
       have hT := hbad.out i (by rw [hx, hy]; intro e; injection e with e; exact hxy e)
       replace hx := Hid.mk hx
       replace hy := Hid.mk hy
       replace hxy := Hid.mk hxy
       simp only [↓pre, simprocAttr, parV, sx, tys180, onceA, postU, postA, e1, e2, e15, e16, e17, hlt', ha.rd.addr', hb.rd.addr', hlt, hltB, g1, g3, sr]
       (first | refine call_plain (heq) (by first | rfl | simp only [parV, plQ, *]) ?_ | refine call_pure (heq) (by first | rfl | simp only [parV, plQ, *]) (by intro k; first | rfl | simp only [sq, sr, *]) ?_); simp only [↓pre, simprocAttr, parV, sx, tys180, onceA, postU, postA, e1, e2, e15, e16, e17, hT, sr]
   · have hlt' : ¬ ((i : Nat) : Int) < ((A.length : Nat) : Int) := by omega
     have hT := hgood.out fun j hj => hJ.out j (by have := hq.out; omega)
     simp only [↓pre, simprocAttr, parV, sx, tys180, onceA, postU, postA, e1, e2, e15, e16, e17, hlt', hT, sr]
 · have hT : T = false := by rw [← hres]; exact decide_eq_false fun e => hl (by rw [e])
   have hl2 : ¬ ((A.length : Nat) : Int) = ((B.length : Nat) : Int) := by omega
   refine fspec_of_body follows Tryz.func180 (by unfold Tryz.f180; rfl) (by unfold Tryz.f180; simp) onceA (by unfold Tryz.f180; simp) (by kernel_rfl) ?_; unfold Tryz.f180
   simp only [↓pre, simprocAttr, parV, sx, tys180, onceA, postU, postA, ha.rd.len', hb.rd.len', hl2, hT, sr]
def parT (k r L : Nat) (C : List (List UInt8)) : List (List UInt8) := (List.range' k r).map fun i => tab L (celU k (celM C) i)
theorem cellsA_rows (k r L : Nat) (C : List (List UInt8)) (v : AV) (hv : RdSl v r (cellsA L (celU k (celM C)) k r)) : RowsV v (parT k r L C) (cellsA L (celU k (celM C)) k r) := by
 have hlen : (parT k r L C).length = r := by simp [parT]
 refine ⟨by rw [hlen]; exact hv, fun i b hb => ?_⟩
 have hi := (List.getElem?_eq_some_iff.1 hb).1
 rw [hlen] at hi
 refine ⟨_, [], cellsA_at hi, ?_⟩
 unfold parT at hb
 rw [List.getElem?_map, List.getElem?_range' (by omega)] at hb
 simp only [Option.map_some, Option.some.injEq, Nat.one_mul] at hb
 subst hb
 rw [tab_len, List.append_nil]
 exact ⟨.inr (.inr ⟨L, true, rfl, Nat.le_refl _⟩)⟩
theorem thereN_all {C : List (List UInt8)} {L n : Nat} (h : ∀ i, i < n → (C.getD i []).length = L) (hL : 1 ≤ L) : thereN C n = List.range n := by
 unfold thereN
 rw [List.filter_eq_self]
 intro i hi
 rw [List.mem_range] at hi
 rw [h i hi]
 simp
 omega
theorem codec_Verify (v : AV) (k r L : Nat) (C : List (List UInt8)) (cells : List AV) (hv : RowsV v C cells) (hCl : C.length = k + r) (hC : ∀ b ∈ C, b.length = L) (hk : 1 ≤ k) (hk2 : k ≤ 12) (hr : r ≤ 4) (hL : 1 ≤ L) (hL2 : L ≤ 65536) : FSpec Tryz.prog 96 [intV (k : Nat), intV (r : Nat), v] ⟨.tup [boolV (decide (parT k r L C = C.drop k)), intV 0], []⟩ := by
 refine fspec_fzT ?_
 have hp := hv.rd.plain
 have hm := codec_made Mem.empty k r hk hk2 hr
 have hgl : ∀ i, i < k + r → (C.getD i []).length = L := fun i hi => by
   obtain ⟨b, hb⟩ : ∃ b, C[i]? = some b := ⟨_, List.getElem?_eq_getElem (by omega)⟩
   rw [getD_at hb]
   exact hC b (List.mem_of_getElem? hb)
 have hthere := codec_there v C cells L hv (fun b hb => .inr (hC b hb)) hL2 (by omega)
 rw [hCl, thereN_all hgl hL, List.length_range] at hthere
 have hrd := treeR_rd (k + r) (natsA (List.range (k + r)))
 obtain ⟨v1, s1, r1⟩ := hv.rd.slice (P := Tryz.prog) (t := 45) (sz := 1) (lo := none) (hi := some k) (by kernel_rfl) (by simp) (by simp; omega)
 obtain ⟨v2, s2, r2⟩ := hv.rd.slice (P := Tryz.prog) (t := 45) (sz := 1) (lo := some k) (hi := none) (by kernel_rfl) (by simp; omega) (by simp)
 simp only [Option.getD_some, Option.getD_none, Nat.sub_zero, Nat.zero_mul, List.drop_zero, Nat.mul_one] at r1 r2
 have hslok := fun m => hv.rd.slOk (P := Tryz.prog) (m := m) (t := 45)
 have w1 : IntKind.i64.wrap (((k : Nat) : Int) + ((r : Nat) : Int)) = ((k + r : Nat) : Int) := by rw [← Int.natCast_add]; exact wrap_nat (by omega)
 have k1 : ¬ ((k + r : Nat) : Int) < ((k + r : Nat) : Int) := by omega
 have hat : RowsAt k L (celM C) cells := fun i hi => by
   obtain ⟨b, hb⟩ : ∃ b, C[i]? = some b := ⟨_, List.getElem?_eq_getElem (by omega)⟩
   obtain ⟨a, x, g1, g2⟩ := hv.at_ i b hb
   have hbl := hC b (List.mem_of_getElem? hb)
   refine ⟨a, x, g1, ?_⟩
   have htab : tabA L (celM C i) = b.map byteV := by
     unfold tabA
     rw [tab_celM (hgl i (by omega)), getD_at hb]
   rw [htab, ← hbl]
   exact g2
 have hdrop : RowsV v2 (C.drop k) (cells.drop k) := by
   refine ⟨?_, fun i b hb => ?_⟩
   · rw [List.length_drop]
     exact r2
   · rw [List.getElem?_drop] at hb
     obtain ⟨a, x, g1, g2⟩ := hv.at_ _ b hb
     exact ⟨a, x, by rw [List.getElem?_drop]; exact g1, g2⟩
 have hpl : (parT k r L C).length = r := by simp [parT]
 replace hgl := Hid.mk hgl
 replace hC := Hid.mk hC
 have pl1 := r1.plain
 have pl2 := r2.plain
 refine ospec_of_body follows Tryz.func96 (by unfold Tryz.f96; rfl) (by unfold Tryz.f96; simp) onceA (by unfold Tryz.f96; simp) (by kernel_rfl) ?_; unfold Tryz.f96
 simp only [↓pre, simprocAttr, parV, sx, tys96, onceA, postU, postA, postV, postFz, sr]
 refine call_open hm ?_
 rintro res m1 ⟨g, mm, rfl, rfl, hCode⟩
 simp only [↓pre, simprocAttr, parV, sx, tys96, onceA, postU, postA, postV, postFz, map_eql, w1, sr]
 (first | refine call_plain (hthere) (by first | rfl | simp only [parV, plQ, *]) ?_ | refine call_pure (hthere) (by first | rfl | simp only [parV, plQ, *]) (by intro k; first | rfl | simp only [sq, sr, *]) ?_); simp only [↓pre, simprocAttr, parV, sx, tys96, onceA, postU, postA, postV, postFz, hrd.len', k1, w1, s1, s2, hslok, optNat, Option.map_none, Option.map_some, sr]
 generalize Mem.setM Mem.empty mm = m1 at *
 have hce := codec_cells m1 g k r k r L v1 (celM C) cells hCode (hasF_rd r1) (OldV.rd r1) hat hk hk2 hr (Nat.le_refl _) hL2
 simp only [intV] at hce
 refine call_open hce ?_
 rintro res m2 ⟨lv, rfl, ho, hkp, hnw⟩
 have hcp : plains (cellsA L (celU k (celM C)) k r) = true := plains_all _ fun c hc => by
   unfold cellsA at hc
   obtain ⟨j, _, rfl⟩ := List.mem_map.1 hc
   rfl
 obtain ⟨av, hlend, hav⟩ := (hasF_own ho (.inr ⟨rfl, hcp⟩)).lend 2
 have heq := slices_EqualFunc av v2 (parT k r L C) (C.drop k) _ _ (cellsA_rows k r L C av hav) hdrop (by omega) (by rw [List.length_drop]; omega)
 have hlends : lends 3 m2 [lv, v2, .clo 169 []] = some [av, v2, .clo 169 []] := by
   unfold lends
   rw [hlend]
   unfold lends
   rw [(plain_lend 3 v2 pl2).1]
   have : lends 3 m2 [.clo 169 []] = some [.clo 169 []] := by simp [lends, lend]
   rw [this]
   rfl
 simp only [↓pre, simprocAttr, parV, sx, tys96, onceA, postU, postA, postV, postFz, s2, hslok, optNat, Option.map_none, Option.map_some, sr]
 refine call_lent heq hlends rfl rfl ?_
 simp only [↓pre, simprocAttr, parV, sx, tys96, onceA, postU, postA, postV, postFz, sr]
 exact ⟨1, by rw [fzT_tup, fzTs_cons, fzT_val, Option.bind_some, fzTs_cons, fzT_val, fzTs_nil]; rfl⟩
end Go.Proofs.YtaekhhlgnbhnpaaGreat