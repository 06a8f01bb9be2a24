import Derived.Test.YtaekhhlgnbhnpaaGreatPtcG20
set_option linter.unusedVariables false
set_option linter.unusedSimpArgs false
set_option maxRecDepth 10000
namespace Go.Proofs.YtaekhhlgnbhnpaaGreat
open Go Go.Tw Go.Proofs Go.Gf
theorem wiped_end (l : List Bool) (cs : List AV) {i n : Nat} (hin : i ≤ n) (h : l.length ≤ i ∨ i = n) : goneN l i = goneN l n ∧ wcA l cs i = wcA l cs n := by
 rcases h with h | rfl
 · have h0 : ∀ j, i ≤ j → wipB l j = false := fun j hj => by unfold wipB; rw [List.getD_eq_getElem?_getD, List.getElem?_eq_none (by omega)]; rfl
   refine ⟨?_, wcA_ext fun j _ => ⟨fun h2 => ⟨by omega, h2.2⟩, fun h2 => ⟨?_, h2.2⟩⟩⟩
   · have key : ∀ d, goneN l (i + d) = goneN l i := by
       intro d
       induction d with
       | zero => rfl
       | succ d ih => rw [← Nat.add_assoc, goneN_succ, h0 _ (by omega), ih]; rfl
     have := key (n - i)
     rw [show i + (n - i) = n by omega] at this
     exact this.symm
   · by_cases hj : i ≤ j / 2
     · rw [h0 _ hj] at h2; exact absurd h2.2 (by decide)
     · omega
 · exact ⟨rfl, rfl⟩
def onceBh : Nat → Bool := fun _ => true
theorem law16_behind (v lv wv : AV) (ps : List PairB) (cells : List AV) (hv : RowV v ps cells) (L : List PutC) (hlv : RdSl lv L.length (putsA L)) (n : Nat) (hn : n ≤ L.length) (hL2 : L.length ≤ 1000) (hL : ∀ p ∈ L, p.dr < ps.length ∧ p.sl < 2) (wl : List Bool) (x : List AV) (hw : RdSl wv wl.length (boolsA wl ++ x)) (hN0 : 1 ≤ ps.length) (hN : ps.length ≤ 16) : FSpec Tryz.prog 20 [v, lv, intV (n : Nat), wv] ⟨.tup [treeR ps.length (wcA wl (putsN (cells.take (ps.length * 2)) (L.take n)) ps.length), intV (goneN wl ps.length : Nat)], []⟩ := by
 refine fspec_fzT ?_
 have hcel := hv.cel
 have hcelL := fun i => Cel.puts (L.take i) hcel fun p hp => hL p (List.mem_of_mem_take hp)
 have hrl := row_len hv
 have hcsl := hcel.len
 have hsrc := fun (m : Mem) => RdSl.src (P := Tryz.prog) (el := 131) (sz := 2) (m := m) hv.rd hrl
 have hp := hv.rd.plain
 have fv := rd_fz hv.rd
 generalize hcs : cells.take (ps.length * 2) = cs at *
 replace hcs := Hid.mk hcs
 have hLn := fun i => putsN_len hcsl (L.take i) fun p hp => hL p (List.mem_of_mem_take hp)
 replace hL := Hid.mk hL
 replace hcelL := Hid.mk hcelL
 replace hLn := Hid.mk hLn
 replace hcsl := Hid.mk hcsl
 generalize hNN : ps.length = N at *
 refine ospec_of_body follows Tryz.func20 (by unfold Tryz.f20; rfl) (by unfold Tryz.f20; simp) onceBh (by unfold Tryz.f20; simp) (by kernel_rfl) ?_; unfold Tryz.f20
 simp only [↓pre, simprocAttr, parV, sx, tys20, onceBh, postU, postA, Int.natCast_zero, Int.cast_ofNat_Int, Int.natCast_one, allocE, sr]
 refine app_keep (kd := .var) (sz := 2) (y := 48) (zl := [.slice none 0 0, .slice none 0 0]) (by kernel_rfl) own_nil (by kernel_rfl) (by kernel_rfl) (by kernel_rfl) rfl (hsrc _) (by rw [hcsl.out]) (by omega) (by omega) ?_
 intro lv' m3 ho' hnx' hkeep hbl
 simp only [Nat.zero_add, List.nil_append] at ho'
 obtain ⟨b, rfl, hb, hbn⟩ := ho'.sl (by omega)
 clear hkeep hbl ho'
 have hlen : lenE Tryz.prog 24 (.sl b 0 N N false) = some (.val (.int .i64 (N : Nat))) := by kernel_rfl
 simp only [↓pre, simprocAttr, parV, sx, tys20, onceBh, postU, postA, Int.natCast_zero, Int.cast_ofNat_Int, Int.natCast_one, allocE, sr]
 rw [codeW_loop]
 refine loop_cut (fun e' m' => e' 3 = wv ∧ e' 10 = .sl b 0 N N false ∧ m'.at_ b = some ⟨putsN cs (L.take n), 131, .var, true⟩ ∧ b < m'.next) (fun e' m' hR => ?_) ?_
 · obtain ⟨e3, e10, hb, hbn⟩ := hR
   have hC := hcelL.out n
   have hCl := hLn.out n
   generalize putsN cs (L.take n) = C at *
   generalize putsP ps (L.take n) = PS at *
   have hwl := hC.wipe wl N
   replace hC := Hid.mk hC
   replace hCl := Hid.mk hCl
   replace hwl := Hid.mk hwl
   simp only [↓pre, simprocAttr, parV, sx, tys20, onceBh, postU, postA, Int.natCast_zero, Int.cast_ofNat_Int, Int.natCast_one, allocE, e3, e10, sr]
   rw [codeW_loop]
   refine loop_intro (fun q e m => ∃ i, q + i = N ∧ e 3 = wv ∧ e 10 = .sl b 0 N N false ∧ e 12 = intV (goneN wl i : Nat) ∧ e 13 = intV (i : Nat) ∧ m.at_ b = some ⟨wcA wl C i, 131, .var, true⟩ ∧ Hid (b < m.next)) N ⟨0, by omega, e3, e10, rfl, rfl, by rw [wcA_zero]; exact hb, ⟨hbn⟩⟩ ?_
   clear hb hbn e3 e10
   rintro q e m ⟨i, hqi, e3, e10, e12, e13, hm0, hJ⟩
   replace hqi := Hid.mk hqi
   have hfin : ∀ m : Mem, m.at_ b = some ⟨wcA wl C N, 131, .var, true⟩ → b < m.next → ∀ k, fzT (k + 1) m (.sl b 0 N N false) = some (treeR N (wcA wl C N)) := fun m h1 h2 k => own_fzTv (sz := 2) (el := 131) ⟨.inr ⟨b, rfl, h1, h2, by omega⟩, by rw [wcA_len]; exact hCl.out⟩ hwl.out.ids k
   replace hfin := Hid.mk hfin
   have w1 := wrap_succ (n := i) (by have := hqi.out; omega)
   have w2 := wrap_succ (n := goneN wl i) (by have := goneN_le wl i; have := hqi.out; omega)
   have hgs := goneN_succ wl i
   replace hgs := Hid.mk hgs
   by_cases hlt : i < N
   · have hlt' : ((i : Nat) : Int) < ((N : Nat) : Int) := by omega
     by_cases hll : i < wl.length
     · have hll' : ((i : Nat) : Int) < ((wl.length : Nat) : Int) := by omega
       obtain ⟨z, hz⟩ : ∃ z, wl[i]? = some z := ⟨_, List.getElem?_eq_getElem hll⟩
       have hzb := boolA_at (x := x) hz
       have hwz : wipB wl i = z := by unfold wipB; rw [List.getD_eq_getElem?_getD, hz]; rfl
       replace hz := Hid.mk hz
       replace hwz := Hid.mk hwz
       cases z with
       | true =>
         have hwl2 := wcA_len wl C i
         have hput := wcA_put (cs := C) hwz.out (by have := hCl.out; omega)
         have hi2 : i * 2 + 2 ≤ C.length := by have := hCl.out; omega
         simp only [↓pre, simprocAttr, parV, sx, tys20, onceBh, postU, postA, Int.natCast_zero, Int.cast_ofNat_Int, Int.natCast_one, allocE, storeE, e3, e10, e12, e13, hlen, hlt', hw.len', hll', hw.addr', hll, hzb, hlt, hm0, hwl2, hi2, w1, w2, addr_slp, sr]
         exact ⟨q - 1, by have := hqi.out; omega, i + 1, by have := hqi.out; omega, by rw [hgs.out, if_pos hwz.out], rfl, by rw [← hput]; rfl, hJ⟩
       | false =>
         simp only [↓pre, simprocAttr, parV, sx, tys20, onceBh, postU, postA, Int.natCast_zero, Int.cast_ofNat_Int, Int.natCast_one, allocE, storeE, e3, e10, e12, e13, hlen, hlt', hw.len', hll', hw.addr', hll, hzb, hlt, w1, sr]
         exact ⟨q - 1, by have := hqi.out; omega, i + 1, by have := hqi.out; omega, by rw [hgs.out, if_neg (by rw [hwz.out]; decide)]; rfl, rfl, by rw [hm0, ← wcA_ext (n := i) (n' := i + 1) fun j _ => ⟨fun h => ⟨by omega, h.2⟩, fun h => ⟨by
           by_cases hj : j / 2 = i
           · rw [hj, hwz.out] at h; exact absurd h.2 (by decide)
           · omega, h.2⟩⟩], hJ⟩
     · have hll' : ¬ ((i : Nat) : Int) < ((wl.length : Nat) : Int) := by omega
       obtain ⟨hx1, hx2⟩ := wiped_end wl C (i := i) (n := N) (by omega) (.inl (by omega))
       rw [hx1] at e12
       rw [hx2] at hm0
       have hf := Hid.mk (hfin.out m hm0 hJ.out)
       simp only [↓pre, simprocAttr, parV, sx, tys20, onceBh, postU, postA, Int.natCast_zero, Int.cast_ofNat_Int, Int.natCast_one, allocE, storeE, e3, e10, e12, e13, hlen, hlt', hw.len', hll', hw.addr', hlt, sr]
       exact ⟨1, by rw [fzT_tup, fzTs_cons, hf.out, Option.bind_some, fzTs_cons, fzT_val, fzTs_nil]; rfl⟩
   · have hlt' : ¬ ((i : Nat) : Int) < ((N : Nat) : Int) := by omega
     have hin : i = N := by have := hqi.out; omega
     subst hin
     have hf := Hid.mk (hfin.out m hm0 hJ.out)
     simp only [↓pre, simprocAttr, parV, sx, tys20, onceBh, postU, postA, Int.natCast_zero, Int.cast_ofNat_Int, Int.natCast_one, allocE, storeE, e3, e10, e12, e13, hlen, hlt', hw.len', hw.addr', sr]
     exact ⟨1, by rw [fzT_tup, fzTs_cons, hf.out, Option.bind_some, fzTs_cons, fzT_val, fzTs_nil]; rfl⟩
 · refine loop_intro (fun q e m => ∃ i, q + i = n ∧ e 1 = lv ∧ e 2 = intV (n : Nat) ∧ e 3 = wv ∧ e 10 = .sl b 0 N N false ∧ e 11 = intV (i : Nat) ∧ m.at_ b = some ⟨putsN cs (L.take i), 131, .var, true⟩ ∧ Hid (b < m.next)) n ⟨0, by omega, rfl, rfl, rfl, rfl, rfl, hb, ⟨hbn⟩⟩ ?_
   rintro q e m ⟨i, hq, e1, e2, e3, e10, e11, hm0, hJ⟩
   replace hq := Hid.mk hq
   by_cases hlt : i < n
   · have hlt' : ((i : Nat) : Int) < ((n : Nat) : Int) := by omega
     have wi := wrap_succ (n := i) (by omega)
     obtain ⟨p, hpi⟩ : ∃ p, L[i]? = some p := ⟨_, List.getElem?_eq_getElem (by omega)⟩
     obtain ⟨a1, a2, a3, a4⟩ := putsA_at L i p hpi
     obtain ⟨hp1, hp2⟩ := hL.out p (List.mem_of_getElem? hpi)
     have htk : L.take (i + 1) = L.take i ++ [p] := by rw [List.take_add_one, hpi]; rfl
     have hsn : putsN cs (L.take (i + 1)) = wrA (putsN cs (L.take i)) p := by rw [htk, putsN_snoc]
     have hCl := hLn.out i
     have htr := treeR_rd p.bs.length (bytesA p.bs)
     unfold wrA at hsn
     generalize putsN cs (L.take i) = C at *
     generalize treeR p.bs.length (bytesA p.bs) = BV at *
     have f3 := rd_fz htr
     have q3 := rd_one htr
     have k3 := rd_okA htr
     have c3 := rd_cells htr
     have hst : ∀ q, storeE Tryz.prog m 52 q BV (.ptr b (p.dr * 2 + p.sl)) = outV undefA (m.put b (some ⟨splice C (p.dr * 2 + p.sl) [BV], 131, .var, true⟩)) := by
       have hs1 : szE Tryz.prog 52 = some 1 := by kernel_rfl
       have hle : p.dr * 2 + p.sl + 1 ≤ C.length := by omega
       intro q
       simp [storeE, hm0, hs1, k3, c3, hle]
     have b1 : ¬ ((p.dr : Nat) : Int) < 0 := by omega
     have b2 : ¬ ((N : Nat) : Int) ≤ ((p.dr : Nat) : Int) := by omega
     have b3 : ¬ ((p.sl : Nat) : Int) < 0 := by omega
     have b4 : ¬ (1 : Int) < ((p.sl : Nat) : Int) := by omega
     have hiL : i < L.length := by omega
     simp only [intV] at a1 a2 a3 a4
     replace hpi := Hid.mk hpi
     replace htk := Hid.mk htk
     replace hsn := Hid.mk hsn
     replace htr := Hid.mk htr
     simp only [↓pre, simprocAttr, parV, sx, tys20, onceBh, postU, postA, Int.natCast_zero, Int.cast_ofNat_Int, Int.natCast_one, allocE, e1, e2, e3, e10, e11, hlt', wi, hlv.addr', hiL, a1, a2, a3, a4, hlen, b1, b2, b3, b4, addr_slp, hp1, hp2, hst, f3, q3, sr]
     refine contW_fixed (by kernel_rfl) ?_
     simp only [↓pre, simprocAttr, parV, sx, tys20, onceBh, postU, postA, Int.natCast_zero, Int.cast_ofNat_Int, Int.natCast_one, allocE, e1, e2, e3, e10, e11, wi, sr]
     exact ⟨q - 1, by have := hq.out; omega, i + 1, by have := hq.out; omega, rfl, by rw [hsn.out]; rfl, hJ⟩
   · have hlt' : ¬ ((i : Nat) : Int) < ((n : Nat) : Int) := by omega
     have hi : i = n := by have := hq.out; omega
     subst hi
     simp only [↓pre, simprocAttr, parV, sx, tys20, onceBh, postU, postA, Int.natCast_zero, Int.cast_ofNat_Int, Int.natCast_one, allocE, e1, e2, e3, e10, e11, hlt', sr]
     exact ⟨hm0, hJ.out⟩
def codD0 (k r c w ver : Int) (p : PairB) (i : Nat) : List UInt8 := if hitS k r c w p.1 (i : Nat) 2 ver = true then (slotC k r p.1).data else []
def codD (k r c w ver : Int) (p : PairB) (i : Nat) : List UInt8 := if hitS k r c w p.2 (i : Nat) 2 ver = true then (slotC k r p.2).data else codD0 k r c w ver p i
def codT (k r c w ver : Int) (ps : List PairB) : List (List UInt8) := ps.mapIdx fun i p => codD k r c w ver p i
def codedB (k r c w ver : Int) (ps : List PairB) : Bool := (codT k r c w ver ps).all (fun b => decide (b.length ≠ 0)) && decide (parT k.toNat r.toNat c.toNat (codT k r c w ver ps) = (codT k r c w ver ps).drop k.toNat)
theorem codT_len (k r c w ver : Int) (ps : List PairB) : (codT k r c w ver ps).length = ps.length := by simp [codT]
theorem codT_at {k r c w ver : Int} {ps : List PairB} {i : Nat} {p : PairB} (h : ps[i]? = some p) : (codT k r c w ver ps).getD i [] = codD k r c w ver p i := by
 unfold codT
 rw [List.getD_eq_getElem?_getD, List.getElem?_mapIdx, h]
 rfl
theorem splice_twice {cs : List AV} {i : Nat} {x y : AV} (h : i < cs.length) : splice (splice cs i [x]) i [y] = splice cs i [y] := by
 have h1 : (splice cs i [x]).length = cs.length := splice_length cs i [x] h
 refine list_eq_at (by rw [splice_length _ _ _ (by rw [h1]; exact h), h1, splice_length _ _ _ h]) fun j hj => ?_
 rw [splice_get _ _ _ (by rw [h1]; exact h), splice_get _ _ _ h, splice_get _ _ _ h]
 simp only [List.length_cons, List.length_nil]
 by_cases hc : i ≤ j ∧ j < i + (0 + 1)
 · rw [if_pos hc, if_pos hc]
 · rw [if_neg hc, if_neg hc, if_neg hc]
theorem splice_same {cs : List AV} {i : Nat} {x : AV} (h : cs[i]? = some x) : splice cs i [x] = cs := by
 have hi := (List.getElem?_eq_some_iff.1 h).1
 refine list_eq_at (splice_length _ _ _ hi) fun j hj => ?_
 rw [splice_get _ _ _ hi]
 split
 · rename_i hc
   have : j = i := by have := hc.2; simp only [List.length_cons, List.length_nil] at this; omega
   subst this
   rw [h, Nat.sub_self]
   rfl
 · rfl
theorem splice_here {cs : List AV} {i : Nat} {x : AV} (h : i < cs.length) : (splice cs i [x])[i]? = some x := by
 rw [splice_get _ _ _ h, if_pos (by simp only [List.length_cons, List.length_nil]; omega), Nat.sub_self]
 rfl
theorem slA_dat {k r c w : Int} {bs : List UInt8} (hm : mayB k r c w = true) (h : isSlot k r c w bs = true) : (slA k r c w bs).dv = bytesV (slotC k r bs).data ∧ (((slotC k r bs).data.length : Nat) : Int) = c := by
 have hd := (slot_ok h).data
 have hmn := may_n hm
 refine ⟨?_, hd⟩
 rw [slA_dv h]
 unfold bytesV
 rw [if_neg (by omega)]
def onceCd : Nat → Bool := fun d => d != 10 && d != 17
theorem law16_coded (k r c w ver : Int) (v : AV) (ps : List PairB) (cells : List AV) (hv : RowV v ps cells) (hm : mayB k r c w = true) (hr : rowB k r c ps = true) : FSpec Tryz.prog 23 [parV k r c w, v, intV ver] ⟨boolV (codedB k r c w ver ps), []⟩ := by
 refine fspec_fzT ?_
 have hp := hv.rd.plain
 have hmn := may_n hm
 have hml := mayB_of.1 hm
 obtain ⟨hl, hpr⟩ := row_at hr
 obtain ⟨K, hK⟩ : ∃ K : Nat, k = (K : Int) := ⟨k.toNat, by omega⟩
 obtain ⟨RR, hR⟩ : ∃ R : Nat, r = (R : Int) := ⟨r.toNat, by omega⟩
 obtain ⟨C, hC⟩ : ∃ C : Nat, c = (C : Int) := ⟨c.toNat, by omega⟩
 have hTl := codT_len k r c w ver ps
 have hTa : ∀ i p, ps[i]? = some p → (codT k r c w ver ps).getD i [] = codD k r c w ver p i := fun i p h => codT_at h
 have hcb : codedB k r c w ver ps = ((codT k r c w ver ps).all (fun b => decide (b.length ≠ 0)) && decide (parT K RR C (codT k r c w ver ps) = (codT k r c w ver ps).drop K)) := by
   unfold codedB
   rw [show k.toNat = K by omega, show r.toNat = RR by omega, show c.toNat = C by omega]
 generalize codedB k r c w ver ps = RES at *
 generalize codT k r c w ver ps = T at *
 have hbad : ∀ i, i < T.length → (T.getD i []).length = 0 → RES = false := fun i hi h => by
   rw [hcb]
   have : T.all (fun b => decide (b.length ≠ 0)) = false := by
     cases ha : T.all (fun b => decide (b.length ≠ 0)) with
     | false => rfl
     | true =>
       rw [List.all_eq_true] at ha
       obtain ⟨b, hb⟩ : ∃ b, T[i]? = some b := ⟨_, List.getElem?_eq_getElem hi⟩
       have := ha b (List.mem_of_getElem? hb)
       rw [getD_at hb] at h
       simp [h] at this
   rw [this]
   rfl
 have hgood : (∀ i, i < T.length → (T.getD i []).length ≠ 0) → RES = decide (parT K RR C T = T.drop K) := fun h => by
   rw [hcb]
   have : T.all (fun b => decide (b.length ≠ 0)) = true := by
     rw [List.all_eq_true]
     intro b hb
     obtain ⟨i, hi⟩ := List.getElem?_of_mem hb
     have := h i (List.getElem?_eq_some_iff.1 hi).1
     rw [getD_at hi] at this
     simpa using this
   rw [this]
   rfl
 have hTd : ∀ i, i < T.length → (T.getD i []).length ≠ 0 → (T.getD i []).length = C := fun i hi h => by
   obtain ⟨p, hpi⟩ : ∃ p, ps[i]? = some p := ⟨_, List.getElem?_eq_getElem (by omega)⟩
   rw [hTa i p hpi] at h ⊢
   have hd : ∀ bs, hitS k r c w bs (i : Nat) 2 ver = true → (((slotC k r bs).data.length : Nat) : Int) = c := fun bs hh => (slA_dat hm (hit_slot hh)).2
   unfold codD codD0 at h ⊢
   split
   · rename_i h1; have := hd _ h1; omega
   · rename_i h1
     rw [if_neg h1] at h
     split
     · rename_i h2; have := hd _ h2; omega
     · rename_i h2; rw [if_neg h2] at h; exact absurd rfl h
 have hmk := fun m => make_rows m (n := ps.length) (by omega)
 replace hbad := Hid.mk hbad
 replace hgood := Hid.mk hgood
 replace hTd := Hid.mk hTd
 replace hTa := Hid.mk hTa
 replace hcb := Hid.mk hcb
 replace hmn := Hid.mk hmn
 replace hml := Hid.mk hml
 replace hpr := Hid.mk hpr
 have hl16 : ps.length ≤ 16 := by have := hmn.out; omega
 replace hl := Hid.mk hl
 have hz0 : thereA T 0 = (List.range ps.length).map fun _ => nilS := by
   unfold thereA
   rw [hTl]
   apply List.map_congr_left
   intro j _
   rw [if_neg (by omega)]
 refine ospec_of_body follows Tryz.func23 (by unfold Tryz.f23; rfl) (by unfold Tryz.f23; simp) onceCd (by unfold Tryz.f23; simp) (by kernel_rfl) ?_; unfold Tryz.f23
 simp only [↓pre, simprocAttr, parV, sx, tys23, onceCd, bne, postU, postA, Int.natCast_zero, Int.cast_ofNat_Int, Int.natCast_one, ww0, ww1, ww2, allocE, put_at, push_at, hv.rd.len', hmk, sr]
 rw [codeW_loop]
 rw [← hz0]
 have hlen : lenE Tryz.prog 52 nilS = some (.val (.int .i64 0)) := by kernel_rfl
 refine loop_intro (fun q e m => ∃ i, q + i = ps.length ∧ e 1 = v ∧ e 2 = intV ver ∧ e 3 = .tptr 0 [intV k, intV r, intV c, intV w] ∧ e 7 = .sl 0 0 ps.length ps.length true ∧ e 8 = intV (i : Nat) ∧ m.at_ 0 = some ⟨thereA T i, 52, .var, true⟩ ∧ Hid (0 < m.next ∧ ∀ j, j < i → (T.getD j []).length ≠ 0)) ps.length ⟨0, by omega, rfl, rfl, rfl, rfl, rfl, by simp [push_at, me0], ⟨by simp [push_next, me0], fun j h => by omega⟩⟩ ?_
 rintro q e m ⟨i, hq, e1, e2, e3, e7, e8, hm0, hJ⟩
 replace hq := Hid.mk hq
 by_cases hlt : i < ps.length
 · have hlt' : ((i : Nat) : Int) < ((ps.length : Nat) : Int) := by omega
   have wi := wrap_succ (n := i) (by omega)
   obtain ⟨p, hpi⟩ : ∃ p, ps[i]? = some p := ⟨_, List.getElem?_eq_getElem hlt⟩
   obtain ⟨a, b, xa, xb, ha, hb, hra, hrb⟩ := hv.at_ i p hpi
   have hpp := hpr.out p (List.mem_of_getElem? hpi)
   unfold pairB at hpp
   rw [Bool.and_eq_true] at hpp
   have hP0 := slot_Parse_ok k r c w a p.1 xa hra hm hpp.1
   have hP1 := slot_Parse_ok k r c w b p.2 xb hrb hm hpp.2
   have fa := rd_fz hra
   have fb := rd_fz hrb
   have oa := rd_one hra
   have ob := rd_one hrb
   have pa := hra.plain
   have pb := hrb.plain
   have hTi := hTa.out i p hpi
   have hAl := thereA_len T i
   have hAi : (thereA T i)[i]? = some nilS := by rw [thereA_at (by omega), if_neg (by omega)]
   have hAp := thereA_put (T := T) (i := i) (by omega)
   have hc0 : codD0 k r c w ver p i = if hitS k r c w p.1 (i : Nat) 2 ver = true then (slotC k r p.1).data else [] := rfl
   have hc1 : codD k r c w ver p i = if hitS k r c w p.2 (i : Nat) 2 ver = true then (slotC k r p.2).data else codD0 k r c w ver p i := rfl
   rw [hTi] at hAp
   have hb0 : bytesV [] = nilS := rfl
   generalize hA : thereA T i = A at *
   replace hpi := Hid.mk hpi
   replace hpp := Hid.mk hpp
   replace hTi := Hid.mk hTi
   replace hAp := Hid.mk hAp
   replace hAi := Hid.mk hAi
   have hiA : i + 1 ≤ A.length := by omega
   replace hAl := Hid.mk hAl
   simp only [↓pre, simprocAttr, parV, sx, tys23, onceCd, bne, postU, postA, Int.natCast_zero, Int.cast_ofNat_Int, Int.natCast_one, ww0, ww1, ww2, allocE, put_at, push_at, e1, e2, e3, e7, e8, hv.rd.len', hlt', sr]
   rw [codeW_loop]
   refine loop_cut (fun e' m' => e' 1 = v ∧ e' 2 = intV ver ∧ e' 3 = .tptr 0 [intV k, intV r, intV c, intV w] ∧ e' 7 = .sl 0 0 ps.length ps.length true ∧ e' 8 = intV (i : Nat) ∧ m'.at_ 0 = some ⟨splice A i [bytesV (codD k r c w ver p i)], 52, .var, true⟩ ∧ 0 < m'.next) (fun e' m' hR => ?_) ?_
   · obtain ⟨e1, e2, e3, e7, e8, hm0, hnx⟩ := hR
     have hBi : (splice A i [bytesV (codD k r c w ver p i)])[i]? = some (bytesV (codD k r c w ver p i)) := splice_here (by omega)
     have hbr := bytesV_rd (codD k r c w ver p i)
     generalize splice A i [bytesV (codD k r c w ver p i)] = SP at *
     by_cases h9 : (codD k r c w ver p i).length = 0
     · have hT := hbad.out i (by omega) (by rw [hTi.out]; exact h9)
       have h9' : (((codD k r c w ver p i).length : Nat) : Int) = 0 := by omega
       simp only [↓pre, simprocAttr, parV, sx, tys23, onceCd, bne, postU, postA, Int.natCast_zero, Int.cast_ofNat_Int, Int.natCast_one, ww0, ww1, ww2, allocE, put_at, push_at, e1, e2, e3, e7, e8, hm0, addr_slp, hlt, hBi, hbr.len', h9', sr]
       exact ⟨0, by rw [hT, fzT_val]⟩
     · have h9' : ¬ (((codD k r c w ver p i).length : Nat) : Int) = 0 := by omega
       rw [hAp.out] at hm0
       have hBi2 : (thereA T (i + 1))[i]? = some (bytesV (codD k r c w ver p i)) := by rw [← hAp.out]; exact hBi
       have hJ2 : 0 < m'.next ∧ ∀ j, j < i + 1 → (T.getD j []).length ≠ 0 := ⟨hnx, fun j hj => by
         by_cases e : j = i
         · subst e; rw [hTi.out]; exact h9
         · exact hJ.out.2 j (by omega)⟩
       replace hJ2 := Hid.mk hJ2
       simp only [↓pre, simprocAttr, parV, sx, tys23, onceCd, bne, postU, postA, Int.natCast_zero, Int.cast_ofNat_Int, Int.natCast_one, ww0, ww1, ww2, allocE, put_at, push_at, e1, e2, e3, e7, e8, hm0, addr_slp, hlt, hBi2, hbr.len', h9', wi, sr]
       exact ⟨q - 1, by have := hq.out; omega, i + 1, by have := hq.out; omega, rfl, rfl, hJ2⟩
   · refine loop_intro (fun n e m => ∃ kk : Nat, n + kk = 2 ∧ e 1 = v ∧ e 2 = intV ver ∧ e 3 = .tptr 0 [intV k, intV r, intV c, intV w] ∧ e 7 = .sl 0 0 ps.length ps.length true ∧ e 8 = intV (i : Nat) ∧ e 9 = intV (kk : Nat) ∧ m.at_ 0 = some ⟨splice A i [bytesV (if kk = 0 then [] else if kk = 1 then codD0 k r c w ver p i else codD k r c w ver p i)], 52, .var, true⟩ ∧ Hid (0 < m.next)) 2 ⟨0, by omega, e1, e2, e3, e7, e8, rfl, by rw [if_pos rfl, hb0, splice_same hAi.out]; exact hm0, ⟨hJ.out.1⟩⟩ ?_
     clear hm0 e1 e2 e3 e7 e8
     rintro n e m ⟨kk, hn, e1, e2, e3, e7, e8, e9, hm0, hK⟩
     obtain rfl | rfl | rfl : kk = 0 ∨ kk = 1 ∨ kk = 2 := by omega
     · replace hn := Hid.mk hn
       rw [if_pos rfl] at hm0
       have hR := slA_rd k r c w p.1
       have hsd : isSlot k r c w p.1 = true → (slA k r c w p.1).dv = bytesV (slotC k r p.1).data := fun h => (slA_dat hm h).1
       have hix := slA_ix k r c w p.1 (i : Nat)
       have hhit : hitS k r c w p.1 (i : Nat) 2 ver = (isOf k r c w p.1 (i : Nat) && (decide ((slA k r c w p.1).kd = 2) && decide ((slA k r c w p.1).ce = ver))) := rfl
       rw [← hix] at hhit
       clear hix
       have hPP := hP0
       generalize hitS k r c w p.1 (i : Nat) 2 ver = H at *
       generalize slA k r c w p.1 = s at *
       generalize isSlot k r c w p.1 = b0 at *
       generalize slotC k r p.1 = sc at *
       obtain ⟨⟨n1, y1, g1⟩, ⟨n2, y2, g2⟩⟩ := hR
       have f1 := rd_fz g1
       have f2 := rd_fz g2
       have q1 := rd_one g1
       have q2 := rd_one g2
       have t1 := rd_shift g1
       have t2 := rd_shift g2
       have k2 := rd_okA g2
       have c2 := rd_cells g2
       simp only [SlA.cells] at hPP
       generalize hOLD : bytesV ([] : List UInt8) = OV at hm0
       replace hsd := Hid.mk hsd
       replace hhit := Hid.mk hhit
       replace hOLD := Hid.mk hOLD
       have hspl := splice_length A i [OV] hiA
       have hstp : (H = false → codD0 k r c w ver p i = []) ∧ (H = true → codD0 k r c w ver p i = sc.data) := ⟨fun h => by rw [hc0, if_neg (by rw [h]; decide)], fun h => by rw [hc0, if_pos h]⟩
       generalize hNEW : codD0 k r c w ver p i = NW at *
       replace hstp := Hid.mk hstp
       replace hNEW := Hid.mk hNEW
       have wk := wrap_succ (n := 0) (by omega)
       simp only [↓pre, simprocAttr, parV, sx, tys23, onceCd, bne, postU, postA, Int.natCast_zero, Int.cast_ofNat_Int, Int.natCast_one, ww0, ww1, ww2, allocE, put_at, push_at, storeE, e1, e2, e3, e7, e8, e9, f1, f2, q1, q2, t1, t2, hv.rd.addr', hlt, ha, fa, oa, sr]
       (refine call_pure (hPP) (by simp only [parV, plQ, *]) (by intro k; simp only [sq, sr, *]) ?_); simp only [↓pre, simprocAttr, parV, sx, tys23, onceCd, bne, postU, postA, Int.natCast_zero, Int.cast_ofNat_Int, Int.natCast_one, ww0, ww1, ww2, allocE, put_at, push_at, storeE, e1, e2, e3, e7, e8, e9, f1, f2, q1, q2, t1, t2, sr]
       refine contW_fixed (by kernel_rfl) ?_
       simp only [↓pre, simprocAttr, parV, sx, tys23, onceCd, bne, postU, postA, Int.natCast_zero, Int.cast_ofNat_Int, Int.natCast_one, ww0, ww1, ww2, allocE, put_at, push_at, storeE, e1, e2, e3, e7, e8, e9, f1, f2, q1, q2, t1, t2, sr]
       refine contW_fixed (by kernel_rfl) ?_
       simp only [↓pre, simprocAttr, parV, sx, tys23, onceCd, bne, postU, postA, Int.natCast_zero, Int.cast_ofNat_Int, Int.natCast_one, ww0, ww1, ww2, allocE, put_at, push_at, storeE, e1, e2, e3, e7, e8, e9, f1, f2, q1, q2, t1, t2, sr]
       generalize hM : Mem.put (Mem.push m _) _ _ = M
       have hMb : M.at_ m.next = some ⟨[.val (.int .u8 s.kd), .val (.int .i64 s.ix), .val (.int .i64 s.ce), .val (.int .i64 s.st), s.vv, s.dv], 127, .var, true⟩ := by rw [← hM]; simp [put_at, push_at]
       have hM0 : M.at_ 0 = some ⟨splice A i [OV], 52, .var, true⟩ := by
         have := hK.out
         rw [← hM, put_at, if_neg (by omega), push_at, if_neg (by omega)]
         exact hm0
       have hMn : 0 < M.next := by rw [← hM, put_next, push_next]; omega
       clear hM
       generalize m.next = B at *
       replace hMn := Hid.mk hMn
       have hst : ∀ q, storeE Tryz.prog M 52 q s.dv (.ptr 0 i) = outV undefA (M.put 0 (some ⟨splice A i [s.dv], 52, .var, true⟩)) := by
         have hs1 : szE Tryz.prog 52 = some 1 := by kernel_rfl
         have hsl : i + 1 ≤ (splice A i [OV]).length := by rw [hspl]; exact hiA
         intro q
         have hsl2 : i < (splice A i [OV]).length := hsl
         simp only [storeE, hM0, hs1, k2, c2, Option.bind_some, List.length_cons, List.length_nil, Nat.zero_add, hsl, true_and, and_true, if_true, Nat.lt_one_iff, Nat.zero_lt_one]
         rw [splice_twice (by omega)]
       have hno : H = false → M.at_ 0 = some ⟨splice A i [bytesV NW], 52, .var, true⟩ := fun h => by rw [hstp.out.1 h, hOLD.out]; exact hM0
       replace hno := Hid.mk hno
       cases b0 with
       | false =>
         have hH : H = false := by rw [hhit.out]; rfl
         have hM1 := hno.out hH
         simp only [↓pre, simprocAttr, parV, sx, tys23, onceCd, bne, postU, postA, Int.natCast_zero, Int.cast_ofNat_Int, Int.natCast_one, ww0, ww1, ww2, allocE, put_at, push_at, e1, e2, e3, e7, e8, e9, f1, f2, q1, q2, t1, t2, hMb, wk, sr]
         exact ⟨n - 1, by have := hn.out; omega, 0 + 1, by have := hn.out; omega, rfl, by rw [if_neg (by decide), if_pos rfl]; exact hM1, hMn⟩
       | true =>
         by_cases d1 : s.kd = 2
         · by_cases d2 : s.ix = (i : Nat)
           · by_cases d3 : s.ce = ver
             · have hH : H = true := by rw [hhit.out, decide_eq_true d1, decide_eq_true d2, decide_eq_true d3]; rfl
               have hsdv := hsd.out rfl
               have hN1 := hstp.out.2 hH
               simp only [↓pre, simprocAttr, parV, sx, tys23, onceCd, bne, postU, postA, Int.natCast_zero, Int.cast_ofNat_Int, Int.natCast_one, ww0, ww1, ww2, allocE, put_at, push_at, e1, e2, e3, e7, e8, e9, f1, f2, q1, q2, t1, t2, hMb, wk, d1, d2, d3, addr_slp, hlt, hst, sr]
               exact ⟨n - 1, by have := hn.out; omega, 0 + 1, by have := hn.out; omega, rfl, by rw [if_neg (by decide), if_pos rfl]; rw [hN1, ← hsdv], hMn⟩
             · have hH : H = false := by rw [hhit.out, decide_eq_false d3]; simp
               have hM1 := hno.out hH
               simp only [↓pre, simprocAttr, parV, sx, tys23, onceCd, bne, postU, postA, Int.natCast_zero, Int.cast_ofNat_Int, Int.natCast_one, ww0, ww1, ww2, allocE, put_at, push_at, e1, e2, e3, e7, e8, e9, f1, f2, q1, q2, t1, t2, hMb, wk, d1, d2, d3, sr]
               exact ⟨n - 1, by have := hn.out; omega, 0 + 1, by have := hn.out; omega, rfl, by rw [if_neg (by decide), if_pos rfl]; exact hM1, hMn⟩
           · have hH : H = false := by rw [hhit.out, decide_eq_false d2]; simp
             have hM1 := hno.out hH
             simp only [↓pre, simprocAttr, parV, sx, tys23, onceCd, bne, postU, postA, Int.natCast_zero, Int.cast_ofNat_Int, Int.natCast_one, ww0, ww1, ww2, allocE, put_at, push_at, e1, e2, e3, e7, e8, e9, f1, f2, q1, q2, t1, t2, hMb, wk, d1, d2, sr]
             exact ⟨n - 1, by have := hn.out; omega, 0 + 1, by have := hn.out; omega, rfl, by rw [if_neg (by decide), if_pos rfl]; exact hM1, hMn⟩
         · have hH : H = false := by rw [hhit.out, decide_eq_false d1]; simp
           have hM1 := hno.out hH
           simp only [↓pre, simprocAttr, parV, sx, tys23, onceCd, bne, postU, postA, Int.natCast_zero, Int.cast_ofNat_Int, Int.natCast_one, ww0, ww1, ww2, allocE, put_at, push_at, e1, e2, e3, e7, e8, e9, f1, f2, q1, q2, t1, t2, hMb, wk, d1, sr]
           exact ⟨n - 1, by have := hn.out; omega, 0 + 1, by have := hn.out; omega, rfl, by rw [if_neg (by decide), if_pos rfl]; exact hM1, hMn⟩
     · replace hn := Hid.mk hn
       rw [if_neg (by decide), if_pos rfl] at hm0
       have hR := slA_rd k r c w p.2
       have hsd : isSlot k r c w p.2 = true → (slA k r c w p.2).dv = bytesV (slotC k r p.2).data := fun h => (slA_dat hm h).1
       have hix := slA_ix k r c w p.2 (i : Nat)
       have hhit : hitS k r c w p.2 (i : Nat) 2 ver = (isOf k r c w p.2 (i : Nat) && (decide ((slA k r c w p.2).kd = 2) && decide ((slA k r c w p.2).ce = ver))) := rfl
       rw [← hix] at hhit
       clear hix
       have hPP := hP1
       generalize hitS k r c w p.2 (i : Nat) 2 ver = H at *
       generalize slA k r c w p.2 = s at *
       generalize isSlot k r c w p.2 = b0 at *
       generalize slotC k r p.2 = sc at *
       obtain ⟨⟨n1, y1, g1⟩, ⟨n2, y2, g2⟩⟩ := hR
       have f1 := rd_fz g1
       have f2 := rd_fz g2
       have q1 := rd_one g1
       have q2 := rd_one g2
       have t1 := rd_shift g1
       have t2 := rd_shift g2
       have k2 := rd_okA g2
       have c2 := rd_cells g2
       simp only [SlA.cells] at hPP
       generalize hOLD : bytesV (codD0 k r c w ver p i) = OV at hm0
       replace hsd := Hid.mk hsd
       replace hhit := Hid.mk hhit
       replace hOLD := Hid.mk hOLD
       have hspl := splice_length A i [OV] hiA
       have hstp : (H = false → codD k r c w ver p i = codD0 k r c w ver p i) ∧ (H = true → codD k r c w ver p i = sc.data) := ⟨fun h => by rw [hc1, if_neg (by rw [h]; decide)], fun h => by rw [hc1, if_pos h]⟩
       generalize hNEW : codD k r c w ver p i = NW at *
       replace hstp := Hid.mk hstp
       replace hNEW := Hid.mk hNEW
       have wk := wrap_succ (n := 1) (by omega)
       simp only [↓pre, simprocAttr, parV, sx, tys23, onceCd, bne, postU, postA, Int.natCast_zero, Int.cast_ofNat_Int, Int.natCast_one, ww0, ww1, ww2, allocE, put_at, push_at, storeE, e1, e2, e3, e7, e8, e9, f1, f2, q1, q2, t1, t2, hv.rd.addr', hlt, hb, fb, ob, sr]
       (refine call_pure (hPP) (by simp only [parV, plQ, *]) (by intro k; simp only [sq, sr, *]) ?_); simp only [↓pre, simprocAttr, parV, sx, tys23, onceCd, bne, postU, postA, Int.natCast_zero, Int.cast_ofNat_Int, Int.natCast_one, ww0, ww1, ww2, allocE, put_at, push_at, storeE, e1, e2, e3, e7, e8, e9, f1, f2, q1, q2, t1, t2, sr]
       refine contW_fixed (by kernel_rfl) ?_
       simp only [↓pre, simprocAttr, parV, sx, tys23, onceCd, bne, postU, postA, Int.natCast_zero, Int.cast_ofNat_Int, Int.natCast_one, ww0, ww1, ww2, allocE, put_at, push_at, storeE, e1, e2, e3, e7, e8, e9, f1, f2, q1, q2, t1, t2, sr]
       refine contW_fixed (by kernel_rfl) ?_
       simp only [↓pre, simprocAttr, parV, sx, tys23, onceCd, bne, postU, postA, Int.natCast_zero, Int.cast_ofNat_Int, Int.natCast_one, ww0, ww1, ww2, allocE, put_at, push_at, storeE, e1, e2, e3, e7, e8, e9, f1, f2, q1, q2, t1, t2, sr]
       generalize hM : Mem.put (Mem.push m _) _ _ = M
       have hMb : M.at_ m.next = some ⟨[.val (.int .u8 s.kd), .val (.int .i64 s.ix), .val (.int .i64 s.ce), .val (.int .i64 s.st), s.vv, s.dv], 127, .var, true⟩ := by rw [← hM]; simp [put_at, push_at]
       have hM0 : M.at_ 0 = some ⟨splice A i [OV], 52, .var, true⟩ := by
         have := hK.out
         rw [← hM, put_at, if_neg (by omega), push_at, if_neg (by omega)]
         exact hm0
       have hMn : 0 < M.next := by rw [← hM, put_next, push_next]; omega
       clear hM
       generalize m.next = B at *
       replace hMn := Hid.mk hMn
       have hst : ∀ q, storeE Tryz.prog M 52 q s.dv (.ptr 0 i) = outV undefA (M.put 0 (some ⟨splice A i [s.dv], 52, .var, true⟩)) := by
         have hs1 : szE Tryz.prog 52 = some 1 := by kernel_rfl
         have hsl : i + 1 ≤ (splice A i [OV]).length := by rw [hspl]; exact hiA
         intro q
         have hsl2 : i < (splice A i [OV]).length := hsl
         simp only [storeE, hM0, hs1, k2, c2, Option.bind_some, List.length_cons, List.length_nil, Nat.zero_add, hsl, true_and, and_true, if_true, Nat.lt_one_iff, Nat.zero_lt_one]
         rw [splice_twice (by omega)]
       have hno : H = false → M.at_ 0 = some ⟨splice A i [bytesV NW], 52, .var, true⟩ := fun h => by rw [hstp.out.1 h, hOLD.out]; exact hM0
       replace hno := Hid.mk hno
       cases b0 with
       | false =>
         have hH : H = false := by rw [hhit.out]; rfl
         have hM1 := hno.out hH
         simp only [↓pre, simprocAttr, parV, sx, tys23, onceCd, bne, postU, postA, Int.natCast_zero, Int.cast_ofNat_Int, Int.natCast_one, ww0, ww1, ww2, allocE, put_at, push_at, e1, e2, e3, e7, e8, e9, f1, f2, q1, q2, t1, t2, hMb, wk, sr]
         exact ⟨n - 1, by have := hn.out; omega, 1 + 1, by have := hn.out; omega, rfl, by rw [if_neg (by decide), if_neg (by decide)]; exact hM1, hMn⟩
       | true =>
         by_cases d1 : s.kd = 2
         · by_cases d2 : s.ix = (i : Nat)
           · by_cases d3 : s.ce = ver
             · have hH : H = true := by rw [hhit.out, decide_eq_true d1, decide_eq_true d2, decide_eq_true d3]; rfl
               have hsdv := hsd.out rfl
               have hN1 := hstp.out.2 hH
               simp only [↓pre, simprocAttr, parV, sx, tys23, onceCd, bne, postU, postA, Int.natCast_zero, Int.cast_ofNat_Int, Int.natCast_one, ww0, ww1, ww2, allocE, put_at, push_at, e1, e2, e3, e7, e8, e9, f1, f2, q1, q2, t1, t2, hMb, wk, d1, d2, d3, addr_slp, hlt, hst, sr]
               exact ⟨n - 1, by have := hn.out; omega, 1 + 1, by have := hn.out; omega, rfl, by rw [if_neg (by decide), if_neg (by decide)]; rw [hN1, ← hsdv], hMn⟩
             · have hH : H = false := by rw [hhit.out, decide_eq_false d3]; simp
               have hM1 := hno.out hH
               simp only [↓pre, simprocAttr, parV, sx, tys23, onceCd, bne, postU, postA, Int.natCast_zero, Int.cast_ofNat_Int, Int.natCast_one, ww0, ww1, ww2, allocE, put_at, push_at, e1, e2, e3, e7, e8, e9, f1, f2, q1, q2, t1, t2, hMb, wk, d1, d2, d3, sr]
               exact ⟨n - 1, by have := hn.out; omega, 1 + 1, by have := hn.out; omega, rfl, by rw [if_neg (by decide), if_neg (by decide)]; exact hM1, hMn⟩
           · have hH : H = false := by rw [hhit.out, decide_eq_false d2]; simp
             have hM1 := hno.out hH
             simp only [↓pre, simprocAttr, parV, sx, tys23, onceCd, bne, postU, postA, Int.natCast_zero, Int.cast_ofNat_Int, Int.natCast_one, ww0, ww1, ww2, allocE, put_at, push_at, e1, e2, e3, e7, e8, e9, f1, f2, q1, q2, t1, t2, hMb, wk, d1, d2, sr]
             exact ⟨n - 1, by have := hn.out; omega, 1 + 1, by have := hn.out; omega, rfl, by rw [if_neg (by decide), if_neg (by decide)]; exact hM1, hMn⟩
         · have hH : H = false := by rw [hhit.out, decide_eq_false d1]; simp
           have hM1 := hno.out hH
           simp only [↓pre, simprocAttr, parV, sx, tys23, onceCd, bne, postU, postA, Int.natCast_zero, Int.cast_ofNat_Int, Int.natCast_one, ww0, ww1, ww2, allocE, put_at, push_at, e1, e2, e3, e7, e8, e9, f1, f2, q1, q2, t1, t2, hMb, wk, d1, sr]
           exact ⟨n - 1, by have := hn.out; omega, 1 + 1, by have := hn.out; omega, rfl, by rw [if_neg (by decide), if_neg (by decide)]; exact hM1, hMn⟩
     · rw [if_neg (by decide), if_neg (by decide)] at hm0
       simp only [↓pre, simprocAttr, parV, sx, tys23, onceCd, bne, postU, postA, Int.natCast_zero, Int.cast_ofNat_Int, Int.natCast_one, ww0, ww1, ww2, allocE, put_at, push_at, e1, e2, e3, e7, e8, e9, sr]
       exact ⟨hm0, hK.out⟩
 · have hlt' : ¬ ((i : Nat) : Int) < ((ps.length : Nat) : Int) := by omega
   have hi : i = ps.length := by have := hq.out; omega
   subst hi
   have hall := hJ.out.2
   have hlC : ∀ b ∈ T, b.length = C := fun b hb => by
     obtain ⟨j, hj⟩ := List.getElem?_of_mem hb
     have hjl := (List.getElem?_eq_some_iff.1 hj).1
     have := hTd.out j hjl (hall j (by omega))
     rw [getD_at hj] at this
     exact this
   have hT := hgood.out fun j hj => hall j (by omega)
   rw [← hTl] at hm0 e7
   have hHas : HasF m (.sl 0 0 T.length T.length true) T.length (thereA T T.length) := ⟨.inr ⟨0, 0, T.length, true, _, rfl, hm0, .inr ⟨rfl, thereA_plain _ _⟩, rfl, Nat.le_refl _⟩⟩
   obtain ⟨av, hlend, hav⟩ := hHas.lend 2
   have hve := codec_Verify av K RR C T _ (thereA_rows T av hav) (by have := hl.out; omega) hlC (by have := hml.out; omega) (by have := hml.out; omega) (by have := hml.out; omega) (by have := hml.out; omega) (by have := hml.out; omega)
   have hlends : lends 3 m [intV k, intV r, .sl 0 0 T.length T.length true] = some [intV (K : Nat), intV (RR : Nat), av] := by
     rw [hK, hR]
     simp only [lends, hlend, Option.bind_some, Option.map_some]
     rw [(plain_lend 3 (intV (K : Nat)) rfl).1, (plain_lend 3 (intV (RR : Nat)) rfl).1]
     rfl
   simp only [intV] at hlends hve
   replace hall := Hid.mk hall
   replace hT := Hid.mk hT
   simp only [↓pre, simprocAttr, parV, sx, tys23, onceCd, bne, postU, postA, Int.natCast_zero, Int.cast_ofNat_Int, Int.natCast_one, ww0, ww1, ww2, allocE, put_at, push_at, e1, e2, e3, e7, e8, hv.rd.len', hlt', sr]
   refine call_lent hve hlends rfl rfl ?_
   clear hve
   generalize decide (parT K RR C T = List.drop K T) = D at *
   cases D with
   | true =>
     simp only [↓pre, simprocAttr, parV, sx, tys23, onceCd, bne, postU, postA, Int.natCast_zero, Int.cast_ofNat_Int, Int.natCast_one, ww0, ww1, ww2, allocE, put_at, push_at, e1, e2, e3, e7, e8, sr]
     exact ⟨0, by rw [hT.out, fzT_val]⟩
   | false =>
     simp only [↓pre, simprocAttr, parV, sx, tys23, onceCd, bne, postU, postA, Int.natCast_zero, Int.cast_ofNat_Int, Int.natCast_one, ww0, ww1, ww2, allocE, put_at, push_at, e1, e2, e3, e7, e8, sr]
     exact ⟨0, by rw [hT.out, fzT_val]⟩
theorem wcA_nil (cs : List AV) (n : Nat) : wcA [] cs n = cs := by
 rw [← wcA_zero [] cs, wcA_zero]
 exact (wcA_ext (n := n) (n' := 0) fun j _ => ⟨fun h => absurd h.2 (by simp [wipB]), fun h => by omega⟩).trans (wcA_zero _ _)
theorem gone_nil (n : Nat) : goneN [] n = 0 := by
 unfold goneN
 rw [List.length_eq_zero_iff, List.filter_eq_nil_iff]
 intro i _
 simp [wipB]
structure FinOk (k r c w : Int) (ps : List PairB) (wl : List Bool) : Prop where
 puts : ∀ p ∈ finL k r c w ps 0, p.dr < ps.length ∧ p.sl < 2
 step : ∀ n, n ≤ (finL k r c w ps 0).length → comE k r c w (putsP ps ((finL k r c w ps 0).take n)) = 0 ∧ winI k r c w (putsP ps ((finL k r c w ps 0).take n)) = winI k r c w ps ∧ comD k r c w (putsP ps ((finL k r c w ps 0).take n)) = comD k r c w ps
 all : missE k r c w (winI k r c w ps) (putsP ps (finL k r c w ps 0)) = 0 ∧ missL k r c w (winI k r c w ps) (putsP ps (finL k r c w ps 0)) = []
 wiped : (goneN wl ps.length : Int) ≤ r → codedB k r c w (winI k r c w ps) (putsP ps (finL k r c w ps 0)) = true → comE k r c w (wipeP wl (putsP ps (finL k r c w ps 0)) ps.length) = 0 ∧ winI k r c w (wipeP wl (putsP ps (finL k r c w ps 0)) ps.length) = winI k r c w ps ∧ comD k r c w (wipeP wl (putsP ps (finL k r c w ps 0)) ps.length) = comD k r c w ps
theorem com_parts {k r c w : Int} {ps : List PairB} (hc : chkI k r c w ps = 0) (h : comE k r c w ps = 0) : winI k r c w ps ≠ 0 ∧ ¬ manyN k r c w ps 2 (winI k r c w ps) < k.toNat ∧ parseE k r c w (comD k r c w ps) = 0 := by
 unfold comE at h
 rw [if_pos hc] at h
 split at h
 · contradiction
 · rename_i h1
   split at h
   · contradiction
   · rename_i h2
     exact ⟨h1, h2, h⟩
theorem refs_le {k r c w : Int} {ps : List PairB} (hc : chkI k r c w ps = 0) (h : comE k r c w ps = 0) : (pRefs (comD k r c w ps)).length ≤ 1000 := by
 have h3 := (com_parts hc h).2.2
 obtain ⟨hm, _⟩ := chk_parts hc
 have hl := comD_len (ps := ps) hm
 have hw := may_w hm
 have hml := mayB_of.1 hm
 unfold parseE at h3
 rw [if_pos hm] at h3
 split at h3
 · split at h3
   · rename_i h4
     unfold parseOk at h4
     rw [Bool.and_eq_true, decide_eq_true_eq] at h4
     have hkc : k.toNat * c.toNat ≤ 768 := by
       have : ((k.toNat * c.toNat : Nat) : Int) = k * c := by rw [Int.natCast_mul, Int.toNat_of_nonneg (by omega), Int.toNat_of_nonneg (by omega)]
       omega
     unfold pRefs
     rw [refsOf_len]
     omega
   · contradiction
 · contradiction
theorem be_numB (n : Int) (h0 : 0 ≤ n) (h1 : n ≤ 1073741824) : ((beN (numB n 4) : Nat) : Int) = n := by
 obtain ⟨m, rfl⟩ : ∃ m : Nat, n = (m : Int) := ⟨n.toNat, by omega⟩
 have hd : ∀ j, (((m : Nat) : Int) / 2 ^ j).toNat = m / 2 ^ j := fun j => by
   rw [show (2 : Int) ^ j = ((2 ^ j : Nat) : Int) by simp, ← Int.natCast_ediv, Int.toNat_natCast]
 have e : numB (m : Int) 4 = [UInt8.ofNat (m / 2 ^ 24), UInt8.ofNat (m / 2 ^ 16), UInt8.ofNat (m / 2 ^ 8), UInt8.ofNat (m / 2 ^ 0)] := by
   simp only [numB, hd]
 rw [e]
 have hu : ∀ x : Nat, (UInt8.ofNat x).toNat = x % 256 := fun x => by simp
 simp only [beN, List.foldl_cons, List.foldl_nil, hu]
 omega
theorem numAt_of {a b : List UInt8} {n : Int} {o : Nat} (h0 : 0 ≤ n) (h1 : n ≤ 1073741824) (ho : a.length = o) : numAt (a ++ (numB n 4 ++ b)) o = n := by
 unfold numAt
 rw [List.drop_left' ho, List.take_left' (numB_len n 4)]
 exact be_numB n h0 h1
theorem vecB_drop : ∀ (l : List Int) (j : Nat), (vecB l).drop (4 * j) = vecB (l.drop j)
 | l, 0 => by simp
 | [], j + 1 => by simp [vecB]
 | a :: l, j + 1 => by
   have e : vecB (a :: l) = numB a 4 ++ vecB l := rfl
   rw [e, show 4 * (j + 1) = (numB a 4).length + 4 * j by rw [numB_len]; omega, ← List.drop_drop, List.drop_left' rfl, vecB_drop l j]
   rfl
theorem numsI_of {a : List UInt8} {l : List Int} {d : List UInt8} (ha : a.length = 12) (hl : ∀ v ∈ l, 0 ≤ v ∧ v ≤ 1073741824) : numsI (a ++ (vecB l ++ d)) l.length = l := by
 refine List.ext_getElem? fun j => ?_
 unfold numsI
 by_cases hj : j < l.length
 · rw [List.getElem?_map, List.getElem?_range hj, Option.map_some]
   obtain ⟨z, hz⟩ : ∃ z, l[j]? = some z := ⟨_, List.getElem?_eq_getElem hj⟩
   have hdr : l.drop j = z :: l.drop (j + 1) := by
     rw [List.drop_eq_getElem_cons hj]
     congr 1
     rw [List.getElem?_eq_getElem hj] at hz
     injection hz
   have hlen : ((vecB l).take (4 * j)).length = 4 * j := by rw [List.length_take, vecB_len]; omega
   have hsp : a ++ (vecB l ++ d) = (a ++ (vecB l).take (4 * j)) ++ (numB z 4 ++ (vecB (l.drop (j + 1)) ++ d)) := by
     have := List.take_append_drop (4 * j) (vecB l)
     rw [vecB_drop, hdr] at this
     have e : vecB (z :: l.drop (j + 1)) = numB z 4 ++ vecB (l.drop (j + 1)) := rfl
     rw [e] at this
     conv => lhs; rw [← this]
     simp only [List.append_assoc]
   obtain ⟨h1, h2⟩ := hl z (List.mem_of_getElem? hz)
   rw [hsp, numAt_of h1 h2 (by rw [List.length_append, hlen, ha]), hz]
 · rw [List.getElem?_eq_none (by simp; omega), List.getElem?_eq_none (by omega)]
theorem slotB_len {k r c w : Int} {s : SlotC} (hm : mayB k r c w = true) (hs : SlotOk k r c w s) : ((slotB s).length : Int) = sizeI k r c := by
 have h1 := (vec_ok hs.vec).1
 have h2 := hs.data
 unfold slotB sizeI
 simp only [List.length_append, numB_len, vecB_len, List.length_cons, List.length_nil]
 omega
theorem slotB_read {k r c w : Int} {s : SlotC} (hm : mayB k r c w = true) (hs : SlotOk k r c w s) : slotC k r (slotB s) = s := by
 obtain ⟨hl, hv⟩ := vec_ok hs.vec
 have hmn := may_n hm
 have hce := hv _ (List.mem_of_getElem? hs.ce)
 have hst : 0 ≤ s.st ∧ s.st ≤ 1073741824 := by
   rw [hs.st]
   exact last_le s.vec 0 (by omega) fun v hv' => (hv v hv').2
 have hix0 := hs.ix0
 have hix1 := hs.ix1
 have hkd := hs.kd
 obtain ⟨kd, ix, ce, st, vec, data⟩ := s
 simp only at *
 have hN : (k + r).toNat = vec.length := by omega
 unfold slotC slotB
 rw [hN]
 congr 1
 · show ((UInt8.ofNat kd.toNat).toNat : Int) = kd
   rcases hkd with rfl | rfl <;> rfl
 · show ((UInt8.ofNat ix.toNat).toNat : Int) = ix
   have hu : (UInt8.ofNat ix.toNat).toNat = ix.toNat % 256 := by simp
   rw [hu]
   omega
 · exact numAt_of (a := [84, 50, UInt8.ofNat kd.toNat, UInt8.ofNat ix.toNat]) (n := ce) (by omega) hce.2 rfl
 · rw [← List.append_assoc]
   exact numAt_of hst.1 hst.2 (by simp [numB_len])
 · rw [← List.append_assoc, ← List.append_assoc]
   exact numsI_of (by simp [numB_len]) fun v hv' => by have := hv v hv'; omega
 · rw [← List.append_assoc, ← List.append_assoc, ← List.append_assoc]
   exact List.drop_left' (by simp [numB_len, vecB_len]; omega)
theorem slotB_is {k r c w : Int} {s : SlotC} (hm : mayB k r c w = true) (hs : SlotOk k r c w s) : isSlot k r c w (slotB s) = true := by
 unfold isSlot
 rw [decide_eq_true (slotB_len hm hs), slotB_read hm hs]
 have hmt : maySC k r c w s = true := by
   unfold maySC mayS
   rw [decide_eq_true hs.vec, decide_eq_true hs.st, decide_eq_true ⟨hs.ix0, hs.ix1⟩, decide_eq_true hs.ce, decide_eq_true hs.data]
   rcases hs.kd with h | h <;> simp [h]
 rw [hmt]
 rfl
theorem slotB_lenB {k r c w : Int} {s : SlotC} (hm : mayB k r c w = true) (hs : SlotOk k r c w s) : lenB k r c (slotB s).length = true := by
 unfold lenB
 rw [decide_eq_true (slotB_len hm hs), Bool.or_true]
def PureRow (k r c w : Int) (qs : List PairB) : Prop := ∀ (i : Nat) (q : PairB), qs[i]? = some q → pureS k r c w q.1 i = true ∧ pureS k r c w q.2 i = true
theorem hit_iff {k r c w : Int} {bs : List UInt8} {i : Nat} {v : Int} : hitS k r c w bs (i : Nat) 2 v = true ↔ isSlot k r c w bs = true ∧ (slotC k r bs).ix = (i : Nat) ∧ (slotC k r bs).kd = 2 ∧ (slotC k r bs).ce = v := by
 unfold hitS hitB isOf
 simp only [Bool.and_eq_true, decide_eq_true_eq]
 constructor
 · rintro ⟨⟨h1, h2⟩, h3, h4⟩
   rw [slA_is h1] at h3 h4
   exact ⟨h1, h2, h3, h4⟩
 · rintro ⟨h1, h2, h3, h4⟩
   refine ⟨⟨h1, h2⟩, ?_, ?_⟩
   · rw [slA_is h1]; exact h3
   · rw [slA_is h1]; exact h4
theorem pure_slot {k r c w : Int} {bs : List UInt8} {i : Nat} (hm : mayB k r c w = true) (hp : pureS k r c w bs i = true) (h1 : isSlot k r c w bs = true) (h2 : (slotC k r bs).kd = 2) : (slotC k r bs).ix = (i : Nat) ∧ (slotC k r bs).st = (slotC k r bs).ce ∧ ∀ v ∈ (slotC k r bs).vec, v = (slotC k r bs).ce := by
 have hs := slot_ok h1
 have hl := (vec_ok hs.vec).1
 have hmn := may_n hm
 unfold pureS at hp
 rw [h1, decide_eq_true h2] at hp
 simp only [Bool.and_self, Bool.not_true, Bool.false_or, List.all_eq_true, Bool.and_eq_true, decide_eq_true_eq] at hp
 have hne : (slotC k r bs).vec ≠ [] := fun e => by rw [e] at hl; simp at hl; omega
 obtain ⟨z, hz⟩ := List.exists_mem_of_ne_nil _ hne
 refine ⟨(hp z hz).2, ?_, fun v hv => (hp v hv).1⟩
 rw [hs.st]
 have hce : 1 ≤ (slotC k r bs).ce := ((vec_ok hs.vec).2 _ (List.mem_of_getElem? hs.ce)).1
 have key : ∀ (l : List Int) (a : Int), (∀ v ∈ l, v = (slotC k r bs).ce) → a ≤ (slotC k r bs).ce → (l ≠ [] ∨ a = (slotC k r bs).ce) → l.foldl max a = (slotC k r bs).ce := by
   intro l
   induction l with
   | nil => intro a _ _ h; rcases h with h | h; exact absurd rfl h; exact h
   | cons b l ih =>
     intro a h1 h2 _
     have hb := h1 b (by simp)
     simp only [List.foldl_cons]
     exact ih _ (fun v hv => h1 v (by simp [hv])) (by omega) (.inr (by omega))
 exact key _ 0 (fun v hv => (hp v hv).1) (by omega) (.inl hne)
theorem pure_held {k r c w : Int} {bs : List UInt8} {i : Nat} {v : Int} (hm : mayB k r c w = true) (hp : pureS k r c w bs i = true) (hv : 1 ≤ v) : heldI k r c w bs (i : Nat) = v ↔ hitS k r c w bs (i : Nat) 2 v = true := by
 rw [hit_iff]
 unfold heldI heldB isOf
 constructor
 · intro h
   split at h
   · rename_i hb
     simp only [Bool.and_eq_true, decide_eq_true_eq] at hb
     exact ⟨hb.1.1, hb.1.2, hb.2.1, h⟩
   · omega
 · rintro ⟨h1, h2, h3, h4⟩
   obtain ⟨_, _, h5⟩ := pure_slot hm hp h1 h3
   rw [if_pos]
   · exact h4
   · rw [h1, decide_eq_true h2, decide_eq_true h3]
     simp only [Bool.true_and, List.all_eq_true, decide_eq_true_eq]
     exact h5
theorem datO_hit {k r c w : Int} {q : PairB} {i : Nat} {v : Int} (hm : mayB k r c w = true) : (datO k r c w q (i : Nat) 2 v).length ≠ 0 ↔ hitS k r c w q.1 (i : Nat) 2 v = true ∨ hitS k r c w q.2 (i : Nat) 2 v = true := by
 have hd : ∀ bs, hitS k r c w bs (i : Nat) 2 v = true → (slotC k r bs).data.length ≠ 0 := fun bs h => by
   have := (slA_dat hm (hit_slot h)).2
   have := may_n hm
   omega
 unfold datO
 by_cases h1 : hitS k r c w q.1 (i : Nat) 2 v = true
 · rw [if_pos h1]
   exact ⟨fun _ => .inl h1, fun _ => hd _ h1⟩
 · rw [if_neg h1]
   by_cases h2 : hitS k r c w q.2 (i : Nat) 2 v = true
   · rw [if_pos h2]
     exact ⟨fun _ => .inr h2, fun _ => hd _ h2⟩
   · rw [if_neg h2]
     exact ⟨fun h => absurd rfl h, fun h => by rcases h with h | h; exact absurd h h1; exact absurd h h2⟩
theorem pure_holds {k r c w : Int} {qs : List PairB} (hm : mayB k r c w = true) (hp : PureRow k r c w qs) {i : Nat} {q : PairB} (hq : qs[i]? = some q) {v : Int} (hv : 1 ≤ v) : holdsAt (heldsP k r c w qs) i v = true ↔ (datO k r c w q (i : Nat) 2 v).length ≠ 0 := by
 obtain ⟨h1, h2⟩ := hp i q hq
 rw [datO_hit hm, ← pure_held hm h1 hv, ← pure_held hm h2 hv]
 unfold holdsAt
 rw [helds_at hq]
 simp only [Bool.or_eq_true, decide_eq_true_eq]
theorem pure_there {k r c w : Int} {qs : List PairB} (hm : mayB k r c w = true) (hl : (qs.length : Int) = k + r) (hp : PureRow k r c w qs) {v : Int} {i : Nat} {q : PairB} (hq : qs[i]? = some q) : (thereL k r c w qs 2 v).getD i [] = datO k r c w q (i : Nat) 2 v := by
 have hi := (List.getElem?_eq_some_iff.1 hq).1
 cases hT : toldL k r c w qs 2 v with
 | some l =>
   rw [thereL_at hT hq]
   obtain ⟨hll, _⟩ := told_ok hT
   obtain ⟨j, hj, h1⟩ := toldN_some _ _ hT
   obtain ⟨h2, bs, hbs, h3, rfl⟩ := told1_some h1
   have hqj : qs[j]? = some (qs.getD j ([], [])) := by rw [List.getD_eq_getElem?_getD, List.getElem?_eq_getElem hj]; rfl
   obtain ⟨p1, p2⟩ := hp j _ hqj
   have hpb : pureS k r c w bs j = true := by rcases hbs with rfl | rfl; exact p1; exact p2
   unfold toldB at h3
   simp only [Bool.and_eq_true, decide_eq_true_eq] at h3
   obtain ⟨h4, h5, h6, h7⟩ := h3
   rw [slA_is h4] at h5 h7
   obtain ⟨_, h8, h9⟩ := pure_slot hm hpb h4 h5
   have h7 : (slotC k r bs).st = v := h7
   have hz : (slotC k r bs).vec.getD i 0 = v := by
     obtain ⟨z, hz⟩ : ∃ z, (slotC k r bs).vec[i]? = some z := ⟨_, List.getElem?_eq_getElem (by omega)⟩
     rw [List.getD_eq_getElem?_getD, hz]
     show z = v
     rw [h9 z (List.mem_of_getElem? hz), ← h8, h7]
   rw [hz]
 | none =>
   have h0 : (thereL k r c w qs 2 v).getD i [] = [] := by
     unfold thereL
     rw [hT]
     simp only
     rw [List.getD_eq_getElem?_getD, List.getElem?_map, List.getElem?_range hi]
     rfl
   rw [h0]
   symm
   refine List.eq_nil_of_length_eq_zero ?_
   refine Decidable.by_contra fun hne => ?_
   have hh := (datO_hit hm).1 hne
   obtain ⟨p1, p2⟩ := hp i q hq
   have hgd : qs.getD i ([], []) = q := by rw [List.getD_eq_getElem?_getD, hq]; rfl
   have htb : ∀ bs, pureS k r c w bs i = true → hitS k r c w bs (i : Nat) 2 v = true → toldB k r c w bs (i : Nat) 2 v = true := fun bs hb h => by
     obtain ⟨h1, h2, h3, h4⟩ := hit_iff.1 h
     obtain ⟨_, h5, _⟩ := pure_slot hm hb h1 h3
     unfold toldB
     rw [h1, slA_is h1]
     simp only [Bool.true_and, Bool.and_eq_true, decide_eq_true_eq]
     exact ⟨h3, h2, by show (slotC k r bs).st = v; rw [h5, h4]⟩
   have ht1 : ∃ l, told1 k r c w q (i : Nat) 2 v = some l := by
     unfold told1
     split
     · exact ⟨_, rfl⟩
     · rename_i hn
       rcases hh with h | h
       · exact absurd (htb _ p1 h) hn
       · rw [if_pos (htb _ p2 h)]; exact ⟨_, rfl⟩
   obtain ⟨l, hl1⟩ := ht1
   have hN : ∃ l', toldN k r c w qs 2 v (i + 1) = some l' := by
     unfold toldN
     rw [hgd, hl1]
     cases toldN k r c w qs 2 v i with
     | none => exact ⟨_, rfl⟩
     | some x => exact ⟨_, rfl⟩
   obtain ⟨l', hl'⟩ := hN
   have := toldN_stay hl' qs.length (by omega)
   unfold toldL at hT
   rw [this] at hT
   cases hT
theorem pure_many {k r c w : Int} {qs : List PairB} (hm : mayB k r c w = true) (hl : (qs.length : Int) = k + r) (hp : PureRow k r c w qs) {v : Int} (hv : 1 ≤ v) : ∀ n, n ≤ qs.length → (thereN (thereL k r c w qs 2 v) n).length = (cellsN (heldsP k r c w qs) v n).length
 | 0, _ => rfl
 | n + 1, hn => by
   have ih := pure_many hm hl hp hv n (by omega)
   have hq : qs[n]? = some qs[n] := List.getElem?_eq_getElem hn
   rw [thereN_succ, cellsN_succ, List.length_append, List.length_append, ih, pure_there hm hl hp hq]
   have := pure_holds hm hp hq hv
   by_cases h : (datO k r c w qs[n] (n : Nat) 2 v).length ≠ 0
   · rw [if_pos h, if_pos (this.2 h)]; rfl
   · rw [if_neg h, if_neg (fun h' => h (this.1 h'))]; rfl
theorem told_all {k r c w : Int} {qs : List PairB} (hm : mayB k r c w = true) (hp : PureRow k r c w qs) {v : Int} {l : List Int} (hT : toldL k r c w qs 2 v = some l) : ∀ z ∈ l, z = v := by
 obtain ⟨j, hj, h1⟩ := toldN_some _ _ hT
 obtain ⟨h2, bs, hbs, h3, rfl⟩ := told1_some h1
 have hqj : qs[j]? = some (qs.getD j ([], [])) := by rw [List.getD_eq_getElem?_getD, List.getElem?_eq_getElem hj]; rfl
 obtain ⟨p1, p2⟩ := hp j _ hqj
 have hpb : pureS k r c w bs j = true := by rcases hbs with rfl | rfl; exact p1; exact p2
 unfold toldB at h3
 simp only [Bool.and_eq_true, decide_eq_true_eq] at h3
 obtain ⟨h4, h5, h6, h7⟩ := h3
 rw [slA_is h4] at h5 h7
 obtain ⟨_, h8, h9⟩ := pure_slot hm hpb h4 h5
 have h7 : (slotC k r bs).st = v := h7
 intro z hz
 rw [h9 z hz, ← h8, h7]
structure Base (k r c w : Int) (ps : List PairB) (W : Int) : Prop where
 may : mayB k r c w = true
 row : rowB k r c ps = true
 pure : PureRow k r c w ps
 ver : verB W = true
 told : ∃ l, toldL k r c w ps 2 W = some l
abbrev newB (k r c w : Int) (ps : List PairB) (W : Int) (i : Nat) : List UInt8 := slotB (mendS k r c w ps 2 W i)
abbrev thT (k r c w : Int) (ps : List PairB) (W : Int) (i : Nat) : List UInt8 := (thereL k r c w ps 2 W).getD i []
section
variable {k r c w W : Int} {ps : List PairB}
theorem Base.len (h : Base k r c w ps W) : (ps.length : Int) = k + r := (row_at h.row).1
theorem Base.v1 (h : Base k r c w ps W) : 1 ≤ W := by have := h.ver; unfold verB at this; rw [decide_eq_true_eq] at this; exact this.1
theorem Base.new (h : Base k r c w ps W) {i : Nat} (hi : i < ps.length) : isSlot k r c w (newB k r c w ps W i) = true ∧ slotC k r (newB k r c w ps W i) = mendS k r c w ps 2 W i ∧ (mendS k r c w ps 2 W i).ce = W ∧ lenB k r c (newB k r c w ps W i).length = true ∧ pureS k r c w (newB k r c w ps W i) i = true := by
 obtain ⟨l, hT⟩ := h.told
 have hl := h.len
 have hok := mendS_ok (w := w) h.may (.inr rfl) hT (i := i) (by omega)
 have hrd := slotB_read h.may hok
 have hce : (mendS k r c w ps 2 W i).ce = W := told_all h.may h.pure hT _ (by have := List.mem_of_getElem? hok.ce; unfold mendS at this ⊢; rw [hT] at this ⊢; exact this)
 refine ⟨slotB_is h.may hok, hrd, hce, slotB_lenB h.may hok, pureS_all fun v hv => ?_⟩
 rw [hrd] at hv ⊢
 refine ⟨?_, rfl⟩
 rw [hce]
 unfold mendS at hv
 rw [hT] at hv
 exact told_all h.may h.pure hT v hv
theorem Base.hit (h : Base k r c w ps W) {i : Nat} (hi : i < ps.length) {v : Int} : hitS k r c w (newB k r c w ps W i) (i : Nat) 2 v = true ↔ v = W := by
 obtain ⟨h1, h2, h3, _, _⟩ := h.new hi
 rw [hit_iff, h2, h3]
 exact ⟨fun h => h.2.2.2.symm, fun h => ⟨h1, rfl, rfl, h.symm⟩⟩
structure Near (k r c w : Int) (ps : List PairB) (W : Int) (qs : List PairB) : Prop where
 len : qs.length = ps.length
 at_ : ∀ (i : Nat) (p : PairB), ps[i]? = some p → ∃ q, qs[i]? = some q ∧ (q = p ∨ ((thT k r c w ps W i).length = 0 ∧ (q.1 = p.1 ∨ q.1 = newB k r c w ps W i) ∧ (q.2 = p.2 ∨ q.2 = newB k r c w ps W i) ∧ (q.1 = newB k r c w ps W i ∨ q.2 = newB k r c w ps W i)))
theorem near_self : Near k r c w ps W ps := ⟨rfl, fun i p h => ⟨p, h, .inl rfl⟩⟩
theorem Near.back {qs : List PairB} (hn : Near k r c w ps W qs) {i : Nat} {q : PairB} (hq : qs[i]? = some q) : ∃ p, ps[i]? = some p ∧ (q = p ∨ ((thT k r c w ps W i).length = 0 ∧ (q.1 = p.1 ∨ q.1 = newB k r c w ps W i) ∧ (q.2 = p.2 ∨ q.2 = newB k r c w ps W i) ∧ (q.1 = newB k r c w ps W i ∨ q.2 = newB k r c w ps W i))) := by
 have hi := (List.getElem?_eq_some_iff.1 hq).1
 have hl := hn.len
 have hp : ps[i]? = some (ps[i]'(by omega)) := List.getElem?_eq_getElem _
 obtain ⟨q', h1, h2⟩ := hn.at_ i _ hp
 rw [hq] at h1
 cases h1
 exact ⟨_, hp, h2⟩
def IsPut (k r c w : Int) (ps : List PairB) (W : Int) (p : PutC) : Prop := p.dr < ps.length ∧ p.sl < 2 ∧ p.bs = newB k r c w ps W p.dr ∧ (thT k r c w ps W p.dr).length = 0
theorem pair_new {q p : PairB} {sl : Nat} {b : List UInt8} (h : (q.1 = p.1 ∨ q.1 = b) ∧ (q.2 = p.2 ∨ q.2 = b)) : ((pairSet q sl b).1 = p.1 ∨ (pairSet q sl b).1 = b) ∧ ((pairSet q sl b).2 = p.2 ∨ (pairSet q sl b).2 = b) ∧ ((pairSet q sl b).1 = b ∨ (pairSet q sl b).2 = b) := by
 unfold pairSet
 split
 · exact ⟨.inr rfl, h.2, .inl rfl⟩
 · exact ⟨h.1, .inr rfl, .inr rfl⟩
theorem wrP_at (qs : List PairB) (p : PutC) (i : Nat) : (wrP qs p)[i]? = if p.dr = i then (if p.dr < qs.length then some (pairSet (qs.getD p.dr ([], [])) p.sl p.bs) else none) else qs[i]? := by
 unfold wrP
 rw [List.getElem?_set]
theorem Near.put {qs : List PairB} (hn : Near k r c w ps W qs) {p : PutC} (hp : IsPut k r c w ps W p) : Near k r c w ps W (wrP qs p) := by
 obtain ⟨h1, h2, h3, h4⟩ := hp
 refine ⟨by rw [wrP_len]; exact hn.len, fun i a ha => ?_⟩
 obtain ⟨q, hq, hc⟩ := hn.at_ i a ha
 rw [wrP_at]
 by_cases e : p.dr = i
 · subst e
   have hgd : qs.getD p.dr ([], []) = q := by rw [List.getD_eq_getElem?_getD, hq]; rfl
   rw [if_pos rfl, if_pos (by have := hn.len; omega), hgd, h3]
   refine ⟨_, rfl, .inr ⟨h4, ?_⟩⟩
   refine pair_new ?_
   rcases hc with rfl | ⟨_, g1, g2, _⟩
   · exact ⟨.inl rfl, .inl rfl⟩
   · exact ⟨g1, g2⟩
 · rw [if_neg e]
   exact ⟨q, hq, hc⟩
theorem Near.puts : ∀ (L : List PutC) {qs : List PairB}, Near k r c w ps W qs → (∀ p ∈ L, IsPut k r c w ps W p) → Near k r c w ps W (putsP qs L)
 | [], qs, h, _ => h
 | p :: L, qs, h, hL => Near.puts L (h.put (hL p (by simp))) fun q hq => hL q (by simp [hq])
def Done (k r c w : Int) (ps : List PairB) (W : Int) (qs : List PairB) (i : Nat) : Prop := ∃ q, qs[i]? = some q ∧ (q.1 = newB k r c w ps W i ∨ q.2 = newB k r c w ps W i)
theorem Done.put {qs : List PairB} {i : Nat} (h : Done k r c w ps W qs i) {p : PutC} (hp : IsPut k r c w ps W p) : Done k r c w ps W (wrP qs p) i := by
 obtain ⟨q, hq, hc⟩ := h
 have hi := (List.getElem?_eq_some_iff.1 hq).1
 unfold Done
 rw [wrP_at]
 by_cases e : p.dr = i
 · subst e
   rw [if_pos rfl, if_pos hi, hp.2.2.1]
   refine ⟨_, rfl, ?_⟩
   unfold pairSet
   split
   · exact .inl rfl
   · exact .inr rfl
 · rw [if_neg e]
   exact ⟨q, hq, hc⟩
theorem Done.puts : ∀ (L : List PutC) {qs : List PairB} {i : Nat}, Done k r c w ps W qs i → (∀ p ∈ L, IsPut k r c w ps W p) → Done k r c w ps W (putsP qs L) i
 | [], qs, i, h, _ => h
 | p :: L, qs, i, h, hL => Done.puts L (h.put (hL p (by simp))) fun q hq => hL q (by simp [hq])
theorem Near.row (hb : Base k r c w ps W) {qs : List PairB} (hn : Near k r c w ps W qs) : rowB k r c qs = true := by
 obtain ⟨hl, hpr⟩ := row_at hb.row
 unfold rowB
 rw [hn.len, decide_eq_true hl, Bool.true_and, List.all_eq_true]
 intro q hq
 obtain ⟨i, hi⟩ := List.getElem?_of_mem hq
 obtain ⟨p, hp, hc⟩ := hn.back hi
 have hil := (List.getElem?_eq_some_iff.1 hp).1
 have h1 := hpr p (List.mem_of_getElem? hp)
 have hnb := (hb.new hil).2.2.2.1
 unfold pairB at h1 ⊢
 rw [Bool.and_eq_true] at h1 ⊢
 rcases hc with rfl | ⟨_, g1, g2, _⟩
 · exact h1
 · constructor
   · rcases g1 with g | g <;> rw [g]; exact h1.1; exact hnb
   · rcases g2 with g | g <;> rw [g]; exact h1.2; exact hnb
theorem Near.chk (hb : Base k r c w ps W) {qs : List PairB} (hn : Near k r c w ps W qs) : chkI k r c w qs = 0 := by
 unfold chkI
 rw [hb.may, hn.row hb]
 rfl
theorem Near.pure (hb : Base k r c w ps W) {qs : List PairB} (hn : Near k r c w ps W qs) : PureRow k r c w qs := by
 intro i q hq
 obtain ⟨p, hp, hc⟩ := hn.back hq
 have hil := (List.getElem?_eq_some_iff.1 hp).1
 have h1 := hb.pure i p hp
 have hnb := (hb.new hil).2.2.2.2
 rcases hc with rfl | ⟨_, g1, g2, _⟩
 · exact h1
 · constructor
   · rcases g1 with g | g <;> rw [g]; exact h1.1; exact hnb
   · rcases g2 with g | g <;> rw [g]; exact h1.2; exact hnb
theorem Near.dat (hb : Base k r c w ps W) {qs : List PairB} (hn : Near k r c w ps W qs) {i : Nat} {q : PairB} (hq : qs[i]? = some q) : (thT k r c w ps W i = datO k r c w q (i : Nat) 2 W ∧ ps[i]? = some q) ∨ ((thT k r c w ps W i).length = 0 ∧ datO k r c w q (i : Nat) 2 W = tab c.toNat (wholeA k r c w ps 2 W i) ∧ Done k r c w ps W qs i) := by
 obtain ⟨p, hp, hc⟩ := hn.back hq
 have hil := (List.getElem?_eq_some_iff.1 hp).1
 have hth := pure_there hb.may hb.len hb.pure (v := W) hp
 rcases hc with rfl | ⟨g0, g1, g2, g3⟩
 · exact .inl ⟨hth, hp⟩
 · refine .inr ⟨g0, ?_, ⟨q, hq, g3⟩⟩
   have hno : ¬ (hitS k r c w p.1 (i : Nat) 2 W = true ∨ hitS k r c w p.2 (i : Nat) 2 W = true) := fun h => by
     have := (datO_hit hb.may).2 h
     rw [← hth] at this
     exact this g0
   have hrd := (hb.new hil).2.1
   have hda : (slotC k r (newB k r c w ps W i)).data = tab c.toNat (wholeA k r c w ps 2 W i) := by rw [hrd]; rfl
   have hht : hitS k r c w (newB k r c w ps W i) (i : Nat) 2 W = true := (hb.hit hil).2 rfl
   unfold datO
   split
   · rename_i h1
     rcases g1 with g | g
     · rw [g] at h1; exact absurd (.inl h1) hno
     · rw [g]; exact hda
   · rename_i h1
     rcases g3 with g | g
     · rw [g] at h1; exact absurd hht h1
     · rw [g, if_pos hht]; exact hda
theorem Near.other (hb : Base k r c w ps W) {qs : List PairB} (hn : Near k r c w ps W qs) {v : Int} (hv : 1 ≤ v) (hne : v ≠ W) {i : Nat} (h : holdsAt (heldsP k r c w qs) i v = true) : holdsAt (heldsP k r c w ps) i v = true := by
 have hi : i < qs.length := by
   refine Decidable.by_contra fun hi => ?_
   unfold holdsAt at h
   rw [List.getElem?_eq_none (by rw [helds_len]; omega)] at h
   cases h
 have hq : qs[i]? = some qs[i] := List.getElem?_eq_getElem hi
 obtain ⟨p, hp, hc⟩ := hn.back hq
 have hil := (List.getElem?_eq_some_iff.1 hp).1
 rw [pure_holds hb.may (hn.pure hb) hq hv, datO_hit hb.may] at h
 rw [pure_holds hb.may hb.pure hp hv, datO_hit hb.may]
 rcases hc with hc | ⟨g0, g1, g2, g3⟩
 · rw [hc] at h; exact h
 · rcases h with h | h
   · rcases g1 with g | g
     · rw [g] at h; exact .inl h
     · rw [g] at h; exact absurd ((hb.hit hil).1 h) hne
   · rcases g2 with g | g
     · rw [g] at h; exact .inr h
     · rw [g] at h; exact absurd ((hb.hit hil).1 h) hne
theorem Near.same (hb : Base k r c w ps W) {qs : List PairB} (hn : Near k r c w ps W qs) {i : Nat} (h : holdsAt (heldsP k r c w ps) i W = true) : holdsAt (heldsP k r c w qs) i W = true := by
 have hi : i < ps.length := by
   refine Decidable.by_contra fun hi => ?_
   unfold holdsAt at h
   rw [List.getElem?_eq_none (by rw [helds_len]; omega)] at h
   cases h
 have hl := hn.len
 have hp : ps[i]? = some ps[i] := List.getElem?_eq_getElem hi
 have hq : qs[i]? = some (qs[i]'(by omega)) := List.getElem?_eq_getElem _
 rw [pure_holds hb.may hb.pure hp hb.v1, ← pure_there hb.may hb.len hb.pure hp] at h
 rw [pure_holds hb.may (hn.pure hb) hq hb.v1]
 rcases hn.dat hb hq with ⟨g, _⟩ | ⟨g, _⟩
 · rw [← g]; exact h
 · exact absurd g h
end
theorem holds_lt {hs : List (Int × Int)} {i : Nat} {v : Int} (h : holdsAt hs i v = true) : ∃ x, hs[i]? = some x ∧ (x.1 = v ∨ x.2 = v) := by
 unfold holdsAt at h
 split at h
 · rename_i x hx
   rw [Bool.or_eq_true, decide_eq_true_eq, decide_eq_true_eq] at h
   exact ⟨x, hx, h⟩
 · cases h
theorem holds_of {hs : List (Int × Int)} {i : Nat} {v : Int} {x : Int × Int} (hx : hs[i]? = some x) (h : x.1 = v ∨ x.2 = v) : holdsAt hs i v = true := by
 unfold holdsAt
 rw [hx]
 simp only [Bool.or_eq_true, decide_eq_true_eq]
 exact h
theorem cells_mono {hs hs' : List (Int × Int)} {v : Int} (h : ∀ i, holdsAt hs i v = true → holdsAt hs' i v = true) : ∀ n, (cellsN hs v n).length ≤ (cellsN hs' v n).length
 | 0 => Nat.le_refl _
 | n + 1 => by
   have ih := cells_mono h n
   rw [cellsN_succ, cellsN_succ, List.length_append, List.length_append]
   cases h1 : holdsAt hs n v with
   | true => rw [h n h1]; simp; omega
   | false => simp; omega
theorem cnt_mono {k r c w : Int} {ps qs : List PairB} (hc : chkI k r c w ps = 0) (hc2 : chkI k r c w qs = 0) (hl : qs.length = ps.length) {v : Int} (h : ∀ i, holdsAt (heldsP k r c w qs) i v = true → holdsAt (heldsP k r c w ps) i v = true) (hv : v ∈ cntP k r c w qs) : v ∈ cntP k r c w ps := by
 unfold cntP at hv ⊢
 rw [cnt_mem] at hv ⊢
 unfold talT at hv ⊢
 rw [if_pos hc2] at hv
 rw [if_pos hc]
 obtain ⟨h1, h2⟩ := hv
 obtain ⟨h3, h4, i, x, hx, hh⟩ := ((versF_falls _).mem v).1 h1
 obtain ⟨y, hy, hhy⟩ := holds_lt (h i (holds_of hx hh))
 refine ⟨((versF_falls _).mem v).2 ⟨h3, h4, i, y, hy, hhy⟩, ?_⟩
 unfold cntB at h2 ⊢
 rw [helds_len] at h2 ⊢
 rw [decide_eq_true_eq] at h2 ⊢
 have := cells_mono h ps.length
 rw [hl] at h2
 omega
theorem win_cnt {k r c w : Int} {ps : List PairB} (hc : chkI k r c w ps = 0) (h : winI k r c w ps ≠ 0) : winI k r c w ps ∈ cntP k r c w ps := by
 refine win_mem ?_
 cases hl : cntP k r c w ps with
 | nil => unfold winI at h; rw [hl] at h; exact absurd rfl h
 | cons a l => simp
theorem cnt_pos {k r c w : Int} {ps : List PairB} {v : Int} (h : v ∈ cntP k r c w ps) : 1 ≤ v ∧ v ≤ 1073741824 := by
 unfold cntP at h
 rw [cnt_mem] at h
 exact (tal_pw k r c w ps).2 v h.1
theorem cnt_many {k r c w : Int} {ps : List PairB} {v : Int} (h : v ∈ cntP k r c w ps) : k ≤ ((cellsN (heldsP k r c w ps) v ps.length).length : Nat) := by
 unfold cntP at h
 rw [cnt_mem] at h
 have := h.2
 unfold cntB at this
 rw [helds_len, decide_eq_true_eq] at this
 exact this
theorem tab_getD {L : Nat} {f : Nat → UInt8} {p : Nat} (h : p < L) : (tab L f).getD p 0 = f p := by
 rw [List.getD_eq_getElem?_getD, tab_at f h]
 rfl
theorem tab_eq2 {L : Nat} {f g : Nat → UInt8} (h : ∀ p, p < L → f p = g p) : tab L f = tab L g := by
 unfold tab
 exact List.map_congr_left fun p hp => h p (List.mem_range.1 hp)
theorem data_congr {k r c w : Int} {ps qs : List PairB} {v : Int} (h : ∀ i p, p < c.toNat → wholeA k r c w qs 2 v i p = wholeA k r c w ps 2 v i p) (n : Nat) : dataL k r c w qs 2 v n = dataL k r c w ps 2 v n := by
 unfold dataL
 rw [List.flatMap_def, List.flatMap_def]
 congr 1
 exact List.map_congr_left fun i _ => tab_eq2 fun p hp => h i p hp
section
variable {k r c w W : Int} {ps : List PairB}
end
theorem com_of {k r c w W : Int} {qs : List PairB} (hm : mayB k r c w = true) (hc : chkI k r c w qs = 0) (hp : PureRow k r c w qs) (hw : winI k r c w qs = W) (hW : W ≠ 0) (hpa : parseE k r c w (comD k r c w qs) = 0) : comE k r c w qs = 0 := by
 obtain ⟨_, _, hl, _⟩ := chk_ok hc
 have hwn : winI k r c w qs ≠ 0 := by rw [hw]; exact hW
 have hcnt := win_cnt hc hwn
 have h1 := cnt_many hcnt
 have h2 := pure_many hm hl hp (cnt_pos hcnt).1 qs.length (Nat.le_refl _)
 unfold comE
 rw [if_pos hc, if_neg hwn, if_neg, hpa]
 unfold manyN
 rw [show (k + r).toNat = qs.length by omega, h2]
 omega
section
variable {k r c w W : Int} {ps : List PairB}
theorem older_lt (k r c w : Int) (p : PairB) (ix kd keep : Int) : olderN k r c w p ix kd keep < 2 := by
 unfold olderN
 repeat' split
 all_goals omega
theorem pureS_blank {i : Nat} (hm : mayB k r c w = true) : pureS k r c w [] i = true := by
 have hmn := may_n hm
 refine pureS_not fun h => ?_
 have : isSlot k r c w [] = false := by
   unfold isSlot
   rw [decide_eq_false (by unfold sizeI; simp; omega)]
   rfl
 rw [this] at h
 exact absurd h.1 (by decide)
theorem datO_blank {i : Nat} {v : Int} (hm : mayB k r c w = true) : datO k r c w ([], []) (i : Nat) 2 v = [] := by
 refine List.eq_nil_of_length_eq_zero (Decidable.by_contra fun h => ?_)
 have hmn := may_n hm
 have hb : isSlot k r c w [] = false := by
   unfold isSlot
   rw [decide_eq_false (by unfold sizeI; simp; omega)]
   rfl
 rcases (datO_hit hm).1 h with h | h <;> (have := hit_slot h; rw [hb] at this; cases this)
end
section
variable {k r c w W : Int} {ps : List PairB}
theorem fit_uniq {ver : Int} {p : PairB} {i : Nat} {v : Int} (h : fitS k r c w ver p = true) (h1 : hitS k r c w p.1 (i : Nat) 2 v = true) (h2 : hitS k r c w p.2 (i : Nat) 2 v = true) : False := by
 obtain ⟨a1, _, a3, a4⟩ := hit_iff.1 h1
 obtain ⟨b1, _, b3, b4⟩ := hit_iff.1 h2
 unfold fitS fitA at h
 rw [a1, b1, slA_is a1, slA_is b1] at h
 rw [Bool.and_eq_true] at h
 have h5 := h.2
 have e1 : ((slotC k r p.1).sl).kd = 2 := a3
 have e2 : ((slotC k r p.2).sl).kd = 2 := b3
 have e3 : ((slotC k r p.1).sl).ce = ((slotC k r p.2).sl).ce := by show (slotC k r p.1).ce = (slotC k r p.2).ce; rw [a4, b4]
 rw [decide_eq_true e1, decide_eq_true e2, decide_eq_true e3] at h5
 exact absurd h5 (by decide)
theorem cod_dat (hb : Base k r c w ps W) {ver : Int} (hf : fitP k r c w ver ps = true) {qs : List PairB} (hn : Near k r c w ps W qs) {i : Nat} {q : PairB} (hq : qs[i]? = some q) : codD k r c w W q i = datO k r c w q (i : Nat) 2 W := by
 unfold codD codD0 datO
 by_cases h2 : hitS k r c w q.2 (i : Nat) 2 W = true
 · rw [if_pos h2]
   by_cases h1 : hitS k r c w q.1 (i : Nat) 2 W = true
   · rw [if_pos h1]
     obtain ⟨p, hp, hc⟩ := hn.back hq
     rcases hc with rfl | ⟨g0, g1, g2, _⟩
     · unfold fitP at hf
       rw [List.all_eq_true] at hf
       exact (fit_uniq (hf _ (List.mem_of_getElem? hp)) h1 h2).elim
     · have hth := pure_there hb.may hb.len hb.pure (v := W) hp
       have hno : ¬ (hitS k r c w p.1 (i : Nat) 2 W = true ∨ hitS k r c w p.2 (i : Nat) 2 W = true) := fun h => by
         have := (datO_hit hb.may).2 h
         rw [← hth] at this
         exact this g0
       rcases g1 with g1 | g1
       · rw [g1] at h1; exact absurd (.inl h1) hno
       · rcases g2 with g2 | g2
         · rw [g2] at h2; exact absurd (.inr h2) hno
         · rw [g1, g2]
   · rw [if_neg h1, if_pos h2]
 · rw [if_neg h2]
   by_cases h1 : hitS k r c w q.1 (i : Nat) 2 W = true
   · rw [if_pos h1, if_pos h1]
   · rw [if_neg h1, if_neg h1, if_neg h2]
theorem coded_at (hb : Base k r c w ps W) {ver : Int} (hf : fitP k r c w ver ps = true) {qs : List PairB} (hn : Near k r c w ps W qs) (hcd : codedB k r c w W qs = true) {a p : Nat} (ha : a < ps.length) (hp : p < c.toNat) : celM (thereL k r c w qs 2 W) a p = celU k.toNat (celM (thereL k r c w qs 2 W)) a p := by
 have hmn := may_n hb.may
 have hl := hb.len
 have hql := hn.len
 have hql2 : (qs.length : Int) = k + r := by rw [hql]; exact hl
 have hTe : codT k r c w W qs = thereL k r c w qs 2 W := by
   refine list_eq_at (by rw [codT_len, thereL_len]) fun j hj => ?_
   rw [codT_len] at hj
   have hq : qs[j]? = some qs[j] := List.getElem?_eq_getElem hj
   have h1 := codT_at (k := k) (r := r) (c := c) (w := w) (ver := W) hq
   have h2 := pure_there hb.may hql2 (hn.pure hb) (v := W) hq
   rw [cod_dat hb hf hn hq, ← h2] at h1
   rw [List.getD_eq_getElem?_getD, List.getD_eq_getElem?_getD, List.getElem?_eq_getElem (by rw [codT_len]; exact hj), List.getElem?_eq_getElem (by rw [thereL_len]; exact hj)] at h1
   rw [List.getElem?_eq_getElem (by rw [codT_len]; exact hj), List.getElem?_eq_getElem (by rw [thereL_len]; exact hj)]
   simp only [Option.getD_some] at h1
   rw [h1]
 unfold codedB at hcd
 rw [hTe, Bool.and_eq_true, decide_eq_true_eq] at hcd
 obtain ⟨_, hpar⟩ := hcd
 by_cases hak : a < k.toNat
 · rw [celU_data _ hak]
 · have hidx : (parT k.toNat r.toNat c.toNat (thereL k r c w qs 2 W))[a - k.toNat]? = some (tab c.toNat (celU k.toNat (celM (thereL k r c w qs 2 W)) a)) := by
     unfold parT
     rw [List.getElem?_map, List.getElem?_range' (by omega)]
     simp only [Option.map_some, Nat.one_mul]
     rw [show k.toNat + (a - k.toNat) = a by omega]
   rw [hpar, List.getElem?_drop, show k.toNat + (a - k.toNat) = a by omega] at hidx
   show ((thereL k r c w qs 2 W).getD a []).getD p 0 = _
   rw [getD_at hidx, tab_getD hp]
theorem coded_whole {T : List (List UInt8)} {D : Mx} {K C n : Nat} (hK : K ≤ (thereN T n).length) (hn : n ≤ 256) {p : Nat} (h : ∀ a, a < n → (T.getD a []).length ≠ 0 → celM T a p = celU K D a p) (i : Nat) : decU K ((thereN T n).take K) (celM T) i p = celU K D i p := by
 refine decU_of (by rw [List.length_take]; omega) ((thereN_nodup _ _).sublist (List.take_sublist _ _)) (fun a ha => ?_) (fun a ha => ?_) i
 · have := (thereN_mem (List.mem_of_mem_take ha)).1
   omega
 · obtain ⟨h1, h2⟩ := thereN_mem (List.mem_of_mem_take ha)
   exact h a h1 h2
end
end Go.Proofs.YtaekhhlgnbhnpaaGreat