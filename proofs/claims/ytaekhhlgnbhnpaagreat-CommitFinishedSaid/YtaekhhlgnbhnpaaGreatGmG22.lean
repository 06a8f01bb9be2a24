import Derived.Test.YtaekhhlgnbhnpaaGreatGmG21
set_option linter.unusedVariables false
set_option linter.unusedSimpArgs false
set_option maxRecDepth 10000
namespace Go.Proofs.YtaekhhlgnbhnpaaGreat
open Go Go.Tw Go.Proofs Go.Gf
section
variable {k r c w W : Int} {ps : List PairB}
theorem fit_uniq {ver : Int} {p : PairB} {i : Nat} {v : Int} (h : fitS k r c w ver p = true) (h1 : hitS k r c w p.1 (i : Nat) 2 v = true) (h2 : hitS k r c w p.2 (i : Nat) 2 v = true) : False := by
 obtain ⟨a1, _, a3, a4⟩ := hit_iff.1 h1
 obtain ⟨b1, _, b3, b4⟩ := hit_iff.1 h2
 unfold fitS fitA at h
 rw [a1, b1, slA_is a1, slA_is b1] at h
 rw [Bool.and_eq_true] at h
 have h5 := h.2
 have e1 : ((slotC k r p.1).sl).kd = 2 := a3
 have e2 : ((slotC k r p.2).sl).kd = 2 := b3
 have e3 : ((slotC k r p.1).sl).ce = ((slotC k r p.2).sl).ce := by show (slotC k r p.1).ce = (slotC k r p.2).ce; rw [a4, b4]
 rw [decide_eq_true e1, decide_eq_true e2, decide_eq_true e3] at h5
 exact absurd h5 (by decide)
theorem cod_dat (hb : Base k r c w ps W) {ver : Int} (hf : fitP k r c w ver ps = true) {qs : List PairB} (hn : Near k r c w ps W qs) {i : Nat} {q : PairB} (hq : qs[i]? = some q) : codD k r c w W q i = datO k r c w q (i : Nat) 2 W := by
 unfold codD codD0 datO
 by_cases h2 : hitS k r c w q.2 (i : Nat) 2 W = true
 · rw [if_pos h2]
   by_cases h1 : hitS k r c w q.1 (i : Nat) 2 W = true
   · rw [if_pos h1]
     obtain ⟨p, hp, hc⟩ := hn.back hq
     rcases hc with rfl | ⟨g0, g1, g2, _⟩
     · unfold fitP at hf
       rw [List.all_eq_true] at hf
       exact (fit_uniq (hf _ (List.mem_of_getElem? hp)) h1 h2).elim
     · have hth := pure_there hb.may hb.len hb.pure (v := W) hp
       have hno : ¬ (hitS k r c w p.1 (i : Nat) 2 W = true ∨ hitS k r c w p.2 (i : Nat) 2 W = true) := fun h => by
         have := (datO_hit hb.may).2 h
         rw [← hth] at this
         exact this g0
       rcases g1 with g1 | g1
       · rw [g1] at h1; exact absurd (.inl h1) hno
       · rcases g2 with g2 | g2
         · rw [g2] at h2; exact absurd (.inr h2) hno
         · rw [g1, g2]
   · rw [if_neg h1, if_pos h2]
 · rw [if_neg h2]
   by_cases h1 : hitS k r c w q.1 (i : Nat) 2 W = true
   · rw [if_pos h1, if_pos h1]
   · rw [if_neg h1, if_neg h1, if_neg h2]
theorem coded_at (hb : Base k r c w ps W) {ver : Int} (hf : fitP k r c w ver ps = true) {qs : List PairB} (hn : Near k r c w ps W qs) (hcd : codedB k r c w W qs = true) {a p : Nat} (ha : a < ps.length) (hp : p < c.toNat) : celM (thereL k r c w qs 2 W) a p = celU k.toNat (celM (thereL k r c w qs 2 W)) a p := by
 have hmn := may_n hb.may
 have hl := hb.len
 have hql := hn.len
 have hql2 : (qs.length : Int) = k + r := by rw [hql]; exact hl
 have hTe : codT k r c w W qs = thereL k r c w qs 2 W := by
   refine list_eq_at (by rw [codT_len, thereL_len]) fun j hj => ?_
   rw [codT_len] at hj
   have hq : qs[j]? = some qs[j] := List.getElem?_eq_getElem hj
   have h1 := codT_at (k := k) (r := r) (c := c) (w := w) (ver := W) hq
   have h2 := pure_there hb.may hql2 (hn.pure hb) (v := W) hq
   rw [cod_dat hb hf hn hq, ← h2] at h1
   rw [List.getD_eq_getElem?_getD, List.getD_eq_getElem?_getD, List.getElem?_eq_getElem (by rw [codT_len]; exact hj), List.getElem?_eq_getElem (by rw [thereL_len]; exact hj)] at h1
   rw [List.getElem?_eq_getElem (by rw [codT_len]; exact hj), List.getElem?_eq_getElem (by rw [thereL_len]; exact hj)]
   simp only [Option.getD_some] at h1
   rw [h1]
 unfold codedB at hcd
 rw [hTe, Bool.and_eq_true, decide_eq_true_eq] at hcd
 obtain ⟨_, hpar⟩ := hcd
 by_cases hak : a < k.toNat
 · rw [celU_data _ hak]
 · have hidx : (parT k.toNat r.toNat c.toNat (thereL k r c w qs 2 W))[a - k.toNat]? = some (tab c.toNat (celU k.toNat (celM (thereL k r c w qs 2 W)) a)) := by
     unfold parT
     rw [List.getElem?_map, List.getElem?_range' (by omega)]
     simp only [Option.map_some, Nat.one_mul]
     rw [show k.toNat + (a - k.toNat) = a by omega]
   rw [hpar, List.getElem?_drop, show k.toNat + (a - k.toNat) = a by omega] at hidx
   show ((thereL k r c w qs 2 W).getD a []).getD p 0 = _
   rw [getD_at hidx, tab_getD hp]
theorem coded_whole {T : List (List UInt8)} {D : Mx} {K C n : Nat} (hK : K ≤ (thereN T n).length) (hn : n ≤ 256) {p : Nat} (h : ∀ a, a < n → (T.getD a []).length ≠ 0 → celM T a p = celU K D a p) (i : Nat) : decU K ((thereN T n).take K) (celM T) i p = celU K D i p := by
 refine decU_of (by rw [List.length_take]; omega) ((thereN_nodup _ _).sublist (List.take_sublist _ _)) (fun a ha => ?_) (fun a ha => ?_) i
 · have := (thereN_mem (List.mem_of_mem_take ha)).1
   omega
 · obtain ⟨h1, h2⟩ := thereN_mem (List.mem_of_mem_take ha)
   exact h a h1 h2
theorem wiped_com (hb : Base k r c w ps W) (hc : chkI k r c w ps = 0) (hF : comE k r c w ps = 0) (hw : winI k r c w ps = W) {ver : Int} (hf : fitP k r c w ver ps = true) (wl : List Bool) (hg : (goneN wl ps.length : Int) ≤ r) (hcd : codedB k r c w W (putsP ps (finL k r c w ps 0)) = true) : comE k r c w (wipeP wl (putsP ps (finL k r c w ps 0)) ps.length) = 0 ∧ winI k r c w (wipeP wl (putsP ps (finL k r c w ps 0)) ps.length) = W ∧ comD k r c w (wipeP wl (putsP ps (finL k r c w ps 0)) ps.length) = comD k r c w ps := by
 obtain ⟨hW, hmany, hpa⟩ := com_parts hc hF
 rw [hw] at hW hmany
 have hmn := may_n hb.may
 have hl := hb.len
 have hfh := fun i hi => full_holds (i := i) hb hw hi
 have hL : ∀ p ∈ finL k r c w ps 0, IsPut k r c w ps W p := fun p hp => fin_put hp hw hb.len
 have hn := Near.puts _ (near_self (k := k) (r := r) (c := c) (w := w) (W := W) (ps := ps)) hL
 obtain ⟨hFE, hFw, hFD⟩ := near_com hb hc hF hw hn
 generalize putsP ps (finL k r c w ps 0) = F at *
 have hFl := hn.len
 have hFc := hn.chk hb
 have hFp := hn.pure hb
 have hFm := (com_parts hFc hFE).2.1
 rw [hFw] at hFm
 have hFcnt := win_cnt hFc (by rw [hFw]; exact hW)
 have hmis : (missN (heldsP k r c w F) ((cntP k r c w F).getD 0 0) F.length).length = 0 := by
   rw [show (cntP k r c w F).getD 0 0 = W from hFw, miss_none fun i hi => hfh i (by omega)]
   rfl
 have hlen1 : 1 ≤ (cntP k r c w F).length := by
   cases hq : cntP k r c w F with
   | nil => rw [hq] at hFcnt; cases hFcnt
   | cons a l => simp
 obtain ⟨hk1, hk2⟩ := wipe_keeps (l := wl) hFc hlen1 hmis (by rw [hFl]; exact hg)
 have hwc := wipe_chk (l := wl) (n := F.length) hFc
 have hwp := wipe_pure hb.may hFp wl F.length
 rw [← hFl]
 have hql2 : (F.length : Int) = k + r := by rw [hFl]; exact hl
 have hww : winI k r c w (wipeP wl F F.length) = W := by
   have : winI k r c w (wipeP wl F F.length) = winI k r c w F := hk2
   rw [this, hFw]
 have hwm := pure_many hb.may (by rw [wipe_len]; exact hql2) hwp hb.v1 (wipeP wl F F.length).length (Nat.le_refl _)
 have hwcnt := win_cnt hwc (by rw [hww]; exact hW)
 rw [hww] at hwcnt
 have hwk := cnt_many hwcnt
 rw [← hwm, wipe_len] at hwk
 have hkr : (k + r).toNat = F.length := by omega
 have hDw : comD k r c w (wipeP wl F F.length) = comD k r c w ps := by
   rw [← hFD]
   unfold comD
   rw [hww, hFw]
   refine data_congr (fun i p hp => ?_) _
   have e1 : wholeA k r c w F 2 W i p = celU k.toNat (celM (thereL k r c w F 2 W)) i p := by
     unfold wholeA
     unfold manyN at hFm
     exact coded_whole (C := c.toNat) (by omega) (by omega) (fun a ha _ => coded_at hb hf hn hcd (by omega) hp) i
   have e2 : wholeA k r c w (wipeP wl F F.length) 2 W i p = celU k.toNat (celM (thereL k r c w F 2 W)) i p := by
     unfold wholeA
     rw [hkr]
     refine coded_whole (C := c.toNat) (by omega) (by omega) (fun a ha hne => ?_) i
     have hqF : F[a]? = some F[a] := List.getElem?_eq_getElem ha
     have hqw := wipe_at (l := wl) (n := F.length) hqF
     have ht := pure_there hb.may (by rw [wipe_len]; exact hql2) hwp (v := W) hqw
     have hx : (thereL k r c w (wipeP wl F F.length) 2 W).getD a [] = (thereL k r c w F 2 W).getD a [] := by
       by_cases hc2 : a < F.length ∧ wipB wl a = true
       · rw [if_pos hc2, datO_blank hb.may] at ht
         rw [ht] at hne
         exact absurd rfl hne
       · rw [if_neg hc2] at ht
         rw [ht, pure_there hb.may hql2 hFp (v := W) hqF]
     have := coded_at hb hf hn hcd (a := a) (p := p) (by omega) hp
     rw [← this]
     unfold celM
     rw [hx]
   rw [e1, e2]
 exact ⟨com_of hb.may hwc hwp hww hW (by rw [hDw]; exact hpa), hww, hDw⟩
theorem fin_ok (wl : List Bool) (hE : finE k r c w ps 0 = 0) (hF : comE k r c w ps = 0) (hP : pureP k r c w ps = true) (hf : fitP k r c w 1073741825 ps = true) : FinOk k r c w ps wl := by
 have hc := finE_chk hE
 obtain ⟨hm, hr⟩ := chk_parts hc
 obtain ⟨hW, hmany, hpa⟩ := com_parts hc hF
 have hb : Base k r c w ps (winI k r c w ps) := ⟨hm, hr, fun i q hq => pureP_of hP hq, win_ver hc hW, there_told hm hmany⟩
 have hL : ∀ p ∈ finL k r c w ps 0, IsPut k r c w ps (winI k r c w ps) p := fun p hp => fin_put hp rfl hb.len
 have hn := fun n => Near.puts ((finL k r c w ps 0).take n) (near_self (k := k) (r := r) (c := c) (w := w) (W := winI k r c w ps) (ps := ps)) fun p hp => hL p (List.mem_of_mem_take hp)
 have hnf := Near.puts _ (near_self (k := k) (r := r) (c := c) (w := w) (W := winI k r c w ps) (ps := ps)) hL
 refine ⟨fun p hp => ⟨(hL p hp).1, (hL p hp).2.1⟩, fun n _ => near_com hb hc hF rfl (hn n), ?_, fun hg hcd => wiped_com hb hc hF rfl hf wl hg hcd⟩
 have hmE : missE k r c w (winI k r c w ps) (putsP ps (finL k r c w ps 0)) = 0 := by
   unfold missE
   have := hb.ver
   unfold verB at this
   rw [decide_eq_true_eq] at this
   rw [if_pos (hnf.chk hb), if_pos this]
 refine ⟨hmE, ?_⟩
 unfold missL
 rw [if_pos hmE]
 exact miss_none fun i hi => full_holds hb rfl (by rw [hnf.len] at hi; exact hi)
end
theorem law16_CommitFinished (k r c w : Int) (v wv : AV) (ps : List PairB) (cells : List AV) (wl : List Bool) (x : List AV) (hv : RowV v ps cells) (hw : RdSl wv wl.length (boolsA wl ++ x)) : FSpec Tryz.prog 3 [parV k r c w, v, wv] ⟨boolV true, []⟩ :=
 law16_Finished k r c w v wv ps cells wl x hv hw fun h1 h2 h3 h4 => fin_ok wl h1 h2 h3 h4
end Go.Proofs.YtaekhhlgnbhnpaaGreat