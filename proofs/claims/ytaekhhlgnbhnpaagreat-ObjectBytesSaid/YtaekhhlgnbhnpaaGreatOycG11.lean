import Derived.Test.YtaekhhlgnbhnpaaGreatOycG10
import Derived.Lib.Overlaps
set_option linter.unusedVariables false
set_option linter.unusedSimpArgs false
namespace Go.Tw
open Go
structure z8 (P:Program) (m:aH) (v:AV) (m':aH) (v':AV):Prop where
 next:m.next≤m'.next
 to:∀ (w:World) (I:Nat→Prop) (ρ:cC) (x:Value),SR P w I ρ m→VR P w I ρ v x→(∀ b,m.next≤b→ρ b=none)→∃ ρ',SR P w I ρ' m'∧VR P w I ρ' v' x∧cM w I ρ m w I ρ' m'∧∀ b,m'.next≤b→ρ' b=none
section
variable {P:Program} {m m' m'':aH} {v v' v'':AV}
theorem z8.refl (m:aH) (v:AV):z8 P m v m v:=⟨Nat.le_refl _,fun w I ρ x hS hv hf=>⟨ρ,hS,hv,cM.refl _ _ _ _,hf⟩⟩
theorem z8.trans (h:z8 P m v m' v') (h':z8 P m' v' m'' v''):z8 P m v m'' v'':=⟨Nat.le_trans h.next h'.next,fun w I ρ x hS hv hf=>by
 obtain ⟨ρ1,a1,a2,a3,a4⟩:=h.to w I ρ x hS hv hf
 obtain ⟨ρ2,b1,b2,b3,b4⟩:=h'.to w I ρ1 x a1 a2 a4
 exact ⟨ρ2,b1,b2,a3.trans b3,b4⟩⟩
end
mutual
def eZ (P:Program) (rows:List (TypeId×List AV)):Nat→AV→AV
 | 0,.sl b off n c f => .tree n c ((rows.getD b (0,[])).2.drop off) f
 | d+1,.sl b off n c f => .tree n c ((if bR P (rows.getD b (0,[])).1 = .flat then (rows.getD b (0,[])).2 else iB P rows d (rows.getD b (0,[])).2).drop off) f
 | d,.agg cs => .agg (iB P rows d cs)
 | d,.tup cs => .tup (iB P rows d cs)
 | _,.val v => .val v
 | _,.tree a b c d => .tree a b c d
 | _,.tptr a b => .tptr a b
 | _,.emp a b => .emp a b
 | _,.ptr a b => .ptr a b
 | _,.clo f cs => .clo f cs
 termination_by d v=>(d,SizeOf.sizeOf v)
def iB (P:Program) (rows:List (TypeId×List AV)):Nat→List AV→List AV
 | _,[]=>[]
 | d,c::cs=>eZ P rows d c::iB P rows d cs
 termination_by d v=>(d,SizeOf.sizeOf v)
end
mutual
def iP (P:Program) (rows:List (TypeId×List AV)):Nat→AV→Bool
 | _,.val _=>true
 | _,.tree .. => true
 | _,.tptr .. => true
 | _,.emp .. => true
 | 0,.sl b _ _ _ _=>decide (bR P (rows.getD b (0,[])).1 = .flat)
 | d+1,.sl b _ _ _ _=>decide (bR P (rows.getD b (0,[])).1 = .flat) || jX P rows d (rows.getD b (0,[])).2
 | d,.agg cs=>jX P rows d cs
 | d,.tup cs=>jX P rows d cs
 | _,_=>false
 termination_by d v=>(d,SizeOf.sizeOf v)
def jX (P:Program) (rows:List (TypeId×List AV)):Nat→List AV→Bool
 | _,[]=>true
 | d,c::cs=>iP P rows d c && jX P rows d cs
 termination_by d v=>(d,SizeOf.sizeOf v)
end
section
variable {P:Program} {w:World} {I:Nat→Prop} {ρ:cC} {rows:List (TypeId×List AV)}
theorem afx (d:Nat):∀ cs:List AV,(iB P rows d cs).length=cs.length
 | []=>by unfold iB;rfl
 | c::cs=>by unfold iB;simp [afx d cs]
theorem apq (d:Nat) (v:AV):dB (eZ P rows d v)=dB v:=by
 cases v <;> (cases d <;> (unfold eZ;rfl))
theorem afy (d:Nat):∀ (cs:List AV),d8 cs→d8 (iB P rows d cs)
 | [],h=>by unfold iB;exact h
 | c::cs,h=>fun x hx=>by
  unfold iB at hx
  rcases List.mem_cons.1 hx with rfl | hx
  ·rw [apq];exact h c (by simp)
  ·exact afy d cs (fun y hy=>h y (by simp [hy])) x hx
def aaa (ρ:cC) (g:Nat):Prop:=∃ b o,ρ b=some (g,o)
theorem uJ (hS:SR P w I ρ (eB P aH.empty rows)) (hk:∀ b x,ρ b=some x→b < rows.length) {b g o:Nat} (hg:ρ b=some (g,o)):∃ r,rows.getD b (0,[])=r∧BR P w I ρ ⟨r.2,r.1,bR P r.1,true⟩ g o:=by
 have hb:=hk b _ hg
 have hat:(eB P aH.empty rows).at_ b=some (dO P 0 rows[b]):=by
  rw [zM,if_pos (by simp [aH.empty];exact hb)]
  simp [aH.empty,List.getElem?_eq_getElem hb]
 have hB:=hS.blk b _ g o hat hg
 rw [aeX] at hB
 exact ⟨rows[b],by simp [List.getD_eq_getElem?_getD,List.getElem?_eq_getElem hb],hB⟩
theorem afz:g9 w w I (fun g=>I g∨aaa ρ g):=⟨fun _ h => .inl h,fun _ _=>rfl,fun _ _ h=>h⟩
theorem ajS {r:TypeId×List AV} {g o off:Nat} (hB:BR P w I ρ ⟨r.2,r.1,bR P r.1,true⟩ g o) (hf:bR P r.1 = .flat):bH P w (fun g=>I g∨aaa ρ g) dG (r.2.drop off) (fun j=>w.cell? ⟨g,o+off+j,none⟩):=by
 have h3:=kP (BR.flatAt hB hf) off
 exact g8 (eF afz (fun _ _ h=>h) _ _ h3) fun j _=>by rw [Nat.add_assoc]
mutual
theorem ajT (hS:SR P w I ρ (eB P aH.empty rows)) (hk:∀ b x,ρ b=some x→b < rows.length):∀ (d:Nat) (av:AV) (v:Value),iP P rows d av=true→VR P w I ρ av v→VR P w (fun g=>I g∨aaa ρ g) dG (eZ P rows d av) v
 | d,.val x,v,_,hv=>by unfold eZ;simpa only [VR] using hv
 | d,.tree n c cs f,v,_,hv=>by
  rw [show eZ P rows d (.tree n c cs f) = .tree n c cs f by cases d <;> (unfold eZ;rfl)]
  exact o6 afz (fun _ _ h=>h) _ _ (xR (.tree n c cs f) v rfl hv)
 | d,.tptr o cs,v,_,hv=>by
  rw [show eZ P rows d (.tptr o cs) = .tptr o cs by cases d <;> (unfold eZ;rfl)]
  exact o6 afz (fun _ _ h=>h) _ _ (xR (.tptr o cs) v rfl hv)
 | d,.emp _ _,v,_,hv=>by unfold eZ;simpa only [VR] using hv
 | d,.agg cs,v,h,hv=>by
  unfold iP at h
  unfold eZ
  simp only [VR] at hv ⊢
  obtain ⟨vs,h1,h2,h3,h4⟩:=hv
  exact ⟨vs,h1,by rw [h2,afx],afy d cs h3,ada hS hk d cs _ h h4⟩
 | d,.tup cs,v,h,hv=>by
  unfold iP at h
  unfold eZ
  simp only [VR] at hv ⊢
  obtain ⟨vs,h1,h2,h4⟩:=hv
  exact ⟨vs,h1,by rw [h2,afx],ada hS hk d cs _ h h4⟩
 | 0,.sl b off n c f,v,h,hv=>by
  unfold iP at h
  unfold eZ
  simp only [VR] at hv ⊢
  obtain ⟨g,o,cap,ty,n',s,hg,rfl,h1,h2,_⟩:=hv
  obtain ⟨r,hr,hB⟩:=uJ hS hk hg
  rw [hr] at h ⊢
  exact ⟨g,o+off,cap,rfl,.inr ⟨b,o,hg⟩,h1,h2,kA hB.one _,ajS hB (of_decide_eq_true h)⟩
 | d+1,.sl b off n c f,v,h,hv=>by
  unfold iP at h
  unfold eZ
  simp only [VR] at hv ⊢
  obtain ⟨g,o,cap,ty,n',s,hg,rfl,h1,h2,_⟩:=hv
  obtain ⟨r,hr,hB⟩:=uJ hS hk hg
  rw [hr] at h ⊢
  by_cases hf:bR P r.1 = .flat
  ·rw [if_pos hf]
   exact ⟨g,o+off,cap,rfl,.inr ⟨b,o,hg⟩,h1,h2,kA hB.one _,ajS hB hf⟩
  ·rw [if_neg hf]
   rw [decide_eq_false hf,Bool.false_or] at h
   refine ⟨g,o+off,cap,rfl,.inr ⟨b,o,hg⟩,h1,h2,kA (afy d _ hB.one) _, ?_⟩
   have h3:=kP (ada hS hk d r.2 _ h hB.cellsAt) off
   exact g8 h3 fun j _=>by rw [Nat.add_assoc]
 | d,.ptr _ _,v,h,hv=>by unfold iP at h;cases h
 | d,.clo _ _,v,h,hv=>by unfold iP at h;cases h
 termination_by d av=>(d,SizeOf.sizeOf av)
theorem ada (hS:SR P w I ρ (eB P aH.empty rows)) (hk:∀ b x,ρ b=some x→b < rows.length):∀ (d:Nat) (cs:List AV) (get:Nat→Option Value),jX P rows d cs=true→bH P w I ρ cs get→bH P w (fun g=>I g∨aaa ρ g) dG (iB P rows d cs) get
 | d,[],get,_,hv=>by unfold iB;simp only [bH]
 | d,c::cs,get,h,hv=>by
  unfold jX at h
  simp only [Bool.and_eq_true] at h
  unfold iB
  simp only [bH] at hv ⊢
  obtain ⟨⟨v,h1,h2⟩,h3⟩:=hv
  exact ⟨⟨v,h1,ajT hS hk d c v h.1 h2⟩,ada hS hk d cs _ h.2 h3⟩
 termination_by d cs=>(d,SizeOf.sizeOf cs)
end
theorem x2 {f:FuncId} {args:List AV} {r:iO} (d:Nat) (h:aY P f args r) (ho:iP P r.rows d r.v=true):aY P f args ⟨eZ P r.rows d r.v,[]⟩:=⟨h.1,fun w I vs hI hsz hv=>(h.2 w I vs hI hsz hv).mono fun en w'=>by
 rintro ⟨v,I',ρ',rfl,q1,q2,q3⟩
 have hnoWr:∀ g,¬ Wr dG aH.empty g:=by
  rintro g (⟨b,k,o,h1,_⟩ | h1)
  ·simp [aH.empty] at h1
  ·exact vI h1
 have hk:∀ b x,ρ' b=some x→b < r.rows.length:=fun b x h=>by
  have:=q3.lo b rfl (by rw [h];simp)
  rw [xU] at this
  simp [aH.empty] at this
  exact this
 have hat:∀ b x,ρ' b=some x→∃ k,(eB P aH.empty r.rows).at_ b=some k∧k.wr=true:=fun b x h=>by
  have hb:=hk b x h
  exact ⟨dO P 0 r.rows[b],by rw [zM,if_pos (by simp [aH.empty];exact hb)];simp [aH.empty,List.getElem?_eq_getElem hb],rfl⟩
 have hnew:∀ g,aaa ρ' g→w.heap.size≤g:=by
  rintro g ⟨b,o,hb⟩
  obtain ⟨k,h1,h2⟩:=hat b _ hb
  rcases q3.own g (.inl ⟨b,k,o,h1,h2,hb⟩) with h | h
  ·exact absurd h (hnoWr g)
  ·exact h
 refine ⟨v,(fun g=>I' g∨aaa ρ' g),dG,rfl,ajT q2 hk d r.v v ho q1,⟨fun b k g o h=>by simp [eB,g7,aH.empty] at h,fun b b' k k' g o o' h=>by simp [eB,g7,aH.empty] at h,fun g hg => ?_,jV.none⟩,⟨q3.os,q3.tape,q3.output,q3.size,q3.same,q3.shape,fun g hg => .inl (q3.imm g hg),fun g hg => ?_,fun _ _ h=>h,fun b h1 h2=>absurd h1 h2,fun g hg => ?_,Nat.le_refl _⟩⟩
 ·rcases hg with hg | ⟨b,o,hb⟩
  ·exact q2.lt g hg
  ·obtain ⟨k,h1,h2⟩:=hat b _ hb
   exact q2.ltb h1 hb
 ·rcases hg with hg | hg
  ·exact q3.back g hg
  ·exact .inr (.inr (hnew g hg))
 ·rcases hg with ⟨b,k,o,h1,_⟩ | hg
  ·simp [eB,g7,aH.empty] at h1
  ·exact (vI hg).elim⟩
end
def bE (n:Nat) (cells:List AV):AV:=if n=0 then aP else .tree n n cells false
theorem dH (n:Nat) (cells:List AV):bD (bE n cells) n cells:=by
 unfold bE
 split
 ·rename_i h;exact ⟨.inl ⟨rfl,h⟩⟩
 ·exact ⟨.inr (.inr ⟨n,false,rfl,Nat.le_refl _⟩)⟩
theorem abA {k n:Nat} {cells:List AV}:shift k (bE n cells)=bE n cells:=by
 unfold bE
 split <;> simp [shift,aP]
theorem ajU {P:Program} {t:TypeId} {n:Nat} {cells:List AV} (h:(bZ P t).isSome=true):jT P t (bE n cells)=some (.val (.int .i64 (n:Nat))):=(dH n cells).len' h
theorem ajV {P:Program} {t:TypeId} {n k:Nat} {cells:List AV} (h:(bZ P t).isSome=true):mR P t k (bE n cells)=(bZ P t).bind fun el=>(cG P el).bind fun sz=>if k < n then some (.tptr (k*sz) cells) else none:=(dH n cells).addr' h
theorem aab {n:Nat} {cells:List AV}:plain (bE n cells)=true:=(dH n cells).plain
theorem ajW {P:Program} {m:aH} {t:TypeId} {n:Nat} {cells:List AV}:slOk P m t (bE n cells)=true:=(dH n cells).slOk
theorem ajX {P:Program} {d c:Bool} {m:aH} {t:TypeId} {n:Nat} {cells:List AV} {lo hi mx:Option AV}:sliceX P d c m t (bE n cells) lo hi mx=(a8 lo).bind fun lo=>(a8 hi).bind fun hi=>(a8 mx).bind fun mx=>eR (lU P t lo hi mx (bE n cells)) m:=(dH n cells).sliceX
theorem bG:(type_of% @ajX)∧(type_of% @abA)∧(type_of% @ajU)∧(type_of% @ajV)∧(type_of% @ajW):=⟨@ajX,@abA,@ajU,@ajV,@ajW⟩
theorem apr {P:Program} (el:TypeId) (n:Nat) (cells:List AV):eZ P (iY el n cells).rows 0 (iY el n cells).v=bE n cells:=by
 unfold iY bE
 split <;> (unfold eZ;simp [aP])
theorem aps {P:Program} {el:TypeId} (hk:bR P el = .flat) (n:Nat) (cells:List AV):iP P (iY el n cells).rows 0 (iY el n cells).v=true:=by
 unfold iY
 split <;> (unfold iP;simp [aP,hk])
structure vU (m:aH) (v:AV) (n:Nat) (cells:List AV):Prop where
 form:bD v n cells∨∃ b off c f k,v = .sl b off n c f∧m.at_ b=some k∧k.kind = .flat∧k.cells.drop off=cells∧n≤c
section
variable {P:Program} {m:aH} {v:AV} {n:Nat} {cells:List AV}
theorem vU.to {m':aH} (h:vU m v n cells) (hm:∀ b k,m.at_ b=some k→∃ wr,m'.at_ b=some ⟨k.cells,k.el,k.kind,wr⟩):vU m' v n cells:=by
 rcases h.form with h | ⟨b,off,c,f,k,h1,h2,h3,h4,h5⟩
 ·exact ⟨.inl h⟩
 ·obtain ⟨wr,h6⟩:=hm b k h2
  exact ⟨.inr ⟨b,off,c,f,_,h1,h6,h3,h4,h5⟩⟩
theorem apt (h:vU m v n cells) (k:Nat):∃ av,lend k m v=some av∧bD av n cells:=by
 rcases h.form with h | ⟨b,off,c,f,k',rfl,h2,h3,rfl,h5⟩
 ·exact ⟨v,(abw k v h.plain).1,h⟩
 ·refine ⟨.tree n c (k'.cells.drop off) f, ?_,⟨.inr (.inr ⟨c,f,rfl,h5⟩)⟩⟩
  cases k <;> (unfold lend;simp [h2,h3])
theorem lend1 {a:AV} (h:vU m a n cells):∃ av,gI 3 m [a]=some [av]∧bD av n cells:=by
 obtain ⟨av,h1,h2⟩:=apt h 3
 refine ⟨av, ?_,h2⟩
 unfold gI
 rw [h1]
 unfold gI
 rfl
theorem lend2 {a:AV} (ha:plain a=true) (h:vU m v n cells):∃ av,gI 3 m [a,v]=some [a,av]∧bD av n cells:=by
 obtain ⟨av,h1,h2⟩:=lend1 h
 refine ⟨av, ?_,h2⟩
 unfold gI
 rw [(abw 3 a ha).1,h1]
 rfl
theorem vU.len (h:vU m v n cells) {t:TypeId} (ht:(bZ P t).isSome=true):jT P t v=some (.val (.int .i64 (n:Nat))):=by
 rcases h.form with h | ⟨b,off,c,f,k,rfl,_⟩
 ·exact h.len' ht
 ·obtain ⟨el,hel⟩:=Option.isSome_iff_exists.1 ht
  simp [jT,hel,vH,aE]
end
def cP:AV→Option Nat
 | .sl b _ _ _ _=>some b
 | _=>none
theorem cK {v:AV} {n:Nat} {cs:List AV} (h:bD v n cs) (k:Nat):shift k v=v:=by
 rcases h.form with ⟨rfl,_⟩ | ⟨_,_,rfl,_⟩ | ⟨_,_,rfl,_⟩ <;> (try unfold aP) <;> (unfold shift;rfl)
theorem cH.keep {kd:fO} {m m':aH} {el:TypeId} {sz n:Nat} {v:AV} {cells:List AV} (h:cH kd m el sz v n cells) (h1:m.next≤m'.next) (h2:∀ b k,cP v=some b→m.at_ b=some k→m'.at_ b=some k):cH kd m' el sz v n cells:=by
 refine ⟨?_,h.len⟩
 rcases h.form with h1 | ⟨b,rfl,h3,h4,h5⟩
 ·exact .inl h1
 ·exact .inr ⟨b,rfl,h2 b _ rfl h3,by omega,h5⟩
theorem cH.put_kind {kd:fO} {m:aH} {el:TypeId} {sz n:Nat} {v:AV} {cells:List AV} (h:cH kd m el sz v n cells) {j:Nat} {k:eQ} {x:Option eQ} (hj:m.at_ j=some k) (hk:k.kind≠kd):cH kd (m.put j x) el sz v n cells:=by
 refine ⟨?_,h.len⟩
 rcases h.form with h1 | ⟨b,rfl,h3,h4,h5⟩
 ·exact .inl h1
 ·refine .inr ⟨b,rfl, ?_,h4,h5⟩
  rw [aF,if_neg ?_]
  ·exact h3
  ·rintro rfl
   rw [h3] at hj
   cases hj
   exact hk rfl
theorem cH.ne_kind {kd:fO} {m:aH} {el:TypeId} {sz n:Nat} {v:AV} {cells:List AV} (h:cH kd m el sz v n cells) {j:Nat} {k:eQ} (hj:m.at_ j=some k) (hk:k.kind≠kd):cP v≠some j:=by
 intro hb
 rcases h.form with ⟨rfl,_⟩ | ⟨b,rfl,h3,_⟩
 ·cases hb
 ·injection hb with hb
  subst hb
  rw [h3] at hj
  cases hj
  exact hk rfl
theorem cH.sl {kd:fO} {m:aH} {el:TypeId} {sz n:Nat} {v:AV} {cells:List AV} (h:cH kd m el sz v n cells) (hn:0 < n):∃ b,v = .sl b 0 n n false∧m.at_ b=some ⟨cells,el,kd,true⟩∧b < m.next:=by
 rcases h.form with ⟨_,h0,_⟩ | ⟨b,h1,h2,h3,_⟩
 ·omega
 ·exact ⟨b,h1,h2,h3⟩
theorem cH.put_ne {kd:fO} {m:aH} {el:TypeId} {sz n:Nat} {v:AV} {cells:List AV} (h:cH kd m el sz v n cells) {j:Nat} {x:Option eQ} (hj:cP v≠some j):cH kd (m.put j x) el sz v n cells:=by
 refine h.keep (Nat.le_refl _) fun b k hb hk => ?_
 rw [aF,if_neg (by rintro rfl;exact hj hb)]
 exact hk
theorem cH.one {kd:fO} {m:aH} {el:TypeId} {sz n:Nat} {v:AV} {cells:List AV} (h:cH kd m el sz v n cells):dB v=true:=by
 rcases h.form with ⟨rfl,_⟩ | ⟨b,rfl,_⟩ <;> rfl
theorem cH.ok {kd:fO} {m:aH} {el:TypeId} {sz n:Nat} {v:AV} {cells:List AV} (h:cH kd m el sz v n cells):fC v=true:=by
 rcases h.form with ⟨rfl,_⟩ | ⟨b,rfl,_⟩ <;> rfl
theorem cH.cells {kd:fO} {m:aH} {el:TypeId} {sz n:Nat} {v:AV} {cells:List AV} (h:cH kd m el sz v n cells):v.cells=[v]:=by
 rcases h.form with ⟨rfl,_⟩ | ⟨b,rfl,_⟩ <;> rfl
theorem tE {P : Program} {kd : fO} {el : TypeId} {m : aH} {v x : AV} {K : bS → Prop} {sz y n cnt : Nat} {zl : List Value} {cells new : List AV} (hkd : bR P el = kd) (ho : cH kd m el sz v n cells) (h1 : cG P el = some sz) (h2 : j8 P el = some y) (h3 : gB P el = some zl) (h4 : zl.length = sz) (h5 : fW P el sz m x = some (new, cnt)) (h6 : new.length = cnt * sz) (h7 : (n + cnt) * y ≤ 140737488355328) (h8 : n + cnt ≤ 140737488355328)
   (hK : ∀ v' m', cH kd m' el sz v' (n + cnt) (cells ++ new) → m.next ≤ m'.next → (∀ j k, m.at_ j = some k → j < m.next → cP v ≠ some j → m'.at_ j = some k) → (∀ j, cP v' = some j → j = m.next ∨ cP v = some j) → m'.mm = m.mm → K ⟨v', m', none⟩) : eL (fX P el m v x) K := by
 have hlen := ho.len
 rcases ho.form with ⟨rfl, rfl, rfl⟩ | ⟨b, rfl, hb, hlt, hn0⟩
 · by_cases hc : cnt = 0
   · subst hc
     have hn : new = [] := List.eq_nil_of_length_eq_zero (by omega)
     subst hn
     have : fX P el m aP x = some ⟨aP, m, none⟩ := by simp [fX, h1, h2, h3, h5, d6, aP, hkd, h4, bK]
     rw [this]
     exact hK _ _ gT (Nat.le_refl _) (fun _ _ h _ _ => h) (fun _ h => .inr h) rfl
   · have : fX P el m aP x = some ⟨.sl m.next 0 (0 + cnt) (0 + cnt) false, m.push ⟨new, el, kd, true⟩, none⟩ := by
       simp only [fX, h1, h2, h3, h5, d6, aP, hkd, Option.bind_some, h7, h8, h4, and_self, if_true, if_neg hc]
       simp [bK]
     rw [this]
     exact hK _ _ ⟨.inr ⟨m.next, rfl, by rw [aG, if_pos rfl]; rfl, by rw [bO]; omega, by omega⟩, by simp [h6]⟩ (by rw [bO]; omega) (fun j k h hj _ => by rw [aG, if_neg (by omega)]; exact h) (fun j h => .inl (by injection h with h; exact h.symm)) rfl
 · have : fX P el m (.sl b 0 n n false) x = some ⟨.sl m.next 0 (n + cnt) (n + cnt) false, (m.put b none).push ⟨cells ++ new, el, kd, true⟩, none⟩ := by
     simp only [fX, h1, h2, h3, h5, d6, hb, hkd, Option.bind_some, h7, h8, h4, and_self, if_true]
     simp [bK, hlen, t7]
   rw [this]
   refine hK _ _ ⟨.inr ⟨m.next, rfl, by rw [aG, bX, if_pos rfl], by rw [bO, bX]; omega, by omega⟩, by simp [hlen, h6, Nat.add_mul]⟩ (by rw [bO, bX]; omega) (fun j k h hj hne => ?_) (fun j h => .inl (by injection h with h; exact h.symm)) rfl
   rw [aG, bX, if_neg (by omega), aF, if_neg (by rintro rfl; exact hne rfl)]
   exact h
theorem vV {P:Program} {kd:fO} {el:TypeId} {m:aH} {v x:AV} {K:bS→Prop} {sz y n cnt:Nat} {zl:List Value} {cells new:List AV} (hkd:bR P el=kd) (ho:cH kd m el sz v n cells) (h1:cG P el=some sz) (h2:j8 P el=some y) (h3:gB P el=some zl) (h4:zl.length=sz) (h5:fW P el sz m x=some (new,cnt)) (h6:new.length=cnt*sz) (h7:(n+cnt)*y≤140737488355328) (h8:n+cnt≤140737488355328)
 (hK:∀ v' m',cH kd m' el sz v' (n+cnt) (cells++new)→m.next≤m'.next→(∀ j k,m.at_ j=some k→j < m.next→cP v≠some j→m'.at_ j=some k)→(∀ j,cP v'=some j→j=m.next∨cP v=some j)→K ⟨v',m',none⟩):eL (fX P el m v x) K:=tE hkd ho h1 h2 h3 h4 h5 h6 h7 h8 fun v' m' a b c d _=>hK v' m' a b c d
theorem afA {P : Program} {kd : fO} {el : TypeId} {m : aH} {x : AV} {sz y cnt : Nat} {zl : List Value} {new : List AV} (hkd : bR P el = kd) (h1 : cG P el = some sz) (h2 : j8 P el = some y) (h3 : gB P el = some zl) (h4 : zl.length = sz) (h5 : fW P el sz m x = some (new, cnt)) (h7 : cnt * y ≤ 140737488355328) (h8 : cnt ≤ 140737488355328) (hc : 0 < cnt) :
   fX P el m (.tree 0 0 [] true) x = some ⟨.sl m.next 0 cnt cnt false, m.push ⟨new, el, kd, true⟩, none⟩ := by
 simp only [fX, h1, h2, h3, h5, d6, hkd, Option.bind_some]
 simp [bK, h4, h7, h8, Nat.ne_of_gt hc]
theorem cH.other {kd kd':fO} {m m':aH} {el el':TypeId} {sz sz' n n':Nat} {v v':AV} {cells cells':List AV} (h:cH kd m el sz v n cells) (ho:cH kd' m el' sz' v' n' cells') (hk:kd≠kd') (hn:m.next≤m'.next) (hkeep:∀ j k,m.at_ j=some k→j < m.next→cP v'≠some j→m'.at_ j=some k):cH kd m' el sz v n cells:=by
 refine ⟨?_,h.len⟩
 rcases h.form with h1 | ⟨b,rfl,h3,h4,h5⟩
 ·exact .inl h1
 ·exact .inr ⟨b,rfl,hkeep b _ h3 h4 (ho.ne_kind h3 hk),by omega,h5⟩
def x3 (P:Program) (c:AV):Prop:=∀ (m:aH) (k:Nat) (ids:List (Nat×Nat)) (rows:List (TypeId×List AV)),canon P m k ids rows c=some (c,ids,rows)
theorem adb {P:Program} (v:Value):x3 P (.val v):=fun m k ids rows=>by cases k <;> (unfold canon;rfl)
theorem apu {P:Program} (n c:Nat) (cs:List AV) (f:Bool):x3 P (.tree n c cs f):=fun m k ids rows=>by cases k <;> (unfold canon;rfl)
theorem apv {P:Program} (n:Nat) (cs:List AV):x3 P (bE n cs):=by
 unfold bE
 split
 ·exact adb _
 ·exact apu _ _ _ _
theorem adc {P:Program} (m:aH) (k:Nat) (ids:List (Nat×Nat)) (rows:List (TypeId×List AV)):∀ (cs:List AV),(∀ c∈cs,x3 P c)→iH P m k ids rows cs=some (cs,ids,rows)
 | [],_=>by cases k <;> (unfold iH;rfl)
 | c::cs,h=>by
  have h1:=h c (by simp) m k ids rows
  have h2:=adc m k ids rows cs fun x hx=>h x (by simp [hx])
  cases k <;> (unfold iH;simp [h1,h2])
theorem apw {P:Program} {m:aH} {el:TypeId} {sz n:Nat} {v:AV} {cells:List AV} (hkd:bR P el = .var) (h:cH .var m el sz v n cells) (hs:∀ c∈cells,x3 P c):∃ ids,canon P m 3 [] [] v=some ((iY el n cells).v,ids,(iY el n cells).rows):=by
 rcases h.form with ⟨rfl,rfl,rfl⟩ | ⟨b,rfl,hb,hlt,hn⟩
 ·exact ⟨[],by unfold aP canon;rfl⟩
 ·refine ⟨[(b,0)], ?_⟩
  have h1:=adc m 2 [] [] cells hs
  unfold canon
  simp [hb,iY,Nat.ne_of_gt hn,hkd,h1]
theorem apx {P:Program} {m:aH} {t el el':TypeId} {sz n:Nat} {x:Value} {v:AV} {cells:List AV} {z:List Value} (h:eM m el' sz v n cells) (hx:qQ x=true) (h1:bZ P t=some el) (h2:cG P el=some 2) (h3:gB P el=some z) (h4:z.length=2):∃ m1,sB P false true m t 1 [(0,.agg [.val x,v])]=some ⟨.tree 1 1 [.val x,bE n cells] true,m1,none⟩∧m1.next=m.next∧∀ j,cP v≠some j→m1.at_ j=m.at_ j:=by
 match z,h4 with
 | [z1,z2],_ =>
 rcases h.form with ⟨rfl,rfl,rfl⟩ | ⟨b,rfl,hb,hlt,hn⟩
 ·refine ⟨m, ?_,rfl,fun _ _=>rfl⟩
  have:fV P m t 1 [(0,.agg [.val x,aP])]=some ⟨.tree 1 1 [.val x,aP] true,m,none⟩:=by
   simp [fV,h1,h2,h3,iW,List.range_succ,fU,fC,hx,dB,cI,AV.cells,jH,iN,bK,aP,qQ]
  rw [afr (by rw [this];rfl),this]
  rfl
 ·refine ⟨m.put b (some ⟨cells,el',.flat,false⟩), ?_,rfl,fun j hj => ?_⟩
  ·have:fV P m t 1 [(0,.agg [.val x,.sl b 0 n n false])]=none:=by
    simp [fV,h1,h2,h3,iW,List.range_succ,fU,fC,hx,dB,cI,AV.cells,jH,iN]
   rw [ajo this]
   simp [vR,h1,h2,h3,iW,List.range_succ,fU,fC,hx,dB,cI,AV.cells,fzs,fz,hb,bK,bE,Nat.ne_of_gt hn]
  ·rw [aF,if_neg (by rintro rfl;exact hj rfl)]
theorem cH.setM {kd:fO} {m:aH} {el:TypeId} {sz n:Nat} {v:AV} {cells:List AV} (h:cH kd m el sz v n cells) (mm:Maps):cH kd (m.setM mm) el sz v n cells:=⟨h.form,h.len⟩
theorem apy {P:Program} {m:aH} {t el:TypeId} {a:Value} {x:AV} {z:List Value} (hk:bR P el = .var) (ha:qQ a=true) (hx:dB x=true) (hx2:x.cells=[x]) (h1:bZ P t=some el) (h2:cG P el=some 2) (h3:gB P el=some z) (h4:z.length=2):oW P m t 1 [(0,.agg [.val a,x])]=some ⟨.sl m.next 0 1 1 true,m.push ⟨[.val a,x],el,.var,true⟩,none⟩:=by
 match z,h4 with
 | [z1,z2],_ =>
  simp [oW,hk,h1,h2,h3,iW,List.range_succ,fU,fC,dB,cI,AV.cells,bK]
section
variable {P:Program} {t:TypeId} {k off b:Nat} {cs:List AV}
theorem ajY (h:bZ P t=none):mR P t k (.tptr off cs)=(nT P t).bind fun a=>(cG P a.2).bind fun sz=>if k < a.1 then some (.tptr (off+k*sz) cs) else none:=by simp [mR,h]
theorem ajZ (h:bZ P t=none):mR P t k (.ptr b off)=(nT P t).bind fun a=>(cG P a.2).bind fun sz=>if k < a.1 then some (.ptr b (off+k*sz)) else none:=by simp [mR,h]
theorem n9 {n c:Nat} {f:Bool} (h:(bZ P t).isSome=true):mR P t k (.sl b off n c f)=(bZ P t).bind fun el=>(cG P el).bind fun sz=>if k < n then some (.ptr b (off+k*sz)) else none:=by
 obtain ⟨el,hel⟩:=Option.isSome_iff_exists.1 h
 simp [mR,hel]
theorem aj0:zE P t k (.agg cs)=(nT P t).bind fun a=>(cG P a.2).bind fun sz=>if k < a.1 then kO P a.2 cs (k*sz) else none:=rfl
theorem aI:(type_of% @ajY)∧(type_of% @ajZ)∧(type_of% @aj0)∧(type_of% @n9):=⟨@ajY,@ajZ,@aj0,@n9⟩
end
mutual
def fzT:Nat→aH→AV→Option AV
 | _,_,.val v=>some (.val v)
 | _,_,.tree n c cs f=>some (.tree n c cs f)
 | _,_,.tptr o cs=>some (.tptr o cs)
 | _,_,.emp c f=>some (.emp c f)
 | k,m,.agg cs=>(nL k m cs).map .agg
 | k,m,.tup cs=>(nL k m cs).map .tup
 | 0,m,.sl b off len c full=>(m.at_ b).bind fun x=>if x.kind = .flat∧x.wr=true then some (.tree len c (x.cells.drop off) full) else none
 | k+1,m,.sl b off len c full=>(m.at_ b).bind fun x=>if x.wr=true then (match x.kind with
  | .flat=>some (.tree len c (x.cells.drop off) full)
  | .var=>(nL k m (x.cells.drop off)).map fun cs => .tree len c cs full
  | .hole=>none) else none
 | _,_,_=>none
 termination_by k _ v=>(k,SizeOf.sizeOf v)
def nL:Nat→aH→List AV→Option (List AV)
 | _,_,[]=>some []
 | k,m,c::cs=>(fzT k m c).bind fun c'=>(nL k m cs).map (c'::·)
 termination_by k _ v=>(k,SizeOf.sizeOf v)
end
theorem jC {k:Nat} {m:aH}:nL k m []=some []:=by cases k <;> (rw [nL])
theorem dT {k:Nat} {m:aH} {c:AV} {cs:List AV}:nL k m (c::cs)=(fzT k m c).bind fun c'=>(nL k m cs).map (c'::·):=by cases k <;> (rw [nL])
theorem fP {k:Nat} {m:aH} {v:Value}:fzT k m (.val v)=some (.val v):=by cases k <;> (rw [fzT])
theorem x4 {k:Nat} {m:aH} {n c:Nat} {cs:List AV} {f:Bool}:fzT k m (.tree n c cs f)=some (.tree n c cs f):=by cases k <;> (rw [fzT])
theorem kC {k:Nat} {m:aH} {cs:List AV}:fzT k m (.tup cs)=(nL k m cs).map .tup:=by cases k <;> (rw [fzT])
theorem abB {k:Nat} {m:aH} {cs:List AV}:fzT k m (.agg cs)=(nL k m cs).map .agg:=by cases k <;> (rw [fzT])
theorem sJ {k:Nat} {m:aH} {b off len c:Nat} {f:Bool} {cells:List AV} {el:TypeId} (h:m.at_ b=some ⟨cells,el,.flat,true⟩):fzT k m (.sl b off len c f)=some (.tree len c (cells.drop off) f):=by
 cases k <;> (rw [fzT];simp [h])
theorem ade {k:Nat} {m:aH} {b off len c:Nat} {f:Bool} {cells cs:List AV} {el:TypeId} (h:m.at_ b=some ⟨cells,el,.var,true⟩) (h2:nL k m (cells.drop off)=some cs):fzT (k+1) m (.sl b off len c f)=some (.tree len c cs f):=by
 rw [fzT];simp [h,h2]
theorem aac {k:Nat} {m:aH} {v:AV} {n:Nat} {cs:List AV} (h:bD v n cs):fzT k m v=some v:=by
 rcases h.form with ⟨rfl,_⟩ | ⟨_,_,rfl,_⟩ | ⟨_,_,rfl,_⟩ <;> (cases k <;> (first | (unfold aP;rw [fzT]) | rw [fzT]))
section
variable {P:Program} {w:World} {I:Nat→Prop} {ρ:cC} {m:aH}
def adf (I:Nat→Prop) (ρ:cC) (m:aH) (g:Nat):Prop:=I g∨∃ b k o,m.at_ b=some k∧k.wr=true∧ρ b=some (g,o)
theorem adg:g9 w w I (adf I ρ m):=⟨fun _ h => .inl h,fun _ _=>rfl,fun _ _ h=>h⟩
mutual
theorem apz:∀ (k:Nat) (av av':AV),fzT k m av=some av'→dB av'=dB av
 | k,.val v,av',hl=>by rw [fP] at hl;cases hl;rfl
 | k,.tree _ _ _ _,av',hl=>by rw [x4] at hl;cases hl;rfl
 | k,.tptr _ _,av',hl=>by unfold fzT at hl;simp at hl;rw [←hl]
 | k,.emp _ _,av',hl=>by unfold fzT at hl;simp at hl;rw [←hl]
 | k,.agg cs,av',hl=>by rw [abB] at hl;obtain ⟨cs',hc,rfl⟩:=Option.map_eq_some_iff.1 hl;rfl
 | k,.tup cs,av',hl=>by rw [kC] at hl;obtain ⟨cs',hc,rfl⟩:=Option.map_eq_some_iff.1 hl;rfl
 | 0,.sl b off len c full,av',hl=>by
  rw [fzT] at hl
  obtain ⟨x,hx,hl⟩:=Option.bind_eq_some_iff.1 hl
  split at hl
  ·cases hl;rfl
  ·cases hl
 | k+1,.sl b off len c full,av',hl=>by
  rw [fzT] at hl
  obtain ⟨x,hx,hl⟩:=Option.bind_eq_some_iff.1 hl
  split at hl
  ·split at hl
   ·cases hl;rfl
   ·obtain ⟨cs',hc,rfl⟩:=Option.map_eq_some_iff.1 hl;rfl
   ·cases hl
  ·cases hl
 | k,.ptr _ _,av',hl=>by cases k <;> (unfold fzT at hl;cases hl)
 | k,.clo _ _,av',hl=>by cases k <;> (unfold fzT at hl;cases hl)
end
theorem adh:∀ (k:Nat) (cs cs':List AV),nL k m cs=some cs'→cs'.length=cs.length∧(d8 cs→d8 cs')
 | k,[],cs',hl=>by rw [jC] at hl;cases hl;exact ⟨rfl,fun h=>h⟩
 | k,c::cs,cs',hl=>by
  rw [dT] at hl
  obtain ⟨c',hc,hl⟩:=Option.bind_eq_some_iff.1 hl
  obtain ⟨cs'',hcs,rfl⟩:=Option.map_eq_some_iff.1 hl
  obtain ⟨h1,h2⟩:=adh k cs cs'' hcs
  refine ⟨by simp [h1],fun h x hx => ?_⟩
  rcases List.mem_cons.1 hx with rfl | hx
  ·rw [apz k c _ hc];exact h c (by simp)
  ·exact h2 (fun y hy=>h y (by simp [hy])) x hx
mutual
theorem aj1 (hS:SR P w I ρ m):∀ (k:Nat) (av av':AV) (v:Value),fzT k m av=some av'→VR P w I ρ av v→VR P w (adf I ρ m) dG av' v
 | k,.val x,av',v,hl,hv=>by rw [fP] at hl;cases hl;simpa only [VR] using hv
 | k,.tree a b c d,av',v,hl,hv=>by
  rw [x4] at hl;cases hl
  exact o6 adg (fun _ _ h=>h) _ _ (xR _ _ rfl hv)
 | k,.tptr a b,av',v,hl,hv=>by
  unfold fzT at hl;simp at hl;subst hl
  exact o6 adg (fun _ _ h=>h) _ _ (xR _ _ rfl hv)
 | k,.emp _ _,av',v,hl,hv=>by unfold fzT at hl;simp at hl;subst hl;simpa only [VR] using hv
 | k,.agg cs,av',v,hl,hv=>by
  rw [abB] at hl
  obtain ⟨cs',hc,rfl⟩:=Option.map_eq_some_iff.1 hl
  simp only [VR] at hv ⊢
  obtain ⟨vs,h1,h2,h3,h4⟩:=hv
  obtain ⟨l1,l2⟩:=adh k cs cs' hc
  exact ⟨vs,h1,by rw [h2,l1],l2 h3,adi hS k cs cs' _ hc h4⟩
 | k,.tup cs,av',v,hl,hv=>by
  rw [kC] at hl
  obtain ⟨cs',hc,rfl⟩:=Option.map_eq_some_iff.1 hl
  simp only [VR] at hv ⊢
  obtain ⟨vs,h1,h2,h4⟩:=hv
  obtain ⟨l1,l2⟩:=adh k cs cs' hc
  exact ⟨vs,h1,by rw [h2,l1],adi hS k cs cs' _ hc h4⟩
 | 0,.sl b off len c full,av',v,hl,hv=>by
  rw [fzT] at hl
  obtain ⟨x,hx,hl⟩:=Option.bind_eq_some_iff.1 hl
  split at hl
  ·rename_i hk
   cases hl
   simp only [VR] at hv ⊢
   obtain ⟨g,o,cap,ty,n,s,hg,rfl,hlc,hf,_⟩:=hv
   have hB:=hS.blk b x g o hx hg
   refine ⟨g,o+off,cap,rfl,.inr ⟨b,x,o,hx,hk.2,hg⟩,hlc,hf,kA hB.one _, ?_⟩
   exact g8 (kP (eF adg (fun _ _ h=>h) _ _ (hB.flatAt hk.1)) off) fun j _=>by rw [Nat.add_assoc]
  ·cases hl
 | k+1,.sl b off len c full,av',v,hl,hv=>by
  rw [fzT] at hl
  obtain ⟨x,hx,hl⟩:=Option.bind_eq_some_iff.1 hl
  simp only [VR] at hv
  obtain ⟨g,o,cap,ty,n,s,hg,rfl,hlc,hf,_⟩:=hv
  have hB:=hS.blk b x g o hx hg
  split at hl
  ·rename_i hwr
   split at hl
   ·rename_i hk
    cases hl
    simp only [VR]
    refine ⟨g,o+off,cap,rfl,.inr ⟨b,x,o,hx,hwr,hg⟩,hlc,hf,kA hB.one _, ?_⟩
    exact g8 (kP (eF adg (fun _ _ h=>h) _ _ (hB.flatAt hk)) off) fun j _=>by rw [Nat.add_assoc]
   ·obtain ⟨cs',hc,rfl⟩:=Option.map_eq_some_iff.1 hl
    simp only [VR]
    obtain ⟨l1,l2⟩:=adh k _ cs' hc
    refine ⟨g,o+off,cap,rfl,.inr ⟨b,x,o,hx,hwr,hg⟩,hlc,hf,l2 (kA hB.one _), ?_⟩
    exact g8 (adi hS k _ cs' _ hc (kP hB.cellsAt off)) fun j _=>by rw [Nat.add_assoc]
   ·cases hl
  ·cases hl
 | k,.ptr _ _,av',v,hl,hv=>by cases k <;> (unfold fzT at hl;cases hl)
 | k,.clo _ _,av',v,hl,hv=>by cases k <;> (unfold fzT at hl;cases hl)
 termination_by k av=>(k,SizeOf.sizeOf av)
theorem adi (hS:SR P w I ρ m):∀ (k:Nat) (cs cs':List AV) (get:Nat→Option Value),nL k m cs=some cs'→bH P w I ρ cs get→bH P w (adf I ρ m) dG cs' get
 | k,[],cs',get,hl,hv=>by rw [jC] at hl;cases hl;simp only [bH]
 | k,c::cs,cs',get,hl,hv=>by
  rw [dT] at hl
  obtain ⟨c',hc,hl⟩:=Option.bind_eq_some_iff.1 hl
  obtain ⟨cs'',hcs,rfl⟩:=Option.map_eq_some_iff.1 hl
  simp only [bH] at hv ⊢
  obtain ⟨⟨v,h1,h2⟩,h3⟩:=hv
  exact ⟨⟨v,h1,aj1 hS k c c' v hc h2⟩,adi hS k cs cs'' _ hcs h3⟩
 termination_by k cs=>(k,SizeOf.sizeOf cs)
end
theorem dY {f:FuncId} {args:List AV} {r:AV} (h:gO P f args aH.empty fun v m=>∃ k,fzT k m v=some r):aY P f args ⟨r,[]⟩:=⟨h.1,fun w I vs hI hsz hv=>(h.2 w I dG vs ⟨fun b k g o h=>by simp [aH.empty] at h,fun b b' k k' g o o' h=>by simp [aH.empty] at h,hI,jV.none⟩ hsz hv (fun _ _=>rfl)).mono fun en w'=>by
 rintro ⟨v,rv,m',I',ρ',rfl,⟨k,hk⟩,q1,q2,q3,_⟩
 have hnoWr:∀ g,¬ Wr dG aH.empty g:=by
  rintro g (⟨b,k,o,h1,_⟩ | h1)
  ·simp [aH.empty] at h1
  ·exact vI h1
 have hnew:∀ g,(∃ b k o,m'.at_ b=some k∧k.wr=true∧ρ' b=some (g,o))→w.heap.size≤g:=by
  intro g hg
  rcases q3.own g (.inl hg) with h | h
  ·exact absurd h (hnoWr g)
  ·exact h
 refine ⟨v,adf I' ρ' m',dG,rfl,aj1 q2 k rv r v hk q1,⟨fun b k g o h=>by simp [eB,g7,aH.empty] at h,fun b b' k k' g o o' h=>by simp [eB,g7,aH.empty] at h,fun g hg => ?_,jV.none⟩,⟨q3.os,q3.tape,q3.output,q3.size,q3.same,q3.shape,fun g hg => .inl (q3.imm g hg),fun g hg => ?_,fun _ _ h=>h,fun b h1 h2=>absurd h1 h2,fun g hg => ?_,Nat.le_refl _⟩⟩
 ·rcases hg with hg | ⟨b,k,o,h1,h2,h3⟩
  ·exact q2.lt g hg
  ·exact q2.ltb h1 h3
 ·rcases hg with hg | hg
  ·exact q3.back g hg
  ·exact .inr (.inr (hnew g hg))
 ·rcases hg with ⟨b,k,o,h1,_⟩ | hg
  ·simp [eB,g7,aH.empty] at h1
  ·exact (vI hg).elim⟩
theorem abC {f:FuncId} {args:List AV} {m:aH} {Q Q':AV→aH→Prop} (h:gO P f args m Q) (hq:∀ r m',Q r m'→Q' r m'):gO P f args m Q':=⟨h.1,fun w I ρ vs a b c d=>(h.2 w I ρ vs a b c d).mono fun en w' ⟨v,r,m',I',ρ',e1,e2,e3⟩=>⟨v,r,m',I',ρ',e1,hq _ _ e2,e3⟩⟩
theorem mX {f:FuncId} {args:List AV} {Q:AV→aH→Prop} {K:bS→Prop} (h:gO P f args m Q) (hk:∀ r m',Q r m'→K ⟨r,m',none⟩):nY P false f args m K := .inr (.inl ⟨rfl,abC h hk⟩)
theorem qF {f:FuncId} {args:List AV} {r:AV} {m':aH} {d:Bool} {K:bS→Prop} (h:gO P f args m fun v m1=>v=r∧m1=m') (hk:K ⟨r,m',none⟩):nY P d f args m K := .inr (.inr (.inl ⟨r,m',h,hk⟩))
end
section
variable {P:Program}
theorem apA {r:Option bS} {K K':bS→Prop} (hK:∀ o,K o→K' o) (h:eL r K):eL r K':=by
 unfold eL at h ⊢
 split at h
 ·exact hK _ h
 ·exact h
theorem apB {d:Bool} {f:FuncId} {args:List AV} {m:aH} {K K':bS→Prop} (hK:∀ o,K o→K' o) (h:nY P d f args m K):nY P d f args m K':=by
 rcases h with ⟨a,r,h1,h2,h3,h4⟩ | ⟨hd,h⟩ | ⟨r,m',h1,h2⟩ | ⟨r,h1,h2⟩ | ⟨a,m1,r,h1,h2,h3⟩
 ·exact .inl ⟨a,r,h1,h2,h3,hK _ h4⟩
 ·exact .inr (.inl ⟨hd,abC h fun r m' h=>hK _ h⟩)
 ·exact .inr (.inr (.inl ⟨r,m',h1,hK _ h2⟩))
 ·exact .inr (.inr (.inr (.inl ⟨r,h1,hK _ h2⟩)))
 ·exact .inr (.inr (.inr (.inr ⟨a,m1,r,h1,h2,hK _ h3⟩)))
theorem apC {f:FuncId} {args:List AV} {m:aH} {K K':bS→Prop} (hK:∀ o,K o→K' o) (h:xV P f args m K):xV P f args m K':=by
 obtain ⟨r,h1,h2,h3,h4,h5,h6⟩:=h
 exact ⟨r,h1,h2,h3,h4,h5,hK _ h6⟩
theorem apD {d c:Bool} {m:aH} {args:List AV} {K K':bS→Prop} (hK:∀ o,K o→K' o) {x:AV} (h:mV P d c m args K x):mV P d c m args K' x:=by
 cases x with
 | clo g caps =>
  unfold mV at h ⊢
  simp only at h ⊢
  split at h
  ·exact apC hK h
  ·exact apB hK h
 | _=>exact h.elim
theorem apE {m:aH} {K K':bS→Prop} (hK:∀ o,K o→K' o) (h:zS m K):zS m K':=fun g hg=>hK _ (h g hg)
theorem apF {m:aH} {t:TypeId} {x:AV} {K K':bS→Prop} (hK:∀ o,K o→K' o) (h:zT P m t x K):zT P m t x K':=by
 obtain ⟨gc,h1,h2,h3⟩:=h
 exact ⟨gc,h1,h2,fun r hr=>hK _ (h3 r hr)⟩
theorem apG {m:aH} {x:AV} {K K':bS→Prop} (hK:∀ o,K o→K' o) (h:zU m x K):zU m x K':=by
 obtain ⟨i,h1,h2,h3⟩:=h
 exact ⟨i,h1,fun h=>hK _ (h2 h),fun j e a b=>hK _ (h3 j e a b)⟩
theorem apH {d once:Bool} {e:bI} {m:aH} {ty:TypeId} {K K':bS→Prop} (hK:∀ o,K o→K' o) {op:Op} (h:cD P d once e m ty K op):cD P d once e m ty K' op:=by
 unfold cD at h ⊢
 split at h
 all_goals first
  | exact apA hK h
  | exact apD hK h
  | exact h.elim
  | exact ⟨h.1,apE hK h.2⟩
  | exact ⟨h.1,apF hK h.2⟩
  | exact ⟨h.1,apG hK h.2⟩
theorem afB {once:Nat→Bool} {d:Bool} {ops:Array Oper} {Q Q':bI→aH→Prop} (hQ:∀ e m,Q e m→Q' e m):∀ (l:List Oper) (e:bI) (m:aH),iA P once d ops Q l e m→iA P once d ops Q' l e m
 | [],e,m,h=>hQ e m h
 | o::rest,e,m,h=>by
  rw [aic] at h ⊢
  split at h
  ·rename_i hw
   rw [if_pos hw]
   exact apH (fun out ho=>⟨ho.1,afB hQ rest _ _ ho.2⟩) h
  ·rename_i hw
   rw [if_neg hw]
   exact afB hQ rest _ _ h
theorem adj {K K':bI→aH→Prop} {Q Q':Ex→bI→aH→Prop} (hK:∀ e m,K e m→K' e m) (hQ:∀ x e m,Q x e m→Q' x e m):∀ x e m,o7 K Q x e m→o7 K' Q' x e m:=by
 intro x e m h
 cases x with
 | normal=>exact hK e m h
 | exit i=>exact hQ _ e m h
 | ret=>exact hQ _ e m h
theorem adk {id:Nat} {Q Q':Ex→bI→aH→Prop} (hQ:∀ x e m,Q x e m→Q' x e m):∀ x e m,nZ id Q x e m→nZ id Q' x e m:=by
 intro x e m h
 cases x with
 | normal=>exact hQ _ e m h
 | exit i =>
  simp only [nZ] at h ⊢
  split at h
  ·rename_i hi;rw [if_pos hi];exact hQ _ e m h
  ·rename_i hi;rw [if_neg hi];exact hQ _ e m h
 | ret=>exact hQ _ e m h
theorem aj2 {once:Nat→Bool} {n:Nat}:∀ (c:Code) (Q Q':Ex→bI→aH→Prop) (e:bI) (m:aH),(∀ x e m,Q x e m→Q' x e m)→eC P once n c Q e m→eC P once n c Q' e m:=by
 intro c
 induction c with
 | skip=>exact fun Q Q' e m hQ h=>hQ _ e m h
 | label l=>exact fun Q Q' e m hQ h=>hQ _ e m h
 | region id ops d=>exact fun Q Q' e m hQ h=>afB (hQ .normal) _ e m h
 | seq x y ihx ihy=>exact fun Q Q' e m hQ h=>ihx _ _ e m (adj (fun e m h=>ihy _ _ e m hQ h) hQ) h
 | cond c x y ihx ihy =>
  intro Q Q' e m hQ h
  simp only [eC] at h ⊢
  unfold zX at h ⊢
  split at h
  ·exact ⟨fun a=>ihx _ _ e m hQ (h.1 a),fun a=>ihy _ _ e m hQ (h.2 a)⟩
  ·exact h
 | block id b ih=>exact fun Q Q' e m hQ h=>ih _ _ e m (adk hQ) h
 | loop b ih =>
  intro Q Q' e m hQ h
  obtain ⟨J,k,h1,h2⟩:=h
  exact ⟨J,k,h1,fun n e m hj=>ih _ _ e m (adj (fun _ _ h=>h) hQ) (h2 n e m hj)⟩
 | exit id=>exact fun Q Q' e m hQ h=>hQ _ e m h
 | ret=>exact fun Q Q' e m hQ h=>hQ _ e m h
 | scope b ih=>exact fun Q Q' e m hQ h=>ih _ _ e m hQ h
 | goto l=>exact fun Q Q' e m hQ h=>h.elim
 | refuse s=>exact fun Q Q' e m hQ h=>h.elim
 | rangeFunc f ps x y=>exact fun Q Q' e m hQ h=>h.elim
theorem vW {once:Nat→Bool} {n id:Nat} {b:Code} {K:bI→aH→Prop} {Q:Ex→bI→aH→Prop} {e:bI} {m:aH} (R:bI→aH→Prop) (h2:∀ e m,R e m→K e m) (h1:xW (eC P once n b) (nZ id (o7 R Q)) e m):xW (eC P once n b) (nZ id (o7 K Q)) e m :=
 aj2 (.loop b) _ _ e m (adk (adj h2 fun _ _ _ h=>h)) h1
end
end Go.Tw