/- Conversions, append, copy, len: sound. -/
import Derived.Test.YtenmbfplceeolaaTwH
set_option linter.unusedVariables false
set_option linter.unusedSimpArgs false
namespace Go.Tw
open Go

section
variable {P : Program} {w : World} {I : Nat → Prop} {ρ : Real} {m : Mem}

/-- a slice's cells in memory -/
def InMem (P : Program) (w : World) (I : Nat → Prop) (a : Option Addr) (cs : List AV) : Prop :=
  match a with
  | some ad => ad.spot = none ∧ VRs P w I noneR cs (fun j => w.cell? ⟨ad.block, ad.off + j, none⟩)
  | none => cs = []

theorem slView_sound (hS : SR P w I ρ m) {x : AV} {cs : List AV} {n : Nat} {f : Bool} (h : slView m x = some (cs, n, f)) {v : Value} (hv : VR P w I ρ x v) :
    ∃ a cap, v = .slice a n cap ∧ n ≤ cap ∧ (f = true → cap = n) ∧ InMem P w I a cs ∧ AllOne cs ∧ (a = none → cs = [] ∧ n = 0 ∧ cap = 0) := by
  cases x with
  | val x =>
    simp only [VR] at hv
    subst hv
    unfold slView at h
    split at h
    · rename_i heq
      simp only [AV.val.injEq] at heq
      subst heq
      simp only [Option.some.injEq, Prod.mk.injEq] at h
      obtain ⟨rfl, rfl, rfl⟩ := h
      exact ⟨none, 0, rfl, Nat.le_refl _, fun _ => rfl, rfl, fun c hc => by simp at hc, fun _ => ⟨rfl, rfl, rfl⟩⟩
    · rename_i heq; cases heq
    · rename_i heq; cases heq
    · rename_i heq; cases heq
    · cases h
  | tree l c cells f' =>
    simp only [slView, Option.some.injEq, Prod.mk.injEq] at h
    obtain ⟨rfl, rfl, rfl⟩ := h
    simp only [VR] at hv
    obtain ⟨g, o, cap, rfl, hI, ⟨h1, h2⟩, h3, h4, h5⟩ := hv
    refine ⟨some ⟨g, o, none⟩, cap, rfl, by omega, fun hf => ?_, ⟨rfl, h5⟩, h4, fun h => by cases h⟩
    simp at hf
    rw [h3 hf.1, hf.2]
  | emp c f' =>
    simp only [slView, Option.some.injEq, Prod.mk.injEq] at h
    obtain ⟨rfl, rfl, rfl⟩ := h
    simp only [VR] at hv
    obtain ⟨g, o, cap, rfl, h2, h3⟩ := hv
    refine ⟨some ⟨g, o, none⟩, cap, rfl, by omega, fun hf => ?_, ⟨rfl, by simp only [VRs]⟩, fun c hc => by simp at hc, fun h => by cases h⟩
    simp at hf
    rw [h3 hf.1, hf.2]
  | sl b off l c f' =>
    simp only [slView] at h
    split at h
    · rename_i cells el wr hb
      simp only [Option.some.injEq, Prod.mk.injEq] at h
      obtain ⟨rfl, rfl, rfl⟩ := h
      simp only [VR] at hv
      obtain ⟨g, o, cap, ty, n', s, hg, rfl, ⟨h1, h2⟩, h3, _⟩ := hv
      have hB := hS.blk b _ g o hb hg
      refine ⟨some ⟨g, o + off, none⟩, cap, rfl, by omega, fun hf => ?_, ⟨rfl, ?_⟩, AllOne_drop hB.one _, fun h => by cases h⟩
      · simp at hf
        rw [h3 hf.1, hf.2]
      · exact VRs_congr (VRs_drop (hB.flatAt rfl) off) fun j _ => by simp only; rw [Nat.add_assoc]
    · cases h
  | agg _ => simp [slView] at h
  | tup _ => simp [slView] at h
  | tptr _ _ => simp [slView] at h
  | ptr _ _ => simp [slView] at h
  | clo _ _ => simp [slView] at h

theorem InMem_list {a : Option Addr} {cs : List AV} (h : InMem P w I a cs) {sz n : Nat} (hl : n * sz ≤ cs.length) {len cap : Nat} (ha : a = none → n = 0) :
    ∃ news : List Value, news.length = n * sz ∧ (Builtin.firstCells sz n (.slice a len cap)).run P w = .ok news.toArray w ∧ VRs P w I noneR (cs.take (n * sz)) (fun j => news[j]?) := by
  cases a with
  | none =>
    simp only [InMem] at h
    subst h
    have : n = 0 := ha rfl
    subst this
    exact ⟨[], by simp, by simp [Builtin.firstCells], by simp [VRs]⟩
  | some ad =>
    obtain ⟨h0, h⟩ := h
    obtain ⟨vs, l, f, r⟩ := VRs_list (VRs_take h (n * sz))
    have hl' : vs.length = n * sz := by rw [l, List.length_take]; omega
    have hr := run_loadCells_list (P := P) (w := w) ad vs (fun j v hj => by
      have := f j v hj
      have e : ad.add j = ⟨ad.block, ad.off + j, none⟩ := by
        obtain ⟨x, y, z⟩ := ad
        simp only at h0
        subst h0
        exact Addr.add_lit x y j
      rw [e]; exact this)
    rw [hl'] at hr
    exact ⟨vs, hl', by simp [Builtin.firstCells, hr], r⟩

theorem bytes_VRs (b : ByteArray) : VRs P w I ρ (bytesV b) (fun j => (b.data.toList.map fun x => Value.int .u8 x.toNat)[j]?) := VRs_iff.2 fun j c hj => by
  unfold bytesV at hj
  rw [List.getElem?_map] at hj
  obtain ⟨x, hx, rfl⟩ := Option.map_eq_some_iff.1 hj
  exact ⟨.int .u8 x.toNat, by rw [List.getElem?_map, hx]; rfl, by simp only [byteV, VR]⟩
theorem bytes_one (b : ByteArray) : AllOne (bytesV b) := fun c hc => by
  obtain ⟨x, _, rfl⟩ := List.mem_map.1 hc
  rfl
theorem bytesV_length (b : ByteArray) : (bytesV b).length = b.size := by simp [bytesV]

theorem srcE_sound (hS : SR P w I ρ m) {el : TypeId} {sz : Nat} {x : AV} {new : List AV} {n : Nat} (h : srcE P el sz m x = some (new, n)) {v : Value} (hv : VR P w I ρ x v) :
    (Builtin.lenOf v).run P w = .ok n w ∧ new.length = n * sz ∧ AllOne new ∧ ∀ n', n' ≤ n → ∃ news : List Value, news.length = n' * sz ∧ (Builtin.firstCells sz n' v).run P w = .ok news.toArray w ∧ VRs P w I noneR (new.take (n' * sz)) (fun j => news[j]?) := by
  have key : ∀ r, slView m x = some r → (if r.2.1 * sz ≤ r.1.length then some (r.1.take (r.2.1 * sz), r.2.1) else none) = some (new, n) →
      (Builtin.lenOf v).run P w = .ok n w ∧ new.length = n * sz ∧ AllOne new ∧ ∀ n', n' ≤ n → ∃ news : List Value, news.length = n' * sz ∧ (Builtin.firstCells sz n' v).run P w = .ok news.toArray w ∧ VRs P w I noneR (new.take (n' * sz)) (fun j => news[j]?) := by
    rintro ⟨cs, l, f⟩ hr h
    split at h
    · rename_i hle
      simp only [Option.some.injEq, Prod.mk.injEq] at h
      obtain ⟨rfl, rfl⟩ := h
      obtain ⟨a, cap, rfl, _, _, h4, h5, h6⟩ := slView_sound hS hr hv
      refine ⟨by simp [Builtin.lenOf], by rw [List.length_take]; exact Nat.min_eq_left hle, AllOne_take h5 _, fun n' hn' => ?_⟩
      have hle' : n' * sz ≤ l * sz := Nat.mul_le_mul_right _ hn'
      obtain ⟨news, q1, q2, q3⟩ := InMem_list (P := P) (n := n') (len := l) (cap := cap) h4 (Nat.le_trans hle' hle) (fun e => by have := (h6 e).2.1; omega)
      refine ⟨news, q1, q2, ?_⟩
      rw [List.take_take, Nat.min_eq_left hle']
      exact q3
    · cases h
  unfold srcE at h
  split at h
  · rename_i b
    split at h
    · rename_i hc
      obtain ⟨c1, rfl⟩ := hc
      simp only [Option.some.injEq, Prod.mk.injEq] at h
      obtain ⟨rfl, rfl⟩ := h
      simp only [VR] at hv
      subst hv
      refine ⟨by simp [Builtin.lenOf], by rw [bytesV_length, Nat.mul_one], bytes_one b, fun n' hn' => ⟨(b.data.toList.map fun x => Value.int .u8 x.toNat).take n', ?_, ?_, ?_⟩⟩
      · simp; omega
      · simp only [Builtin.firstCells, Sem.run_pure]
        congr 1
        apply Array.ext'
        simp [ByteArray.data_extract]
      · rw [Nat.mul_one]
        refine VRs_iff.2 fun j c hj => ?_
        rw [List.getElem?_take] at hj
        split at hj
        · rename_i hlt
          obtain ⟨u, h1, h2⟩ := VRs_at (bytes_VRs (P := P) (w := w) (I := I) (ρ := noneR) b) hj
          exact ⟨u, by rw [List.getElem?_take, if_pos hlt]; exact h1, h2⟩
        · cases hj
    · cases h
  · obtain ⟨r, hr, h⟩ := Option.bind_eq_some_iff.1 h
    exact key r hr h

/-! []byte(s), string(b) -/
theorem news_of_freeze {w1 : World} {arr : Array Value} {ty : TypeId} (h : w1.heap = w.heap ∧ w1.os = w.os ∧ w1.tape = w.tape ∧ w1.output = w.output) :
    News w ((w1.alloc (.cells arr ty)).freeze ⟨w.heap.size, arr.size, none⟩ 1) arr ty := by
  have hA := news_of_alloc (arr := arr) (ty := ty) h
  have hh : ((w1.alloc (.cells arr ty)).freeze ⟨w.heap.size, arr.size, none⟩ 1).heap[w.heap.size]? = some (.cells arr ty (arr.size, arr.size + 1)) := by
    have h2 : (w1.alloc (.cells arr ty)).heap[w.heap.size]? = some (.cells arr ty (0, 0)) := by rw [← h.1]; exact heap_alloc_new w1 _
    simp [World.freeze, Array.getElem?_modify, h2]
  refine ⟨hA.os, hA.tape, hA.output, ?_, fun g hg => ?_, ⟨_, hh⟩, fun j hj => ?_⟩
  · rw [← hA.size]; simp [World.freeze]
  · rw [← hA.same g hg]
    simp only [World.freeze, Nat.one_ne_zero, if_false]
    rw [Array.getElem?_modify, if_neg (by omega)]
  · unfold World.frozen?
    rw [hh]
    simp
    omega

theorem run_stringToBytes (el : TypeId) (s : ByteArray) : ∃ cap arr w', (Conv.stringToBytes el s).run P w = .ok (.slice (some ⟨w.heap.size, 0, none⟩) s.size cap) w' ∧ s.size ≤ cap ∧ News w w' arr el ∧ arr.size = cap ∧
    ∀ j, j < s.size → arr[j]? = (s.data.toList.map fun x => Value.int .u8 x.toNat)[j]? := by
  obtain ⟨c, hc⟩ : ∃ c, c = (Question.appendCap s.size 0 el).cut (w.tape w.drawn (.appendCap s.size 0 el)) := ⟨_, rfl⟩
  have hge : s.size ≤ c := by rw [hc]; simp only [Question.cut]; omega
  refine ⟨c, (s.data.map fun b => Value.int .u8 b.toNat) ++ Array.replicate (c - s.size) (.int .u8 0), _, ?_, hge, news_of_freeze (w := w) (w1 := w.drew) ⟨rfl, rfl, rfl, rfl⟩, ?_, ?_⟩
  · have hsz : ((s.data.map fun (b : UInt8) => Value.int .u8 (b.toNat : Int)) ++ Array.replicate (c - s.size) (Value.int .u8 0)).size = c := by simp; omega
    have hsh := shape_of_heap (heap_alloc_new w.drew (.cells ((s.data.map fun (b : UInt8) => Value.int .u8 (b.toNat : Int)) ++ Array.replicate (c - s.size) (Value.int .u8 0)) el))
    rw [hsz] at hsh
    unfold Conv.stringToBytes
    simp only [Sem.run_bind, run_choose, Question.forced, Bool.false_eq_true, if_false, Result.andThen_ok, ← hc, newRow, run_newObj, Sem.run_map, Sem.run_pure, World.drew_eq, World.alloc_eq, World.size_drew, markStringish, run_shape, hsz, run_freeze]
    simp only [World.size_drew] at hsh
    rw [hsh]
    simp only [Sem.run_bind, run_freeze, Result.andThen_ok, Sem.run_pure]
  · simp; omega
  · intro j hj
    rw [Array.getElem?_append_left (by simpa using hj)]
    simp

theorem foldl_push : ∀ (bs : List UInt8) (s : ByteArray), List.foldl (fun (b : ByteArray) a => b.push a) s bs = ⟨s.data ++ bs.toArray⟩
  | [], s => by simp
  | b :: bs, s => by
    rw [List.foldl_cons, foldl_push bs (s.push b)]
    simp [ByteArray.push]
theorem run_bytesToString {a : Addr} {l : List Value} {n cap : Nat} (hl : (loadCells a n).run P w = .ok l.toArray w) {ns : List Int} (hb : l = ns.map fun n => Value.int .u8 n) : (Conv.bytesToString (.slice (some a) n cap)).run P w = .ok (.string ⟨(ns.map fun n => UInt8.ofNat n.toNat).toArray⟩) w := by
  have key : ∀ (ns : List Int) (s : ByteArray), (forIn (ns.map fun n => Value.int .u8 n).toArray s (fun c (r : ByteArray) => (match c with
      | .int .u8 n => pure (ForInStep.yield (r.push (UInt8.ofNat n.toNat)))
      | _ => (do
        stuck "bytesToString: byte expected"
        pure (ForInStep.yield r)) : Sem (ForInStep ByteArray)))).run P w = .ok ⟨s.data ++ (ns.map fun n => UInt8.ofNat n.toNat).toArray⟩ w := by
    intro ns
    induction ns with
    | nil => intro s; simp
    | cons b ns ih =>
      intro s
      simp only [List.map_cons, List.forIn_toArray, List.forIn_cons, Sem.run_bind, Sem.run_pure, Result.andThen_ok]
      have := ih (s.push (UInt8.ofNat b.toNat))
      simp only [List.forIn_toArray] at this
      rw [this]
      congr 1
      simp [ByteArray.push]
  subst hb
  unfold Conv.bytesToString
  simp only [Sem.run_bind, hl, Result.andThen_ok]
  refine Eq.trans (congrArg (fun r : Result ByteArray => r.andThen fun a w' => Sem.run P (pure (Value.string a)) w') (key ns ByteArray.empty)) ?_
  simp only [Result.andThen_ok, Sem.run_pure]
  congr 3
  simp [ByteArray.empty, ByteArray.emptyWithCapacity]
  rfl

theorem bytesOf_spec : ∀ (cs : List AV) (bs : List UInt8) (get : Nat → Option Value), bytesOf cs = some bs → VRs P w I ρ cs get → ∃ ns : List Int, ns.length = cs.length ∧ bs = ns.map (fun n => UInt8.ofNat n.toNat) ∧ ∀ j, j < cs.length → get j = (ns[j]?).map fun n => .int .u8 n
  | [], bs, get, h, hv => by
    simp only [bytesOf, Option.some.injEq] at h
    subst h
    exact ⟨[], rfl, rfl, fun j hj => by simp at hj⟩
  | c :: cs, bs, get, h, hv => by
    simp only [bytesOf] at h
    obtain ⟨b, hb, h⟩ := Option.bind_eq_some_iff.1 h
    obtain ⟨bs', h', rfl⟩ := Option.map_eq_some_iff.1 h
    simp only [VRs] at hv
    obtain ⟨⟨v, h0, h1⟩, h2⟩ := hv
    obtain ⟨ns, e0, e1, e2⟩ := bytesOf_spec cs bs' _ h' h2
    unfold asB at hb
    split at hb
    · rename_i n
      simp only [Option.some.injEq] at hb
      simp only [VR] at h1
      subst h1
      refine ⟨n :: ns, by simp [e0], by simp [e1, hb], fun j hj => ?_⟩
      cases j with
      | zero => simpa using h0
      | succ j => simpa using e2 j (by simpa using hj)
    · cases hb
end
end Go.Tw
