/- The concrete evaluator: append, copy. The concrete evaluator: copy, conversions, and all operations. The concrete evaluator: every operation is sound. -/
import Derived.Test.YtkgiopdkhhinoaaGreatDoorZc
import Derived.Deep.AppendSrc
import Derived.Laws.AppendOwn
set_option linter.all false
namespace Go.Z
open Go.Eng (TI TD DV DRep DRows DCells Snap nth upd slice' splice TabOk tiOk tdOk TFacts)
section
variable {P : Program} {E : Env} {S : Snap} {w0 : World} {β : Nat -> Loc} {n : Nat} {M : Tri ZO} {w : World}
theorem toZ_cells : ∀ {r : List DV} {vs : List Value}, DCells S r vs -> VRels S β n (r.map DV.toZV) vs
  | [], vs, h => by rw [DCells] at h; subst h; simp [VRels]
  | x :: r, vs, h => by
    rw [DCells] at h; obtain ⟨v, us, rfl, h1, h2⟩ := h; rw [List.map_cons, VRels]; refine ⟨v, us, rfl, ?_, toZ_cells h2⟩; cases x <;> rw [DRep] at h1 <;> simp only [DV.toZV]
    . rw [VRel]; exact h1
    . rw [VRel]; exact h1
    . rw [zofS, VRel, zbytes_ofS]; exact h1
    . rw [VRel, DRep]; exact h1
    . rw [VRel]; exact h1.1
theorem toZ_rows {sz : Nat} : ∀ {l : List (List DV)} {vs : List Value}, DRows S sz l vs -> VRels S β n (l.flatMap fun r => r.map DV.toZV) vs /\ vs.length = l.length * sz
  | [], vs, h => by rw [DRows] at h; subst h; simp [VRels]
  | r :: l, vs, h => by
    have hl := Go.Eng.DRows_length h; rw [DRows] at h; obtain ⟨a, b, rfl, h0, h2, h3⟩ := h; exact ⟨by rw [List.flatMap_cons]; exact VRels_append (toZ_cells h2) (toZ_rows h3).1, hl⟩
theorem zread_sound (m : ZMem S w0 β n M w) {j T lo h : Nat} {d : Tri ZV} (hr : zread (M.get j) = some (T, lo, h, d)) : ∃ ob cur fr, M.get j = some ob /\ w.heap[(β j).b]? = some (.cells cur T fr) /\ CRel S β n (β j) lo h d cur := by
  unfold zread at hr; split at hr
  . rename_i hM
    cases hr; obtain ⟨_, _, cur, g1, g2⟩ := m.key j _ hM; exact ⟨_, cur, _, hM, g1, g2⟩
  . rename_i hM
    cases hr; obtain ⟨_, _, cur, fr, g1, g2⟩ := m.key j _ hM; exact ⟨_, cur, _, hM, g1, g2⟩
  . cases hr
theorem zbytesL_eq (l s : Nat) : ∀ (k : Nat) (acc : List ZV), k <= l -> zbytesL l s k acc = ((List.range k).map fun i => ZV.int .u8 (.ofNat (zbyte l s i))) ++ acc
  | 0, acc, _ => by simp [zbytesL]
  | k + 1, acc, h => by rw [zbytesL, zbytesL_eq l s k _ (by omega), List.range_succ]; simp
theorem zsrc_sound (m : ZMem S w0 β n M w) {sz : Nat} {x : ZV} {xv : Value} {tx : TypeId} {k : Nat} {l : List ZV} (hsz : 0 < sz) (hx : VRel S β n x xv) (h : zsrc sz x M = some (k, l))
    (ht : (∃ e', P.underlying tx = some (.slice e')) \/ (P.underlying tx = some .string)) : ∃ vs, Src P sz tx xv k vs w /\ VRels S β n l vs /\ (zisStr x = false -> ∀ q, q <= k -> (Builtin.firstCells sz q xv).run P w = .ok (vs.take (q * sz)).toArray w) := by
  have ofs : ∀ {a : Addr} {c : Nat} {vs : List Value}, xv = .slice (some a) k c -> vs.length = k * sz -> (∀ j u, vs[j]? = some u -> w.cell? (a.add j) = some u) -> (∀ u ∈ vs, u.oneCell' = true) -> VRels S β n l vs ->
      ∃ vs, Src P sz tx xv k vs w /\ VRels S β n l vs /\ (zisStr x = false -> ∀ q, q <= k -> (Builtin.firstCells sz q xv).run P w = .ok (vs.take (q * sz)).toArray w) := by
    intro a c vs hxv h1 h2 h3 h4; subst hxv; refine ⟨vs, ⟨ht, fun _ => rfl, run_firstCells_some w sz k a k c vs h1 h2, run_firstCells_some w.drew sz k a k c vs h1 (by simpa using h2), h1, h3⟩, h4, fun _ q hq => ?_⟩
    have hle : q * sz <= k * sz := Nat.mul_le_mul_right _ hq; refine run_firstCells_some w sz q a k c _ (by rw [List.length_take]; omega) ?_
    intro j u hu; rw [List.getElem?_take] at hu; split at hu
    . exact h2 j u hu
    . cases hu
  unfold zsrc at h; split at h
  . cases h; rw [VRel] at hx; subst hx; refine ⟨[], ⟨ht, fun _ => rfl, run_firstCells_none w sz 0 0 0, run_firstCells_none w.drew sz 0 0 0, by simp, by simp⟩, by simp [VRels], fun _ q hq => ?_⟩
    have : q = 0 := by omega
    subst this; simp [run_firstCells_none]
  . rename_i sz' j o q c
    rw [VRel] at hx; obtain ⟨hj, hs0, p, cap, hxv, g1, g2, g3⟩ := hx; split at h
    . rename_i T lo hh d hs hr
      have hs := beq_true hs; subst hs; obtain ⟨ob, cur, fr, hM, f1, f2⟩ := zread_sound m hr; split at h
      . rename_i l' h1 h2 h3
        cases h; have h1 := ble_true h1; have h2 := ble_true h2; obtain ⟨q', e1, e2, vs, v1, v2, v3, v4⟩ := f2.cells h1 h2 h3; refine ofs hxv v1 ?_ v4 v2; intro i u hu; rw [Addr.add_mid, cell_of_row w _ _ cur T fr f1]
        have hne : k * sz ≠ 0 := by
          intro e; rw [e] at v1; have : vs = [] := List.eq_nil_of_length_eq_zero v1; rw [this] at hu; simp at hu
        have hk : 0 < k := Nat.pos_of_ne_zero fun e => hne (by rw [e, Nat.zero_mul])
        rcases e1 with e1 | e1
        . exact absurd e1 hne
        . have := g2 (by omega)
          rw [show p = q' by omega]
          exact v3 i u hu
      . cases h
    . split at h
      . cases h; exact ofs (vs := []) hxv (by simp) (by simp) (by simp) (by simp [VRels])
      . cases h
  . rename_i sz' r
    split at h
    . rename_i hs
      have hs := beq_true hs; subst hs; cases h; rw [VRel, DRep] at hx; rcases hx with ⟨rfl, a, c, hxv, ha⟩ | ⟨b, off, cap, c, T', fr, hxv, e2, e3, e4⟩
      . cases a with
        | none =>
          have := ha rfl; subst this; subst hxv; refine ⟨[], ⟨ht, fun _ => rfl, run_firstCells_none w sz 0 0 0, run_firstCells_none w.drew sz 0 0 0, by simp, by simp⟩, by simp [VRels], fun _ q hq => ?_⟩
          have : q = 0 := by simpa using hq
          subst this; simp [run_firstCells_none]
        | some a => exact ofs (vs := []) hxv (by simp) (by simp) (by simp) (by simp [VRels])
      . have hw := m.snap b _ e3; obtain ⟨g1, g2⟩ := toZ_rows (β := β) (n := n) e4; refine ofs hxv g2 ?_ (Go.Eng.DRows_one e4) g1; intro i u hu; rw [Addr.add_mid, cell_of_row w _ _ c T' fr hw]; rw [List.getElem?_take, List.getElem?_drop] at hu; split at hu
        . rw [<- Array.getElem?_toList]; exact hu
        . cases hu
    . cases h
  . rename_i l' s
    split at h
    . rename_i hs
      have hs := beq_true hs; subst hs; cases h; rw [VRel] at hx; subst hx; have hlen := zbytes_size k s; refine ⟨byteCells (zbytes k s), ?_, ?_, fun h => by simp [zisStr] at h⟩
      . have e1 := firstCells_string (P := P) (zbytes k s) w; have e2 := firstCells_string (P := P) (zbytes k s) w.drew; rw [hlen] at e1 e2
        exact ⟨ht, fun w' => (by show Result.ok (zbytes k s).size w' = _; rw [hlen]), e1, e2, by rw [byteCells_length, hlen, Nat.mul_one], fun u hu => by
          obtain ⟨_, _, rfl⟩ := List.mem_map.1 hu; rfl⟩
      . rw [zbytesL_eq _ _ _ _ (Nat.le_refl _), List.append_nil]; unfold byteCells; rw [zbytes_list, List.map_map]; refine VRels_map (f := fun i => ZV.int .u8 (.ofNat (zbyte k s i))) (g := (fun b : UInt8 => Value.int .u8 b.toNat) ∘ fun i => UInt8.ofNat (zbyte k s i)) (fun i => ?_) _
        rw [VRel]; simp only [Function.comp, UInt8.toNat_ofNat']; rw [Nat.mod_eq_of_lt (zbyte_lt k s i)]; rfl
    . cases h
  . cases h
theorem grown_rel {L : Loc} {o k sz q : Nat} {d : Tri ZV} {l : List ZV} {olds news zs : List Value} {b : Nat} (ho : olds.length = k * sz) (hold : ∀ i z, o <= i -> i < o + k * sz -> d.get i = some z -> ∃ v, olds[i - o]? = some v /\ VRel S β n z v /\ v.oneCell' = true)
    (hn : VRels S β n l news) (h1 : ∀ u ∈ news, u.oneCell' = true) (hl : l.length = q) (hL : L = ⟨b, -(o : Int), (olds ++ news ++ zs).length, true⟩) :
    CRel S β n L o (o + (k * sz + q)) (putGo l (o + k * sz) d) (olds ++ news ++ zs).toArray := by
  subst hL; have hnl := VRels_length hn; refine ⟨by simp, by show 0 <= -(o : Int) + (o : Int); omega, by show -(o : Int) + ((o + (k * sz + q) : Nat) : Int) <= ((olds ++ news ++ zs).length : Nat); simp; omega, ?_⟩
  intro i hi1 hi2 z hz; rw [putGo_get] at hz; have e : (-(o : Int) + (i : Int)).toNat = i - o := by omega
  simp only [e, List.getElem?_toArray]; by_cases hin : o + k * sz <= i /\ i < o + k * sz + l.length
  . rw [if_pos hin] at hz; obtain ⟨u, g1, g2⟩ := VRels_get (i - (o + k * sz)) hn hz; refine ⟨u, ?_, g2, h1 u (List.mem_of_getElem? g1)⟩; rw [List.append_assoc, List.getElem?_append_right (by omega), List.getElem?_append_left (by omega), ho, show i - o - k * sz = i - (o + k * sz) by omega]
    exact g1
  . rw [if_neg hin] at hz; obtain ⟨v, g1, g2, g3⟩ := hold i z hi1 (by omega) hz
    refine ⟨v, ?_, g2, g3⟩; rw [List.append_assoc, List.getElem?_append_left (by omega)]
    exact g1
theorem zappendTo_sound (m : ZMem S w0 β n M w) {T U ty e : TypeId} {ie : TypeInfo} {ze : Value} {i : TI} (hu : P.underlying T = some (.slice e)) (hie : P.info? e = some ie) (hse : ie.size = i.size) (hz : ie.zero = some ze) (hzs : ze.cells.size = i.size) (hb : ie.bytes <= 1000) (hp : 0 < i.size)
    {s : ZV} {sv xv : Value} {k : Nat} {l : List ZV} {news : List Value} (hs : VRel S β n s sv) (src : Src P i.size U xv k news w) (hl : VRels S β n l news) :
    Gv P S w0 β n M w (zappendTo e i s k l) (Builtin.append_ #[T, U] ty #[sv, xv]) := by
  have hll : l.length = k * i.size := by rw [<- VRels_length hl]; exact src.newsLen
  have src' : Src P ie.size U xv k news w := by rw [hse]; exact src
  have grow : ∀ {base : Option Addr} {sLen sCap : Nat} {olds : List Value}, sv = .slice base sLen sCap -> sCap < sLen + k -> sLen <= 1000000 -> k <= 1000000 -> olds.length = sLen * i.size -> (Builtin.firstCells i.size sLen (.slice base sLen sCap)).run P w.drew = .ok olds.toArray w.drew ->
      ∃ (c : Nat) (zs : List Value), sLen + k <= c /\ (olds ++ news ++ zs).length = c * i.size /\ (Builtin.append_ #[T, U] ty #[sv, xv]).run P w = .ok (.slice (some ⟨w.heap.size, 0, none⟩) (sLen + k) c) (w.drew.alloc (.cells (olds ++ news ++ zs).toArray e)) := by
    intro base sLen sCap olds hsv h1 h2 h3 h4 h5; subst hsv
    have hbb : (sLen + k) * ie.bytes <= 140737488355328 := by
      have : (sLen + k) * ie.bytes <= 2000000 * 1000 := Nat.mul_le_mul (by omega) hb
      omega
    have hr := run_append_grow_src (P := P) w T U ty e ie ze hu hie hz base sLen sCap olds (by rw [hse]; exact h5) xv k news src' h1 (by omega) (growslice_fits h1 hbb)
    have hge := grownCap_ge w (sLen + k) sCap e; refine ⟨grownCap w (sLen + k) sCap e, (Builtin.zeroCells ze.cells (grownCap w (sLen + k) sCap e - (sLen + k))).toList, hge, ?_, ?_⟩
    . simp only [List.length_append, h4, src.newsLen, Array.length_toList, size_zeroCells, hzs, <- Nat.add_mul]; congr 1; omega
    . rw [hr]; congr 3; apply Array.ext'; simp
  have fresh : ∀ {o sLen c : Nat} {d : Tri ZV} {olds zs : List Value} {M1 : Tri ZO} {T' : Nat}, T' = e -> (∀ j o', j ≠ n -> M1.get j = some o' -> M.get j = some o') -> 0 < sLen + k -> sLen + k <= c -> (olds ++ news ++ zs).length = c * i.size -> olds.length = sLen * i.size ->
      (∀ q z, o <= q -> q < o + sLen * i.size -> d.get q = some z -> ∃ v, olds[q - o]? = some v /\ VRel S β n z v /\ v.oneCell' = true) ->
      (Builtin.append_ #[T, U] ty #[sv, xv]).run P w = .ok (.slice (some ⟨w.heap.size, 0, none⟩) (sLen + k) c) (w.drew.alloc (.cells (olds ++ news ++ zs).toArray e)) ->
      ∃ v' w' β', (Builtin.append_ #[T, U] ty #[sv, xv]).run P w = .ok v' w' /\ VRel S β' (n + 1) (.sl i.size n o (sLen + k) none) v' /\ ZPost S w0 β n M w β' (n + 1) (M1.set n (some (.cells T' o (o + (sLen + k) * i.size) (putGo l (o + sLen * i.size) d)))) w' := by
    intro o sLen c d olds zs M1 T' hT hM1 hpos hc hlen hol hold hrun; subst hT; obtain ⟨L, hL⟩ : ∃ L : Loc, L = ⟨w.heap.size, -(o : Int), (olds ++ news ++ zs).length, true⟩ := ⟨_, rfl⟩; have hLb : L.b = w.heap.size := by rw [hL]
    refine ⟨_, _, ext β n L, hrun, ?_, ?_⟩
    . rw [VRel, ext_same]; refine ⟨⟨by omega, by rw [ext_same, hL]⟩, hp, 0, c, by rw [hLb], hc, fun _ => by rw [hL]; show ((0 : Nat) : Int) = -(o : Int) + (o : Int); omega, ?_⟩
      rw [hL]; show -(o : Int) + (o : Int) + ((c * i.size : Nat) : Int) = ((olds ++ news ++ zs).length : Nat); rw [hlen]; omega
    . have hsz : (w.drew.alloc (.cells (olds ++ news ++ zs).toArray T')).heap.size = w.heap.size + 1 := by simp
      refine ZPost.one m n _ (by rw [Tri.get_set, if_pos rfl]) ?_ (fun j hj => ext_lt hj) (by omega) ⟨by omega, by rw [ext_same, hL]⟩ ?_ (by rw [ext_same, hL]; intro _ _ _ e; cases e; rfl) (by rw [ext_same, hLb, hsz]; omega) rfl rfl rfl (by rw [hsz]; omega) ?_ (.inl (by rw [ext_same, hLb]; exact Nat.le_refl _))
      . intro j hj o' h; rw [Tri.get_set, if_neg (fun e => hj e.symm)] at h
        exact hM1 j o' hj h
      . rw [ext_same]; refine ⟨_, by rw [hLb]; exact heap_alloc_new w.drew _, ?_⟩
        have := grown_rel (S := S) (β := ext β n L) (n := n + 1) (L := L) (o := o) (k := sLen) (sz := i.size) (d := d) (l := l) (q := k * i.size) (b := w.heap.size) (zs := zs) hol (fun q z h1 h2 h3 => by
          obtain ⟨v, g1, g2, g3⟩ := hold q z h1 h2 h3; exact ⟨v, g1, VRel_mono (fun j hj => ext_lt hj.1) (by omega) _ _ g2, g3⟩) (VRels_mono (fun j hj => ext_lt hj.1) (by omega) _ _ hl) src.one hll hL
        rw [<- Nat.add_mul] at this; exact this
      . intro b hb _; exact Go.RowKit.Below.heap_alloc w.drew _ b hb
  have zero : ∀ {base : Option Addr} {sLen sCap : Nat}, k = 0 -> sv = .slice base sLen sCap -> sLen <= sCap -> (Builtin.append_ #[T, U] ty #[sv, xv]).run P w = .ok sv w := by
    intro base sLen sCap h0 hsv hle; subst hsv h0; have hn0 : news = [] := List.eq_nil_of_length_eq_zero (by rw [src.newsLen]; simp)
    subst hn0; have hc := src'.cells; rcases src.kind with ⟨e', hk⟩ | hk <;> cases base <;> simp [Builtin.append_, run_underlying hu, run_underlying hk, sizeOf, typeInfo, hie, src.len, hle, hc, storeCells]
  have room : ∀ {b off sLen sCap : Nat} {cur : Array Value} {T0 : TypeId}, sv = .slice (some ⟨b, off, none⟩) sLen sCap -> sLen + k <= sCap -> w.heap[b]? = some (.cells cur T0 (0, 0)) -> off + (sLen + k) * i.size <= cur.size ->
      (Builtin.append_ #[T, U] ty #[sv, xv]).run P w = .ok (.slice (some ⟨b, off, none⟩) (sLen + k) sCap) (w.setRow b (splice cur.toList (off + sLen * i.size) news).toArray) := by
    intro b off sLen sCap cur T0 hsv hle hg hfit; subst hsv; rw [Nat.add_mul] at hfit; have hst := run_storeCells_at P b (off + sLen * i.size) T0 news 0 cur w hg (by rw [src.newsLen]; omega) src.one
    rw [Nat.add_zero, <- Go.Eng.splice_eq _ _ _ (by rw [src.newsLen, Array.length_toList (xs := cur)]; omega)] at hst
    have hc := src.cells; rcases src.kind with ⟨e', hk⟩ | hk <;> simp [Builtin.append_, run_underlying hu, run_underlying hk, sizeOf, typeInfo, hie, hse, src.len, hle, hc, Addr.add_lit, hst]
  intro v M' n' hv; unfold zappendTo at hv; split at hv
  . split at hv
    . cases hv; rw [VRel] at hs; exact ⟨sv, w, β, zero rfl hs (Nat.le_refl _), by rw [VRel]; exact hs, .refl m⟩
    . cases hv; have hs' := hs; rw [VRel] at hs'; obtain ⟨_, _, _, _, h1, h2, _⟩ := hs'; exact ⟨sv, w, β, zero rfl h1 h2, hs, .refl m⟩
    . cases hv; have hs' := hs; rw [VRel, DRep] at hs'; rcases hs' with ⟨_, a, c, h1, _⟩ | ⟨_, _, _, _, _, _, h1, h2, _⟩
      . exact ⟨sv, w, β, zero rfl h1 (Nat.zero_le _), hs, .refl m⟩
      . exact ⟨sv, w, β, zero rfl h1 h2, hs, .refl m⟩
    . cases hv
  . rename_i k'
    split at hv
    . cases hv
    . rename_i hk
      have hk := ble_true hk; have hll : l.length = (k' + 1) * i.size := hll; have hnl0 : news.length = (k' + 1) * i.size := src.newsLen; split at hv
      . -- onto nil
        rw [VRel] at hs; subst hs; obtain ⟨c, zs, g1, g2, g3⟩ := grow (olds := []) rfl (by omega) (by omega) hk (by simp) (run_firstCells_none w.drew _ 0 0 0)
        obtain ⟨v', w', β', f1, f2, f3⟩ := fresh (o := 0) (sLen := 0) (d := .e) (M1 := M) rfl (fun _ _ _ h => h) (by omega) g1 g2 (by simp) (fun q z _ h _ => by omega) g3
        cases hv; refine ⟨v', w', β', f1, by simpa using f2, ?_⟩
        simp only [Nat.zero_add, Nat.zero_mul] at f3; rw [hll]; exact f3
      . rename_i sz j o q c
        rw [VRel] at hs; obtain ⟨hj, hs0, p, cap, hsv, g1, g2, g3⟩ := hs
        have olds : ∀ {T0 lo h : Nat} {d : Tri ZV} {cur : Array Value} {fr : Nat × Nat}, sz = i.size -> w.heap[(β j).b]? = some (.cells cur T0 fr) -> CRel S β n (β j) lo h d cur -> lo <= o -> o + q * sz <= h ->
            ∃ olds : List Value, olds.length = q * i.size /\ (Builtin.firstCells i.size q (.slice (some ⟨(β j).b, p, none⟩) q cap)).run P w.drew = .ok olds.toArray w.drew /\
              ∀ r z, o <= r -> r < o + q * i.size -> d.get r = some z -> ∃ v, olds[r - o]? = some v /\ VRel S β n z v /\ v.oneCell' = true := by
          intro T0 lo h d cur fr hsz hw hc h1 h2; subst hsz; obtain ⟨r1, r2, r3, r4⟩ := hc; by_cases hq0 : q = 0
          . subst hq0; refine ⟨[], by simp, ?_, fun r z h1 h2 => by omega⟩
            have := run_firstCells_some (P := P) w.drew i.size 0 ⟨(β j).b, p, none⟩ 0 cap [] (by simp) (by simp)
            exact this
          . have hpo := g2 (by omega)
            have hle : p + q * i.size <= cur.size := by omega
            refine ⟨(cur.toList.drop p).take (q * i.size), by simp; omega, ?_, ?_⟩
            . refine run_firstCells_some (P := P) w.drew i.size q ⟨(β j).b, p, none⟩ q cap _ (by simp; omega) ?_
              intro a u hu; rw [Addr.add_mid]; rw [List.getElem?_take, List.getElem?_drop] at hu; split at hu
              . have : w.cell? ⟨(β j).b, p + a, none⟩ = some u := by
                  rw [cell_of_row w _ _ cur T0 fr hw, <- Array.getElem?_toList]; exact hu
                simpa using this
              . cases hu
            . intro r z hr1 hr2 hz; obtain ⟨v, f1, f2, f3⟩ := r4 r (by omega) (by omega) z hz
              refine ⟨v, ?_, f2, f3⟩; rw [List.getElem?_take, if_pos (by omega), List.getElem?_drop, Array.getElem?_toList, show p + (r - o) = ((β j).o + (r : Int)).toNat by omega]
              exact f1
        have place : ∀ {T' lo h : Nat} {d : Tri ZV}, sz = i.size -> q + (k' + 1) <= cap -> M.get j = some (.cells T' lo h d) -> lo <= o -> o + (q + (k' + 1)) * sz <= h ->
            ∃ w', (Builtin.append_ #[T, U] ty #[sv, xv]).run P w = .ok (.slice (some ⟨(β j).b, p, none⟩) (q + (k' + 1)) cap) w' /\ ZPost S w0 β n M w β n (M.set j (some (.cells T' lo h (putGo l (o + q * sz) d)))) w' := by
          intro T' lo h d hsz hcap hM h1 h2; obtain ⟨_, _, cur, f1, f2⟩ := m.key j _ hM; have hpo := g2 (by omega)
          have f2' := f2; obtain ⟨r1, r2, r3, r4⟩ := f2; subst hsz; have hrun := room hsv hcap f1 (by show p + (q + (k' + 1)) * i.size <= cur.size; omega)
          refine ⟨_, hrun, ZPost.put m hM rfl ?_ (fun _ _ _ e => by cases e; exact ⟨_, _, _, rfl⟩) rfl rfl rfl (by simp) fun b _ hne => setRow_other w _ b _ hne⟩
          refine ⟨_, setRow_heap w _ cur _ T' (0, 0) f1, f2'.put (q := p + q * i.size) (.inr (by push_cast; omega)) (by omega) ?_ hl src.one⟩
          rw [hll]; rw [Nat.add_mul] at h2; omega
        split at hv
        . rename_i c' hsz hq
          have hsz := beq_true hsz; have hq := ble_true hq; simp only at g3; subst g3; split at hv
          . rename_i hfit
            have hfit := ble_true hfit; split at hv
            . rename_i T' lo h d hM
              split at hv
              . rename_i h1 h2
                have h1 := ble_true h1; have h2 := ble_true h2; cases hv; obtain ⟨w', e1, e2⟩ := place hsz hfit hM h1 h2; exact ⟨_, w', β, e1, by rw [VRel]; exact ⟨hj, hs0, p, cap, rfl, hfit, g2, rfl⟩, e2⟩
              . cases hv
            . cases hv
          . rename_i hfit
            have hfit : cap < q + (k' + 1) := by
              rw [ble_iff] at hfit; simpa using hfit
            split at hv
            . obtain ⟨cc, zs, e1, e2, e3⟩ := grow (olds := []) hsv hfit (by omega) hk (by simp) (by
                have := run_firstCells_some (P := P) w.drew i.size 0 ⟨(β j).b, p, none⟩ 0 cap [] (by simp) (by simp)
                exact this)
              obtain ⟨v', w', β', f1, f2, f3⟩ := fresh (o := 0) (sLen := 0) (d := .e) (M1 := M) rfl (fun _ _ _ h => h) (by omega) e1 e2 (by simp) (fun q z _ h _ => by omega) e3
              cases hv; refine ⟨v', w', β', f1, by rw [hsz]; simpa using f2, ?_⟩
              simp only [Nat.zero_add, Nat.zero_mul] at f3; rw [hll]; exact f3
            . rename_i q'
              split at hv
              . rename_i T' lo h d hr
                obtain ⟨ob, cur, fr, hM, f1, f2⟩ := zread_sound m hr; split at hv
                . rename_i h1 h2
                  have h1 := ble_true h1; have h2 := ble_true h2; obtain ⟨ol, o1, o2, o3⟩ := olds hsz f1 f2 h1 h2; obtain ⟨cc, zs, e1, e2, e3⟩ := grow hsv hfit hq hk o1 o2; obtain ⟨v', w', β', q1, q2, q3⟩ := fresh (o := o) (d := d) (M1 := M) rfl (fun _ _ _ h => h) (by omega) e1 e2 o1 o3 e3
                  cases hv; subst hsz; exact ⟨v', w', β', q1, q2, q3⟩
                . cases hv
              . cases hv
        . rename_i hsz hq
          have hsz := beq_true hsz; have hq := ble_true hq; simp only at g3; split at hv
          . rename_i T' lo h d hM
            obtain ⟨_, _, cur, f1, f2⟩ := m.key j _ hM; split at hv
            . rename_i h12 h3
              simp only [Bool.and_eq_true] at h12; have h1 := ble_true h12.1; have h2 := beq_true h12.2; have h3 := beq_true h3; cases hv; subst hsz h2; obtain ⟨r1, r2, r3, r4⟩ := f2; by_cases hroom : q + (k' + 1) <= cap
              . -- in place: the key goes over
                have hpo := g2 (by omega)
                have hcur : p + (q + (k' + 1)) * i.size <= cur.size := by
                  have : (q + (k' + 1)) * i.size <= cap * i.size := Nat.mul_le_mul_right _ hroom; omega
                have hrun := room hsv hroom f1 hcur; have hb : (ext β n (β j) n).b = (β j).b := by rw [ext_same]
                refine ⟨_, _, ext β n (β j), hrun, ?_, ?_⟩
                . rw [VRel, ext_same]; exact ⟨⟨by omega, by rw [ext_same]; exact (m.key j _ hM).1.2⟩, hs0, p, cap, rfl, hroom, fun _ => hpo, g3⟩
                . have hlt : (β j).b < w.heap.size := (Array.getElem?_eq_some_iff.1 f1).1
                  have hlow : ∀ T0 h0 d0, (ZO.cells T' o (o + (q + (k' + 1)) * i.size) (putGo l h d)) = .cells T0 0 h0 d0 -> (ext β n (β j) n).o = 0 := by
                    intro _ _ _ e; rw [ext_same]; have ho0 : o = 0 := by injection e
                    have : lo = 0 := by omega
                    subst this; exact m.low j _ _ _ hM
                  refine ZPost.one m n _ (by rw [Tri.get_set, if_pos rfl]) ?_ (fun j hj => ext_lt hj) (by omega) ⟨by omega, by rw [ext_same]; exact (m.key j _ hM).1.2⟩ ?_ hlow (by rw [hb]; simpa using hlt) rfl rfl rfl (by simp) ?_ (.inr ⟨j, _, hM, rfl, by rw [hb], fun hne => ?_⟩)
                  . intro a ha o' h; rw [Tri.get_set, if_neg (fun e => ha e.symm), Tri.get_set] at h
                    split at h
                    . cases h
                    . exact h
                  . rw [ext_same]; refine ⟨_, setRow_heap w _ cur _ T' (0, 0) f1, ?_⟩; refine ⟨by simp [Go.Eng.splice_length, r1], by omega, ?_, ?_⟩
                    . rw [r1] at hcur; show (β j).o + ((o + (q + (k' + 1)) * i.size : Nat) : Int) <= (β j).e; generalize (q + (k' + 1)) * i.size = X at hcur ⊢; omega
                    . intro a ha1 ha2 z hz; rw [putGo_get] at hz
                      have hfit2 : p + q * i.size + news.length <= cur.toList.length := by
                        rw [Array.length_toList (xs := cur), hnl0]; rw [Nat.add_mul] at hcur; omega
                      rw [Go.Eng.splice_eq _ _ _ hfit2]; have hnl := VRels_length hl; by_cases hin : h <= a /\ a < h + l.length
                      . rw [if_pos hin] at hz; obtain ⟨u, t1, t2⟩ := VRels_get (a - h) hl hz; refine ⟨u, ?_, VRel_mono (fun j hj => ext_lt hj.1) (by omega) _ _ t2, src.one u (List.mem_of_getElem? t1)⟩
                        have e : ((β j).o + (a : Int)).toNat = p + q * i.size + (a - h) := by omega
                        rw [e]; simp only [List.getElem?_toArray]; rw [List.append_assoc, List.getElem?_append_right (by simp; omega), List.getElem?_append_left (by simp; omega)]
                        rw [show p + q * i.size + (a - h) - (List.take (p + q * i.size) cur.toList).length = a - h by simp; omega]
                        exact t1
                      . rw [if_neg hin] at hz; rw [hll] at hin; rw [Nat.add_mul] at ha2; obtain ⟨u, t1, t2, t3⟩ := r4 a (by omega) (by omega) z hz
                        refine ⟨u, ?_, VRel_mono (fun j hj => ext_lt hj.1) (by omega) _ _ t2, t3⟩
                        simp only [List.getElem?_toArray]; rw [List.append_assoc, List.getElem?_append_left (by simp; omega), List.getElem?_take, if_pos (by omega), Array.getElem?_toList]
                        exact t1
                  . intro b hb' hne; rw [hb] at hne; exact setRow_other w _ b _ hne
                  . rw [Tri.get_set, if_neg (fun e => hne e.symm), Tri.get_set, if_pos rfl]
              . -- a new row
                obtain ⟨ol, o1, o2, o3⟩ := olds rfl f1 ⟨r1, r2, r3, r4⟩ h1 (by omega)
                obtain ⟨cc, zs, e1, e2, e3⟩ := grow hsv (by omega) hq hk o1 o2
                obtain ⟨v', w', β', q1, q2, q3⟩ := fresh (o := o) (sLen := q) (d := d) (M1 := M.set j none) rfl (fun a o' _ h => by
                  rw [Tri.get_set] at h; split at h
                  . cases h
                  . exact h) (by omega) e1 e2 o1 o3 e3
                rw [h3] at q3; exact ⟨v', w', β', q1, q2, q3⟩
            . rename_i h12 h3 h4
              simp only [Bool.and_eq_true] at h12; have h1 := ble_true h12.1; have h4 := ble_true h4; cases hv; obtain ⟨r1, r2, r3, r4⟩ := f2
              have hcap : q + (k' + 1) <= cap := by
                have : ((q + (k' + 1)) * sz : Nat) <= cap * sz := by
                  have := h4; push_cast at g3 r3
                  omega
                exact Nat.le_of_mul_le_mul_right this hs0
              obtain ⟨w', e1, e2⟩ := place hsz hcap hM h1 h4; exact ⟨_, w', β, e1, by rw [VRel]; exact ⟨hj, hs0, p, cap, rfl, hcap, g2, g3⟩, e2⟩
            . cases hv
          . cases hv
        . cases hv
      . cases hv
end
end Go.Z
namespace Go.Z
open Go.Eng (TI TD DV DRep DRows DCells Snap nth upd slice' splice TabOk tiOk tdOk TFacts)
section
variable {P : Program} {E : Env} {S : Snap} {w0 : World} {β : Nat -> Loc} {n : Nat} {M : Tri ZO} {w : World}
theorem ZPost.write (m : ZMem S w0 β n M w) {j T lo h o p : Nat} {d : Tri ZV} {l : List ZV} {vs : List Value} (hM : M.get j = some (.cells T lo h d)) (h1 : lo <= o) (h2 : o + l.length <= h) (hp : l = [] \/ (p : Int) = (β j).o + o) (hv : VRels S β n l vs) (h3 : ∀ v ∈ vs, v.oneCell' = true) :
    ∃ cur, w.heap[(β j).b]? = some (.cells cur T (0, 0)) /\ (l = [] \/ p + vs.length <= cur.size) /\ ZPost S w0 β n M w β n (M.set j (some (.cells T lo h (putGo l o d)))) (w.setRow (β j).b (splice cur.toList p vs).toArray) := by
  obtain ⟨_, _, cur, f1, f2⟩ := m.key j _ hM; have hl := VRels_length hv; refine ⟨cur, f1, ?_, ?_⟩
  . rcases hp with hp | hp
    . exact .inl hp
    . have := f2.1; have := f2.2.2.1; exact .inr (by omega)
  . refine ZPost.put m hM rfl ?_ (fun _ _ _ e => by cases e; exact ⟨_, _, _, rfl⟩) rfl rfl rfl (by simp) fun b _ hne => setRow_other w _ b _ hne
    exact ⟨_, setRow_heap w _ cur _ T (0, 0) f1, f2.put hp h1 h2 hv h3⟩
theorem zcopy_sound (ok : EnvOk P E) (m : ZMem S w0 β n M w) {T U ty : TypeId} {d x : ZV} {dv xv : Value} (hd : VRel S β n d dv) (hx : VRel S β n x xv) (hu : zisStr x = false -> True) :
    Gv P S w0 β n M w (zcopy E T d x) (Builtin.copy_ #[T, U] ty #[dv, xv]) := by
  intro v M' n' hv; unfold zcopy at hv; have hq := zelem_bad ok hv; clear hv; obtain ⟨e, hut, ⟨ie, de, ze, hie, _, hse, _⟩, hp, _, hv⟩ := hq; split at hv
  . rename_i sz j o k c q l hsrc
    split at hv
    . rename_i T' lo h cc hs hM
      simp only [Bool.and_eq_true, Bool.not_eq_true'] at hs; have hsz := beq_true hs.1; split at hv
      . rename_i h1 h2
        have h1 := ble_true h1; have h2 := ble_true h2; cases hv; subst hsz; obtain ⟨vs, src, g1, g2⟩ := zsrc_sound (tx := T) m hp hx hsrc (.inl ⟨e, hut⟩); rw [VRel] at hd; obtain ⟨hj, hs0, p, cap, rfl, f1, f2, f3⟩ := hd; have hle : Nat.min q k <= q := Nat.min_le_left _ _; have hfc := g2 hs.2 (Nat.min q k) hle; have hmk : Nat.min q k * (E.tab e).size <= q * (E.tab e).size := Nat.mul_le_mul_right _ hle; have hmk2 : Nat.min q k * (E.tab e).size <= k * (E.tab e).size := Nat.mul_le_mul_right _ (Nat.min_le_right _ _); have hvl : (vs.take (Nat.min q k * (E.tab e).size)).length = Nat.min q k * (E.tab e).size := by rw [List.length_take, src.newsLen]; omega
        have hrel : VRels S β n (l.take (Nat.min q k * (E.tab e).size)) (vs.take (Nat.min q k * (E.tab e).size)) := VRels_take _ g1; have hll : (l.take (Nat.min q k * (E.tab e).size)).length = Nat.min q k * (E.tab e).size := by rw [<- VRels_length hrel]; exact hvl
        obtain ⟨cur, r1, r2, r3⟩ := ZPost.write (p := p) (l := l.take (Nat.min q k * (E.tab e).size)) (o := o) m hM h1 (by rw [hll]; omega) (by
          by_cases hk : k = 0
          . left; subst hk; apply List.eq_nil_of_length_eq_zero; rw [hll]; simp
          . right; exact f2 (by omega)) hrel (fun u hu => src.one u (List.mem_of_mem_take hu))
        refine ⟨goInt (Nat.min q k), _, β, ?_, by rw [VRel]; rfl, r3⟩
        by_cases hz : Nat.min q k * (E.tab e).size = 0
        . have hnil : vs.take (Nat.min q k * (E.tab e).size) = [] := List.eq_nil_of_length_eq_zero (by rw [hvl]; exact hz)
          rw [hnil] at hfc r3 ⊢
          have hsame : w.setRow (β j).b (splice cur.toList p []).toArray = w := by
            simp only [splice, Array.toArray_toList]; exact setRow_self w _ cur T' (0, 0) r1
          rw [hsame]; simp [Builtin.copy_, run_underlying hut, src.len, sizeOf, typeInfo, hie, hse, hfc, storeCells]
        . have hfit : p + (vs.take (Nat.min q k * (E.tab e).size)).length <= cur.size := by
            rcases r2 with r2 | r2
            . exact absurd (by rw [<- hll, r2]; rfl) hz
            . exact r2
          have hst := run_storeCells_at P (β j).b p T' (vs.take (Nat.min q k * (E.tab e).size)) 0 cur w r1 (by simpa using hfit) (fun u hu => src.one u (List.mem_of_mem_take hu))
          rw [Nat.add_zero, <- Go.Eng.splice_eq _ _ _ (by rw [Array.length_toList (xs := cur)]; exact hfit)] at hst
          simp [Builtin.copy_, run_underlying hut, src.len, sizeOf, typeInfo, hie, hse, hfc, hst]
      . cases hv
    . cases hv
  . cases hv
theorem zbytesN_sound : ∀ {l : List ZV} {vs : List Value} {a r : Nat}, zbytesN l a = some r -> VRels S β n l vs -> ∃ ns : List Int, vs = ns.map (fun n => .int .u8 n) /\ (∀ x ∈ ns, 0 <= x /\ x < 256) /\ r = ns.foldl (fun n c => n * 256 + c.toNat) a
  | [], vs, a, r, h, hv => by
    rw [VRels] at hv; subst hv; simp only [zbytesN] at h; cases h; exact ⟨[], rfl, by simp, rfl⟩
  | z :: l, vs, a, r, h, hv => by
    rw [VRels] at hv; obtain ⟨u, us, rfl, h1, h2⟩ := hv; unfold zbytesN at h; split at h
    . rename_i heq; cases heq
    . rename_i heq
      cases heq; split at h
      . rename_i hb
        have hb := blt_true hb; rw [VRel] at h1; obtain ⟨ns, g1, g2, g3⟩ := zbytesN_sound h h2; refine ⟨_ :: ns, by rw [List.map_cons, h1, g1], ?_, by rw [List.foldl_cons]; exact g3⟩
        intro x hx; rcases List.mem_cons.1 hx with rfl | hx
        . constructor
          . simp
          . show ((_ : Nat) : Int) < 256; omega
        . exact g2 x hx
      . cases h
    . cases h
theorem zbytes_ofNs (ns : List Int) (h : ∀ x ∈ ns, 0 <= x /\ x < 256) : zbytes ns.length (ns.foldl (fun n c => n * 256 + c.toNat) 0) = ⟨(ns.map fun x => UInt8.ofNat x.toNat).toArray⟩ := by
  have e : ns.foldl (fun n c => n * 256 + c.toNat) 0 = zstrN (ns.map fun x => UInt8.ofNat x.toNat) := by
    unfold zstrN; generalize 0 = a
    induction ns generalizing a with
    | nil => rfl
    | cons x ns ih =>
      have hx := h x (by simp)
      rw [List.map_cons, List.foldl_cons, List.foldl_cons]; rw [ih (fun y hy => h y (by simp [hy]))]
      congr 2; rw [UInt8.toNat_ofNat', Nat.mod_eq_of_lt (by omega)]
  rw [e]; have := zbytes_ofS ⟨(ns.map fun x => UInt8.ofNat x.toNat).toArray⟩
  simpa [ByteArray.size] using this
theorem push_all : ∀ (ns : List Int) (r : ByteArray), ns.foldl (fun r n => r.push (UInt8.ofNat n.toNat)) r = ⟨r.data ++ (ns.map fun n => UInt8.ofNat n.toNat).toArray⟩
  | [], r => by simp
  | n :: ns, r => by rw [List.foldl_cons, push_all ns]; simp [ByteArray.push, Array.push, Array.append_assoc]
theorem zconvS (ok : EnvOk P E) (m : ZMem S w0 β n M w) {T U e : TypeId} {x : ZV} {xv : Value} (hx : VRel S β n x xv) (h1 : (E.tab T).d = .sl e) (h2 : (E.tab U).d = .str) (he : (E.tab e).d = .int .u8) :
    Gv P S w0 β n M w (zwhen (!zisStr x) fun M n => match zsrc 1 x M with
      | some (m, l) => match zbytesN l 0 with
        | some b => .ok (.str m b) M n
        | none => .bad 120
      | none => .bad 121) (convert T U xv) := by
  refine Gv.when fun hstr => ?_
  replace hstr : zisStr x = false := by simpa using hstr
  obtain ⟨d1, hu1, hd1⟩ := under_of ok h1 rfl; obtain ⟨d2, hu2, hd2⟩ := under_of ok h2 rfl; obtain ⟨d3, hu3, hd3⟩ := under_of ok he rfl; simp only [tdOk] at hd1 hd2 hd3; subst hd1 hd2 hd3; intro v M' n' hv; dsimp only at hv
  split at hv
  . rename_i q l hsrc
    split at hv
    . rename_i b hb
      cases hv; obtain ⟨vs, src, g1, g2⟩ := zsrc_sound (tx := T) m (by omega) hx hsrc (.inl ⟨e, hu1⟩)
      obtain ⟨ns, q1, q2, q3⟩ := zbytesN_sound hb g1; have hlen : ns.length = q := by have := src.newsLen; rw [q1] at this; simpa using this
      have hz := zbytes_ofNs ns q2; rw [hlen, <- q3] at hz; have hfull := g2 hstr q (Nat.le_refl _); rw [List.take_of_length_le (by rw [src.newsLen]; exact Nat.le_refl _)] at hfull
      refine ⟨.string (zbytes q b), w, β, ?_, by rw [VRel], .refl m⟩
      rw [hz]
      have hsl : (∃ c, xv = .slice none 0 c /\ q = 0) \/ ∃ a c, xv = .slice (some a) q c := by
        have hlq := src.len w; cases x <;> simp only [zsrc] at hsrc <;> try (cases hsrc; done)
        . simp [zisStr] at hstr
        . rename_i sz j o k c
          rw [VRel] at hx; obtain ⟨_, _, p, cap, rfl, _⟩ := hx
          have : k = q := by
            have h' : (Result.ok k w : Result Nat) = .ok q w := hlq; cases h'; rfl
          subst this; exact .inr ⟨_, _, rfl⟩
        . rename_i u
          rw [VRel] at hx; subst hx; split at hsrc
          . rename_i heq
            cases heq; cases hsrc; exact .inl ⟨0, rfl, rfl⟩
          . rename_i heq; cases heq
          . rename_i heq; cases heq
          . rename_i heq; cases heq
          . cases hsrc
        . rename_i sz r
          rw [VRel, DRep] at hx; rcases hx with ⟨rfl, a, c, rfl, _⟩ | ⟨b0, off, cap, c, T', fr, rfl, _⟩
          . have : 0 = q := by
              have h' : (Result.ok 0 w : Result Nat) = .ok q w := hlq; cases h'; rfl
            subst this
            cases a with
            | none => exact .inl ⟨c, rfl, rfl⟩
            | some a => exact .inr ⟨a, c, rfl⟩
          . have : r.length = q := by
              have h' : (Result.ok r.length w : Result Nat) = .ok q w := hlq; cases h'; rfl
            subst this; exact .inr ⟨_, _, rfl⟩
      rcases hsl with ⟨c, rfl, rfl⟩ | ⟨a, c, rfl⟩
      . have : ns = [] := List.eq_nil_of_length_eq_zero hlen; subst this; rw [run_convert_bytes_string w T U e none 0 c hu1 hu3 hu2]; rfl
      . rw [run_convert_bytes_string w T U e _ _ _ hu1 hu3 hu2, run_bytesToString w a q c ns ?_]
        . rw [push_all]; simp
        . rw [Builtin.firstCells] at hfull; rw [q1] at hfull; simpa using hfull
    . cases hv
  . cases hv
theorem zconv_sound (ok : EnvOk P E) (m : ZMem S w0 β n M w) {T U : TypeId} {x : ZV} {xv : Value} (hx : VRel S β n x xv) : Gv P S w0 β n M w (zconv E T U x) (convert T U xv) := by
  unfold zconv; split
  . rename_i k k' a h2
    refine Gv.when fun hb => ?_
    obtain ⟨_, d1, _, _, hu1, _⟩ := tfacts ok (T := T) (by simpa using hb)
    obtain ⟨d2, hu2, hd2⟩ := under_of ok h2 rfl; simp only [tdOk] at hd2; subst hd2; rw [VRel] at hx; subst hx; exact Gv.ret m (v := .int k (k.wrap a)) (by simp [convert, run_underlying hu1, run_underlying hu2, Conv.intToInt]) (by rw [VRel]; rfl)
  . rename_i l s h2
    refine Gv.when fun hb => ?_
    obtain ⟨_, d1, _, _, hu1, _⟩ := tfacts ok (T := T) (by simpa using hb)
    obtain ⟨d2, hu2, hd2⟩ := under_of ok h2 rfl; simp only [tdOk] at hd2; subst hd2; rw [VRel] at hx; subst hx; exact Gv.ret m (v := .string (zbytes l s)) (by simp [convert, run_underlying hu1, run_underlying hu2]) (by rw [VRel])
  . rename_i h1 h2 h3
    split
    . rename_i he
      exact zconvS ok m hx h1 h2 he
    . exact Gv.bad
  . rename_i e j o h1 h2
    refine Gv.when fun hup => Gv.when fun hb => ?_
    simp only [Bool.and_eq_true, Bool.not_eq_true'] at hb; obtain ⟨d1, hu1, hd1⟩ := under_of ok h1 rfl; simp only [tdOk] at hd1; subst hd1; have hu2 := ok.ups U hup; obtain ⟨info, _, _, hi, _, hs, _⟩ := tfacts ok hb.1; have hpos : 0 < (E.tab e).size := blt_true hb.2; rw [VRel] at hx; obtain ⟨hj, p, hp, rfl⟩ := hx; intro v M' n' hv; dsimp only at hv
    split at hv
    . rename_i T' lo q d hM
      split at hv
      . rename_i h3 h4
        have h3 := ble_true h3; have h4 := blt_true h4; cases hv; obtain ⟨_, _, cur, f1, r1, r2, r3, r4⟩ := m.key j _ hM; have hlt : ¬ cur.size <= p := by omega
        have hsz : info.size ≠ 0 := by omega
        refine ⟨_, w, β, ?_, by rw [VRel]; exact ⟨hj, p, hp, rfl⟩, .refl m⟩
        simp [convert, run_underlying hu1, run_underlying hu2, Conv.unsafePointer, Conv.seenAt, viewAt, cellsIn, World.shape?, f1, sizeOf, typeInfo, hi, hsz, hlt]
      . cases hv
    . cases hv
  . rename_i u j o h1 h2
    refine Gv.when fun hup => ?_
    obtain ⟨d2, hu2, hd2⟩ := under_of ok h2 rfl; simp only [tdOk] at hd2; subst hd2; have hu1 := ok.ups T hup; rw [VRel] at hx; obtain ⟨hj, p, hp, rfl⟩ := hx; intro v M' n' hv; dsimp only at hv
    split at hv
    . rename_i T' lo q d hM
      split at hv
      . rename_i h3 h4
        have h3 := beq_true h3; subst h3; cases hv; obtain ⟨_, _, cur, f1, r1, r2, r3, r4⟩ := m.key j _ hM; obtain ⟨l1, i, hi⟩ := ok.lies T' q o u h4; have ho : (β j).o = 0 := m.low j _ _ _ hM; have hpo : p = o := by omega
        subst hpo; have hl := l1 cur.size (by omega)
        refine ⟨_, w, β, ?_, by rw [VRel]; exact ⟨hj, p, hp, rfl⟩, .refl m⟩
        have hva : (variablesAt ⟨(β j).b, p, none⟩ u 1).run P w = .ok true w := by
          simp [variablesAt, World.shape?, f1, hl]
        simp [convert, run_underlying hu1, run_underlying hu2, Conv.unsafePointer, Conv.seenAt, viewAt, World.shape?, f1, sizeOf, typeInfo, hi, hva]
      . cases hv
    . cases hv
  . exact Gv.bad
end
end Go.Z
namespace Go.Z
open Go.Eng (TI TD DV DRep DRows DCells Snap nth upd slice' splice TabOk tiOk tdOk TFacts)
section
variable {P : Program} {E : Env} {S : Snap} {w0 : World} {β : Nat -> Loc} {n : Nat} {M : Tri ZO} {w : World}
def Out (P : Program) (S : Snap) (w0 : World) (β : Nat -> Loc) (n : Nat) (M : Tri ZO) (w : World) (r : Result Next) : ZR -> Prop
  | .ok v M' n' => ∃ v' w' β', (r = .ok (.value v') w' \/ (r = .ok .skip w' /\ v' = undef)) /\ VRel S β' n' v v' /\ ZPost S w0 β n M w β' n' M' w'
  | .call f args => ∃ vals : Array Value, r = (callFunc f vals).run P w /\ VRels S β n args vals.toList
  | .yld j args => ∃ vals : Array Value, Key β n j /\ r = (Instr.yield (β j).b vals).run P w /\ VRels S β n args vals.toList
  | .dfr f args => ∃ d : Deferred, r = .ok (.defer d) w /\ ∃ cap : Array Value, d.target = .fn (.func f) cap /\ VRels S β n args (d.args ++ cap).toList
  | .rcv => r = .ok .recover w
  | .bad _ => True
theorem out_value {F : ZF} {s : Sem Value} {r : Result Next} (h : Gv P S w0 β n M w F s) (hr : ∀ v' w', s.run P w = .ok v' w' -> r = .ok (.value v') w') (hF : (∃ v M' n', F M n = .ok v M' n') \/ ∃ k, F M n = .bad k) : Out P S w0 β n M w r (F M n) := by
  rcases hF with ⟨v, M', n', hF⟩ | ⟨k, hF⟩
  . rw [hF]; obtain ⟨v', w', β', h1, h2, h3⟩ := h v M' n' hF; exact ⟨v', w', β', .inl (hr v' w' h1), h2, h3⟩
  . rw [hF]; trivial
def Plain (F : ZF) : Prop := ∀ M n, (∃ v M' n', F M n = .ok v M' n') \/ ∃ k, F M n = .bad k
theorem Plain.ret (z : ZV) : Plain (zret z) := fun M n => .inl ⟨z, M, n, rfl⟩
theorem Plain.bad (k : Nat) : Plain (zbad k) := fun M n => .inr ⟨k, rfl⟩
theorem Plain.when {b : Bool} {k : ZF} (h : Plain k) : Plain (zwhen b k) := by
  cases b with
  | true => exact h
  | false => exact Plain.bad 1
theorem Plain.of {F : ZF} (h : ∀ M n, (∃ v M' n', F M n = .ok v M' n') \/ ∃ k, F M n = .bad k) : Plain F := h
theorem pl_new (T : Nat) (l : List ZV) (k : Nat -> ZV) : Plain (znew T l k) := fun M n => .inl ⟨_, _, _, rfl⟩
theorem pl_elem {E : Env} {T : Nat} {k : Nat -> TI -> ZF} (h : ∀ e i, Plain (k e i)) : Plain (zelem E T k) := by
  intro M n; unfold zelem; split
  . split
    . exact h _ _ M n
    . exact .inr ⟨_, rfl⟩
  . exact .inr ⟨_, rfl⟩
theorem pl_map {E : Env} {T : Nat} {k : Nat -> TI -> ZF} (h : ∀ e i, Plain (k e i)) : Plain (zmap E T k) := by
  intro M n; unfold zmap; split
  . split
    . exact h _ _ M n
    . exact .inr ⟨_, rfl⟩
  . exact .inr ⟨_, rfl⟩
theorem pl_load (i : TI) (p : ZV) : Plain (zload i p) := by
  intro M n; unfold zload; repeat' split
  all_goals first
    | exact .inl ⟨_, _, _, rfl⟩
    | exact .inr ⟨_, rfl⟩
theorem pl_store (i : TI) (p v : ZV) : Plain (zstore i p v) := by
  intro M n; unfold zstore; repeat' split
  all_goals first
    | exact .inl ⟨_, _, _, rfl⟩
    | exact .inr ⟨_, rfl⟩
theorem pl_bool (o : Option Bool) (f : Bool -> Bool) : Plain (zbool o f) := by
  unfold zbool; split <;> first | exact Plain.ret _ | exact Plain.bad _
theorem pl_eqOp (op : BinOp) (b : Option Bool) : Plain (zeqOp op b) := by
  unfold zeqOp; split <;> first | exact pl_bool _ _ | exact Plain.bad _
theorem pl_int (op : BinOp) (k : IntKind) (a b : Int) : Plain (zint op k a b) := by
  unfold zint; split <;> first | exact Plain.ret _ | exact Plain.when (Plain.ret _) | exact Plain.bad _
theorem pl_shift (op : BinOp) (k : IntKind) (a b : Int) : Plain (zshift op k a b) := by
  unfold zshift; split <;> first | exact Plain.ret _ | exact Plain.bad _
theorem pl_strOp (op : BinOp) (a b c d : Nat) : Plain (zstrOp op a b c d) := by
  unfold zstrOp; split <;> first | exact Plain.when (Plain.ret _) | exact pl_bool _ _ | exact Plain.bad _
theorem pl_bin (E : Env) (T : Nat) (op : BinOp) (cy : Bool) (x y : ZV) : Plain (zbin E T op cy x y) := by
  unfold zbin; repeat' split
  all_goals first
    | exact pl_shift _ _ _ _
    | exact pl_int _ _ _ _
    | exact pl_strOp _ _ _ _ _
    | exact pl_eqOp _ _
    | exact Plain.when (Plain.when (Plain.when (pl_eqOp _ _)))
    | exact Plain.when (pl_eqOp _ _)
    | exact Plain.bad _
theorem pl_un (op : UnOp) (v : ZV) : Plain (zun op v) := by
  unfold zun; split <;> first | exact Plain.ret _ | exact Plain.bad _
theorem pl_build (i : TI) (ps : List (Nat × ZV)) : Plain (zbuild i ps) := by
  unfold zbuild; repeat' split
  all_goals first
    | exact Plain.ret _
    | exact Plain.bad _
theorem pl_buildSlice (E : Env) (T m : Nat) (ps : List (Nat × ZV)) : Plain (zbuildSlice E T m ps) := by
  unfold zbuildSlice; refine pl_elem fun e i M n => ?_
  split <;> first | exact pl_new _ _ _ M n | exact .inr ⟨_, rfl⟩
theorem pl_makeSlice (E : Env) (T : Nat) (a b : ZV) : Plain (zmakeSlice E T a b) := by
  unfold zmakeSlice; repeat' split
  all_goals first
    | exact pl_elem fun e i => Plain.when (pl_new _ _ _)
    | exact Plain.bad _
theorem pl_slice (E : Env) (T : Nat) (v : ZV) (a b c : Option ZV) : Plain (zslice E T v a b c) := by
  unfold zslice; split
  . split
    . split <;> first | exact Plain.ret _ | exact Plain.bad _
    . refine pl_elem fun e i M n => ?_
      split <;> first | exact .inl ⟨_, _, _, rfl⟩ | exact .inr ⟨_, rfl⟩
    . refine pl_elem fun e i M n => ?_
      split <;> first | exact .inl ⟨_, _, _, rfl⟩ | exact .inr ⟨_, rfl⟩
    . refine pl_elem fun e i M n => ?_
      split <;> first | exact .inl ⟨_, _, _, rfl⟩ | exact .inr ⟨_, rfl⟩
    . exact Plain.bad _
  . exact Plain.bad _
theorem pl_fieldAddr (i : TI) (p : ZV) (f : Nat) : Plain (zfieldAddr i p f) := by
  unfold zfieldAddr; split <;> first | exact Plain.ret _ | exact Plain.bad _
theorem pl_indexAddr (E : Env) (T : Nat) (a b : ZV) : Plain (zindexAddr E T a b) := by
  unfold zindexAddr; split
  . split
    . refine pl_elem fun e i M n => ?_
      split <;> first | exact .inl ⟨_, _, _, rfl⟩ | exact .inr ⟨_, rfl⟩
    . refine pl_elem fun e i M n => ?_
      split <;> first | exact .inl ⟨_, _, _, rfl⟩ | exact .inr ⟨_, rfl⟩
    . exact Plain.bad _
  . exact Plain.bad _
theorem pl_index (i : TI) (a b : ZV) : Plain (zindex i a b) := by
  unfold zindex; split <;> first | exact Plain.when (Plain.ret _) | exact Plain.bad _
theorem pl_lookup (E : Env) (T : Nat) (a b : ZV) (c : Bool) : Plain (zlookup E T a b c) := by
  unfold zlookup; refine pl_map fun e i => Plain.when (Plain.when fun M n => ?_)
  repeat' split
  all_goals first
    | exact .inl ⟨_, _, _, rfl⟩
    | exact .inr ⟨_, rfl⟩
theorem pl_mapPut (E : Env) (T : Nat) (a b c : ZV) : Plain (zmapPut E T a b c) := by
  unfold zmapPut; refine pl_map fun e i => Plain.when fun M n => ?_
  repeat' split
  all_goals first
    | exact .inl ⟨_, _, _, rfl⟩
    | exact .inr ⟨_, rfl⟩
theorem pl_mapEntry (E : Env) (T : Nat) (a b : ZV) : Plain (zmapEntry E T a b) := by
  unfold zmapEntry; refine pl_map fun e i => Plain.when (Plain.when fun M n => ?_)
  repeat' split
  all_goals first
    | exact .inl ⟨_, _, _, rfl⟩
    | exact .inr ⟨_, rfl⟩
theorem pl_entryStore (a b c : ZV) : Plain (zentryStore a b c) := by
  intro M n; unfold zentryStore; repeat' split
  all_goals first
    | exact .inl ⟨_, _, _, rfl⟩
    | exact .inr ⟨_, rfl⟩
theorem pl_len (i : TI) (x : ZV) : Plain (zlen i x) := by
  unfold zlen
  split <;> first
    | exact Plain.ret _
    | exact Plain.bad _
    | (intro M n; dsimp only; split <;> first | exact .inl ⟨_, _, _, rfl⟩ | exact .inr ⟨_, rfl⟩)
theorem pl_appendTo (e : Nat) (i : TI) (s : ZV) (m : Nat) (l : List ZV) : Plain (zappendTo e i s m l) := by
  intro M n; unfold zappendTo; repeat' split
  all_goals first
    | exact .inl ⟨_, _, _, rfl⟩
    | exact .inr ⟨_, rfl⟩
    | exact pl_new _ _ _ M n
theorem pl_append (E : Env) (T U : Nat) (a b : ZV) : Plain (zappend E T U a b) := by
  unfold zappend; refine pl_elem fun e i M n => ?_
  split <;> first | exact pl_appendTo _ _ _ _ _ M n | exact .inr ⟨_, rfl⟩
theorem pl_copy (E : Env) (T : Nat) (a b : ZV) : Plain (zcopy E T a b) := by
  unfold zcopy; refine pl_elem fun e i M n => ?_
  repeat' split
  all_goals first
    | exact .inl ⟨_, _, _, rfl⟩
    | exact .inr ⟨_, rfl⟩
theorem pl_conv (E : Env) (T U : Nat) (a : ZV) : Plain (zconv E T U a) := by
  unfold zconv; split
  . exact Plain.when (Plain.ret _)
  . exact Plain.when (Plain.ret _)
  . split
    . refine Plain.when fun M n => ?_
      repeat' split
      all_goals first
        | exact .inl ⟨_, _, _, rfl⟩
        | exact .inr ⟨_, rfl⟩
    . exact Plain.bad _
  . refine Plain.when (Plain.when fun M n => ?_)
    repeat' split
    all_goals first
      | exact .inl ⟨_, _, _, rfl⟩
      | exact .inr ⟨_, rfl⟩
  . refine Plain.when fun M n => ?_
    repeat' split
    all_goals first
      | exact .inl ⟨_, _, _, rfl⟩
      | exact .inr ⟨_, rfl⟩
  . exact Plain.bad _
theorem zappend_sound (ok : EnvOk P E) (m : ZMem S w0 β n M w) {T U ty : TypeId} {s x : ZV} {sv xv : Value} (hs : VRel S β n s sv) (hx : VRel S β n x xv) : Gv P S w0 β n M w (zappend E T U s x) (Builtin.append_ #[T, U] ty #[sv, xv]) := by
  intro v M' n' hv; unfold zappend at hv; have hq := zelem_bad ok hv; clear hv; obtain ⟨e, hu, ⟨ie, de, ze, hie, _, hse, hby, hz, hzc, _⟩, hp, hzl, hv⟩ := hq; split at hv
  . rename_i k l h1 h2 h3
    have h1 := ble_true h1
    have hk : (∃ e', P.underlying U = some (.slice e')) \/ P.underlying U = some .string := by
      split at h2
      . have := beq_true h2; subst this; exact .inl ⟨e, hu⟩
      . rename_i hd
        obtain ⟨d, hu2, hd2⟩ := under_of ok hd rfl; simp only [tdOk] at hd2; subst hd2; exact .inr hu2
      . cases h2
    obtain ⟨vs, src, g1, _⟩ := zsrc_sound (tx := U) m hp hx h3 hk; have hzs : ze.cells.size = (E.tab e).size := by rw [<- hzl, <- hzc]; simp
    exact zappendTo_sound m hu hie hse hz hzs (by omega) hp hs src g1 v M' n' hv
  . cases hv
theorem zfield_sound (ok : EnvOk P E) (m : ZMem S w0 β n M w) {T f : Nat} {x : ZV} {xv : Value} (hx : VRel S β n x xv) : Gv P S w0 β n M w (zfield (E.tab T) (E.tab (E.fty T f)) x f) (Instr.field T xv f) := by
  unfold zfield; split
  . rename_i l
    refine Gv.when fun hb => ?_
    simp only [Bool.and_eq_true, Bool.not_eq_true'] at hb; obtain ⟨fs, fd, hu, hfd, ho, hc, i, hi, his⟩ := zfield_some ok (blt_true hb.1); have hty := ok.fty T f fs fd hu hfd; obtain ⟨info, d, z, hi2, hu2, hs2, _, hz, hzc, hd⟩ := tfacts ok hb.2; rw [<- hty] at hi2 hu2; rw [hi] at hi2; cases hi2; rw [VRel] at hx; obtain ⟨cs, rfl, hr⟩ := hx; have hl := VRels_length hr; simp only [Array.length_toList] at hl; intro v M' n' hv; dsimp only at hv
    split at hv
    . rename_i h1 h2
      have h1 := ble_true h1; cases hv
      have hst : ∃ g, d = .struct g := by
        generalize (E.tab (E.fty T f)).d = dd at h2 hd; cases dd <;> simp [zaggD] at h2
        obtain ⟨a, rfl, _⟩ := hd; exact ⟨a, rfl⟩
      obtain ⟨g, rfl⟩ := hst; refine ⟨.agg (cs.extract (zfieldOff (E.tab T) f).1 ((zfieldOff (E.tab T) f).1 + (zfieldOff (E.tab T) f).2)), w, β, ?_, ?_, .refl m⟩
      . simp [Instr.field, run_underlying hu, hfd, asAgg, part, isAgg, run_underlying hu2, sizeOf, typeInfo, hi, his, ho]
      . rw [VRel]; refine ⟨_, rfl, ?_⟩; have := VRels_take (zfieldOff (E.tab T) f).2 (VRels_drop (zfieldOff (E.tab T) f).1 hr)
        have e : (cs.extract (zfieldOff (E.tab T) f).1 ((zfieldOff (E.tab T) f).1 + (zfieldOff (E.tab T) f).2)).toList = (cs.toList.drop (zfieldOff (E.tab T) f).1).take (zfieldOff (E.tab T) f).2 := by
          rw [Array.toList_extract, List.extract_eq_drop_take]; congr 1; omega
        rw [e]; exact this
    . rename_i h1 h2
      have h1 := ble_true h1; split at hv
      . rename_i y hy
        cases hv; obtain ⟨u, g1, g2⟩ := VRels_get _ hr hy
        have hna : ∀ w, (isAgg fd.type).run P w = .ok false w := by
          intro w; unfold isAgg; rw [Sem.run_bind, run_underlying hu2 w]; have hb2 := hb.2; generalize (E.tab (E.fty T f)).d = dd at h2 hd hb2; cases dd <;> simp [zaggD, tdOk, zbadT] at h2 hd hb2
          all_goals first
            | (subst hd; rfl)
            | (cases d <;> first | rfl | exact absurd hd (by simp))
        refine ⟨u, w, β, ?_, g2, .refl m⟩; have g1' : cs[(zfieldOff (E.tab T) f).1]? = some u := by simpa using g1
        simp [Instr.field, run_underlying hu, hfd, asAgg, part, hna, ho, g1']
      . cases hv
    . cases hv
  . exact Gv.bad
theorem pl_field (i ti : TI) (x : ZV) (f : Nat) : Plain (zfield i ti x f) := by
  unfold zfield; split
  . refine Plain.when fun M n => ?_
    repeat' split
    all_goals first
      | exact .inl ⟨_, _, _, rfl⟩
      | exact .inr ⟨_, rfl⟩
  . exact Plain.bad _
theorem zassert_sound (ok : EnvOk P E) (m : ZMem S w0 β n M w) {T D : TypeId} {x : ZV} {xv : Value} (cok : Bool) (hx : VRel S β n x xv) : Gv P S w0 β n M w (zassert E D x cok) (Instr.typeAssert xv T D cok) := by
  have pack : ∀ {z : ZV} {u : Value} (b : Bool), VRel S β n z u -> VRel S β n (zpack cok z b) (if cok then .tuple #[u, .bool b] else u) := by
    intro z u b h
    cases cok with
    | false => exact h
    | true => simp only [zpack, if_true]; rw [VRel]; exact ⟨_, rfl, by simp [VRels, VRel, h]⟩
  unfold zassert; split
  . rename_i t y hn
    obtain ⟨d, hu, hd⟩ := ok.noI D hn; rw [VRel] at hx; obtain ⟨u, rfl, hr⟩ := hx; split
    . rename_i ht
      have ht := beq_true ht; subst ht; refine Gv.ret m (v := if cok then .tuple #[u, .bool true] else u) ?_ (pack true hr)
      unfold Instr.typeAssert; simp only [Sem.run_bind, run_underlying hu, Result.andThen_ok]; cases d <;> simp at hd ⊢ <;> cases cok <;> rfl
    . rename_i ht
      have hne : t ≠ D := fun h => by subst h; simp at ht
      split
      . rename_i hb hq
        have hT := tfacts ok hb; obtain ⟨zv, z1, z2⟩ := zzero_sound (w := w) (S := S) (β := β) (n := n) ok hT hq; refine Gv.ret m (v := .tuple #[zv, .bool false]) ?_ (pack false z2); unfold Instr.typeAssert; simp only [Sem.run_bind, run_underlying hu, Result.andThen_ok]; cases d <;> simp at hd ⊢ <;> simp [hne, z1]
      . exact Gv.bad
  . exact Gv.bad
theorem pl_assert (E : Env) (D : Nat) (x : ZV) (b : Bool) : Plain (zassert E D x b) := by
  unfold zassert; repeat' split
  all_goals first
    | exact Plain.ret _
    | exact Plain.bad _
theorem zsliceData_sound (m : ZMem S w0 β n M w) {sz j o k : Nat} {c : Option Nat} {xv : Value} {tys : Array TypeId} {ty : TypeId} (hx : VRel S β n (.sl sz j o k c) xv) : Gv P S w0 β n M w (zsliceData j o c) (Builtin.unsafeSliceData_ tys ty #[xv]) := by
  intro v M' n' hv; unfold zsliceData at hv; split at hv
  . rename_i T lo q d hM
    split at hv
    . rename_i h1 h2
      have h2 := blt_true h2; cases hv; obtain ⟨_, _, cur, f1, r1, r2, r3, r4⟩ := m.key j _ hM; rw [VRel] at hx; obtain ⟨hj, hs, p, cap, rfl, g1, g2, g3⟩ := hx; simp only at g3
      have hc : cap ≠ 0 := by
        intro h; subst h; simp at g3; omega
      refine ⟨.pointer (some ⟨(β j).b, p, none⟩), w, β, (by
        show (if cap ≠ 0 then (pure (.pointer (some ⟨(β j).b, p, none⟩)) : Sem Value) else _).run P w = _
        rw [if_pos hc]; rfl), by rw [VRel]; exact ⟨hj, p, g2 (by omega), rfl⟩, .refl m⟩
    . cases hv
  . cases hv
theorem run_loadBytes : ∀ (ns : List Int) (b p : Nat) (acc : ByteArray), (∀ x ∈ ns, 0 <= x /\ x < 256) -> (∀ i x, ns[i]? = some x -> w.cell? ⟨b, p + i, none⟩ = some (.int .u8 x)) -> (loadBytes ⟨b, p, none⟩ acc ns.length).run P w = .ok ⟨acc.data ++ (ns.map fun x => UInt8.ofNat x.toNat).toArray⟩ w
  | [], b, p, acc, _, _ => by simp [loadBytes]
  | x :: ns, b, p, acc, h1, h2 => by
    have hx := h2 0 x rfl; rw [Nat.add_zero] at hx; have ih := run_loadBytes ns b (p + 1) (acc.push (UInt8.ofNat x.toNat)) (fun y hy => h1 y (by simp [hy])) (fun i y hy => by rw [show p + 1 + i = p + (i + 1) by omega]; exact h2 (i + 1) y (by simpa using hy))
    have hadd : (⟨b, p, none⟩ : Addr).add 1 = ⟨b, p + 1, none⟩ := by simp [Addr.add]
    have e : x.toNat.toUInt8 = UInt8.ofNat x.toNat := rfl
    have e2 : (⟨acc.data ++ ((x :: ns).map fun x => UInt8.ofNat x.toNat).toArray⟩ : ByteArray) = ⟨(acc.push (UInt8.ofNat x.toNat)).data ++ (ns.map fun x => UInt8.ofNat x.toNat).toArray⟩ := by
      congr 1; apply Array.ext'; simp [ByteArray.push]
    rw [e2, <- ih]; simp [loadBytes, hx, hadd]
theorem zstringOf_sound (ok : EnvOk P E) (m : ZMem S w0 β n M w) {pt u2 j o k : Nat} {kk : IntKind} {pv : Value} {ty : TypeId} (hp : VRel S β n (.ptr j o) pv) : Gv P S w0 β n M w (zstringOf E pt j o k) (Builtin.unsafeString_ #[pt, u2] ty #[pv, .int kk (.ofNat k)]) := by
  intro v M' n' hv; rw [VRel] at hp; obtain ⟨hj, p, hpo, rfl⟩ := hp; unfold zstringOf at hv; split at hv
  . cases hv; refine ⟨.string .empty, w, β, ?_, ?_, .refl m⟩
    . have hdef : Builtin.unsafeString_ #[pt, u2] ty #[.pointer (some ⟨(β j).b, p, none⟩), .int kk (.ofNat 0)] =
        (do
          let n <- asInt (.int kk (.ofNat 0))
          if n < 0 then runtimePanic (.error "unsafe.String: len out of range")
          if n > IntKind.i64.max then unsupported (.unsafePointer "String: a length above the largest int")
          if n = 0 then pure (.string .empty)
          else if <- variablesAt ⟨(β j).b, p, none⟩ (<- elemOf pt) n.toNat then do
            let s <- loadBytes ⟨(β j).b, p, none⟩ .empty n.toNat
            freeze ⟨(β j).b, p, none⟩ n.toNat
            pure (.string s)
          else unsupported (.unsafePointer "String: not so many bytes at ptr")) := rfl
      have hmax : IntKind.i64.max = 9223372036854775807 := rfl; rw [hdef]; simp [asInt, asIntOf, hmax]
    . rw [VRel]; congr 1
  . rename_i k'
    split at hv
    . rename_i T lo q d hM
      split at hv
      . rename_i l h0 h12 h3 h4
        simp only [Bool.and_eq_true] at h12 h0; have hk6 := ble_true h0.2; replace h0 := h0.1
        have h1 := ble_true h12.1; have h2 := beq_true h12.2; have h3 := ble_true h3; subst h2; split at hv
        . rename_i b hb
          cases hv; obtain ⟨_, _, cur, f1, f2⟩ := m.key j _ hM; have hlow := m.low j _ _ _ hM; have hpo' : p = o := by omega
          subst hpo'; obtain ⟨q', e1, e2, vs, v1, v2, v3, v4⟩ := f2.cells h1 h3 h4; have hq : q' = p := by rcases e1 with e1 | e1 <;> omega
          subst hq; obtain ⟨ns, g1, g2, g3⟩ := zbytesN_sound hb v2; have hlen : ns.length = k' + 1 := by have := v1; rw [g1] at this; simpa using this
          obtain ⟨u, hu, hl⟩ := ok.row8 pt T h0; have hrow := hl cur.size q' (k' + 1) e2; have hz := zbytes_ofNs ns g2; rw [hlen, <- g3] at hz
          have hcells : ∀ i x, ns[i]? = some x -> w.cell? ⟨(β j).b, q' + i, none⟩ = some (.int .u8 x) := by
            intro i x hx; rw [cell_of_row w _ _ cur T (0, 0) f1]; exact v3 i _ (by rw [g1, List.getElem?_map, hx]; rfl)
          have hlb := run_loadBytes (P := P) (w := w) ns (β j).b q' .empty g2 hcells; rw [hlen] at hlb
          have hva : (variablesAt ⟨(β j).b, q', none⟩ u (k' + 1)).run P w = .ok true w := by
            simp [variablesAt, World.shape?, f1, hrow]
          have hdef : Builtin.unsafeString_ #[pt, u2] ty #[.pointer (some ⟨(β j).b, q', none⟩), .int kk (.ofNat (k' + 1))] =
            (do
              let n <- asInt (.int kk (.ofNat (k' + 1)))
              if n < 0 then runtimePanic (.error "unsafe.String: len out of range")
              if n > IntKind.i64.max then unsupported (.unsafePointer "String: a length above the largest int")
              if n = 0 then pure (.string .empty)
              else if <- variablesAt ⟨(β j).b, q', none⟩ (<- elemOf pt) n.toNat then do
                let s <- loadBytes ⟨(β j).b, q', none⟩ .empty n.toNat
                freeze ⟨(β j).b, q', none⟩ n.toNat
                pure (.string s)
              else unsupported (.unsafePointer "String: not so many bytes at ptr")) := rfl
          have hmax : IntKind.i64.max = 9223372036854775807 := rfl
          have g0 : ¬ (Int.ofNat (k' + 1)) < 0 := by
            have : Int.ofNat (k' + 1) = ((k' + 1 : Nat) : Int) := rfl; omega
          have g1' : ¬ (Int.ofNat (k' + 1)) > 9223372036854775807 := by
            have : Int.ofNat (k' + 1) = ((k' + 1 : Nat) : Int) := rfl; omega
          have g2' : ¬ (Int.ofNat (k' + 1)) = 0 := by
            have : Int.ofNat (k' + 1) = ((k' + 1 : Nat) : Int) := rfl; omega
          have htn : (Int.ofNat (k' + 1)).toNat = k' + 1 := rfl
          have hfz : w.freeze ⟨(β j).b, q', none⟩ (k' + 1) = { w with heap := w.heap.modify (β j).b fun
              | .cells c elem (lo, hi) => .cells c elem (if lo == hi then (q', q' + (k' + 1)) else (min lo q', max hi (q' + (k' + 1))))
              | o => o } := by
            unfold World.freeze; rw [if_neg (by omega)]
            rfl
          refine ⟨.string (zbytes (k' + 1) b), w.freeze ⟨(β j).b, q', none⟩ (k' + 1), β, ?_, by rw [VRel], ?_⟩
          . rw [hdef]; simp only [asInt, asIntOf, Sem.run_bind, Sem.run_pure, Result.andThen_ok, hmax, if_neg g0, if_neg g1', if_neg g2', elemOf, run_underlying hu, htn, hva, if_true, hlb]; rw [hz]; simp
          . refine ZPost.del m j hM rfl (by rw [hfz]) (by rw [hfz]) (by rw [hfz]) (by rw [hfz]; simp) ?_
            intro b' hb' hne; rw [hfz]; simp only [Array.getElem?_modify]; rw [if_neg (fun h => hne h.symm)]
        . cases hv
      . cases hv
    . cases hv
end
end Go.Z
