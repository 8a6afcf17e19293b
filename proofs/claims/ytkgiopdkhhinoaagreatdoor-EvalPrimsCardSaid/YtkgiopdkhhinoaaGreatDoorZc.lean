/- The concrete evaluator: slices' parts, fields, elements. The concrete evaluator: maps. -/
import Derived.Test.YtkgiopdkhhinoaaGreatDoorZb
import Derived.Test.YtkgiopdkhhinoaaGreatDoorXac
import Derived.MapKept
set_option linter.all false
namespace Go.Z
open Go.Eng (TI TD DV DRep DRows DCells Snap nth upd slice' splice TabOk tiOk tdOk TFacts)
section
variable {P : Program} {E : Env} {S : Snap} {w0 : World} {β : Nat -> Loc} {n : Nat} {M : Tri ZO} {w : World}
def ORels (S : Snap) (β : Nat -> Loc) (n : Nat) : Option ZV -> Option Value -> Prop
  | none, v => v = none
  | some z, v => ∃ u, v = some u /\ VRel S β n z u
theorem znatO_sound {o : Option ZV} {v : Option Value} {r : Option Nat} (h : ORels S β n o v) (hz : znatO o = some r) : (r = none /\ v = none) \/ ∃ a k, r = some a /\ v = some (.int k (a : Int)) := by
  unfold znatO at hz; split at hz
  . cases hz; exact .inl ⟨rfl, h⟩
  . cases hz; obtain ⟨u, rfl, hu⟩ := h; rw [VRel] at hu; exact .inr ⟨_, _, rfl, by rw [hu]; rfl⟩
  . cases hz
theorem zbounds_sound {isS : Bool} {l q : Nat} {c lo hi mx : Option Nat} {lov hiv mxv : Option Value} {a b : Nat} {c' : Option Nat} (h : zbounds l c lo hi mx = some (a, b, c')) (hl : l <= q) (hc : ∀ x, c = some x -> q = x)
    (h1 : (lo = none /\ lov = none) \/ ∃ a k, lo = some a /\ lov = some (.int k (a : Int))) (h2 : (hi = none /\ hiv = none) \/ ∃ a k, hi = some a /\ hiv = some (.int k (a : Int))) (h3 : (mx = none /\ mxv = none) \/ ∃ a k, mx = some a /\ mxv = some (.int k (a : Int))) :
    ∃ q', (Instr.sliceBounds isS l q lov hiv mxv).run P w = .ok (a, b, q') w /\ a <= b /\ b <= q' /\ q' <= q /\ (match c' with | some x => x = q' - a | none => c = none /\ q' = q) /\ (mx = none -> q' = q) := by
  have hcl : c.getD l <= q := by
    cases c with
    | none => exact hl
    | some x => rw [hc x rfl]; exact Nat.le_refl _
  rcases h3 with ⟨rfl, rfl⟩ | ⟨mm, km, rfl, rfl⟩
  . rcases h2 with ⟨rfl, rfl⟩ | ⟨hh, kh, rfl, rfl⟩
    . unfold zbounds at h; simp only at h; split at h
      . rename_i hle
        have hle := ble_true hle; cases h; refine ⟨q, ?_, hle, hl, Nat.le_refl _, ?_, fun _ => rfl⟩
        . rcases h1 with ⟨rfl, rfl⟩ | ⟨ll, kl, rfl, rfl⟩
          . simp [Instr.sliceBounds]
          . simp only [Option.getD_some] at hle; simp [Instr.sliceBounds, Instr.sliceBound, asIntOf, hle, Nat.not_lt.2 hle]
        . cases c with
          | none => exact ⟨rfl, rfl⟩
          | some x => show x - _ = q - _; rw [hc x rfl]
      . cases h
    . unfold zbounds at h; simp only at h; split at h
      . rename_i ha hb
        have ha := ble_true ha; have hb := ble_true hb; cases h; have hbq : b <= q := by omega
        refine ⟨q, ?_, ha, by omega, Nat.le_refl _, ?_, fun _ => rfl⟩
        . rcases h1 with ⟨rfl, rfl⟩ | ⟨ll, kl, rfl, rfl⟩
          . simp [Instr.sliceBounds, Instr.sliceBound, asIntOf, hbq, Nat.not_lt.2 hbq]
          . simp only [Option.getD_some] at ha; simp [Instr.sliceBounds, Instr.sliceBound, asIntOf, hbq, ha, Nat.not_lt.2 hbq, Nat.not_lt.2 ha]
        . cases c with
          | none => exact ⟨rfl, rfl⟩
          | some x => show x - _ = q - _; rw [hc x rfl]
      . cases h
  . rcases h2 with ⟨rfl, rfl⟩ | ⟨hh, kh, rfl, rfl⟩
    . unfold zbounds at h; simp only at h; cases h
    . unfold zbounds at h; simp only at h; split at h
      . rename_i ha hb hm
        have ha := ble_true ha; have hb := ble_true hb; have hm := ble_true hm; cases h; have hmq : mm <= q := by omega
        refine ⟨mm, ?_, ha, hb, by omega, rfl, fun h => by cases h⟩
        rcases h1 with ⟨rfl, rfl⟩ | ⟨ll, kl, rfl, rfl⟩
        . simp [Instr.sliceBounds, Instr.sliceBound, asIntOf, hmq, hb, Nat.not_lt.2 hmq, Nat.not_lt.2 hb]
        . simp only [Option.getD_some] at ha; simp [Instr.sliceBounds, Instr.sliceBound, asIntOf, hmq, hb, ha, Nat.not_lt.2 hmq, Nat.not_lt.2 hb, Nat.not_lt.2 ha]
      . cases h
theorem sliceAt_eq {T : TypeId} {d : TypeDesc} (hu : P.underlying T = some d) (ha : (match d with | .array _ _ => false | _ => true) = true) (x : Value) (lo hi mx : Option Value) : (Instr.sliceAt T x lo hi mx).run P w = (Instr.slice T x lo hi mx).run P w := by
  unfold Instr.sliceAt; rw [Sem.run_bind, run_underlying hu]; cases d <;> simp at ha <;> rfl
theorem zslice_sound (ok : EnvOk P E) (m : ZMem S w0 β n M w) {T : TypeId} {x : ZV} {lo hi mx : Option ZV} {xv : Value} {lov hiv mxv : Option Value} (hx : VRel S β n x xv) (h1 : ORels S β n lo lov) (h2 : ORels S β n hi hiv) (h3 : ORels S β n mx mxv) :
    Gv P S w0 β n M w (zslice E T x lo hi mx) (Instr.sliceAt T xv lov hiv mxv) := by
  unfold zslice; split
  . rename_i lo' hi' mx' e1 e2 e3
    have h1 := znatO_sound h1 e1; have h2 := znatO_sound h2 e2; have h3 := znatO_sound h3 e3; split
    . rename_i l s hd
      obtain ⟨d', hu, hd'⟩ := under_of ok hd rfl; simp only [tdOk] at hd'; subst hd'; rw [VRel] at hx; subst hx; split
      . rename_i a b c hb
        rcases h3 with ⟨_, rfl⟩ | ⟨_, _, h3, _⟩
        . obtain ⟨q', g1, g2, g3, g4, _, g5⟩ := zbounds_sound (P := P) (w := w) (isS := false) hb (Nat.le_refl l) (fun x h => by cases h) h1 h2 (.inl ⟨rfl, rfl⟩)
          have := g5 rfl; subst this; refine Gv.ret m (v := .string ((zbytes q' s).extract a b)) ?_ (by rw [VRel, zsub_bytes g2 g3])
          rw [sliceAt_eq hu rfl]; simp [Instr.slice, run_underlying hu, zbytes_size, g1]
        . cases h3
      . exact Gv.bad
    . rename_i e sz j o q c hd
      intro v M' n' hv; obtain ⟨e', hu, ⟨ie, de, ze, hie, _, hse, _⟩, hp, _, hv⟩ := zelem_bad ok hv; rw [VRel] at hx; obtain ⟨hj, hsz, k, cap, rfl, g1, g2, g3⟩ := hx; split at hv
      . rename_i a b c' hs hb
        have hs := beq_true hs; cases hv; obtain ⟨q', f1, f2, f3, f4, f5, f6⟩ := zbounds_sound (P := P) (w := w) (isS := true) (q := cap) hb g1 (fun x h => by rw [h] at g3; exact g3) h1 h2 h3
        refine ⟨.slice (some ⟨(β j).b, if q' = a then k else k + a * sz, none⟩) (b - a) (q' - a), w, β, ?_, ?_, .refl m⟩
        . rw [sliceAt_eq hu rfl]; simp [Instr.slice, run_underlying hu, f1, sizeOf, typeInfo, hie, hse, hs, Addr.add_mid]; split <;> rfl
        . rw [VRel]; refine ⟨hj, hsz, _, _, rfl, by omega, ?_, ?_⟩
          . intro hpos; rw [if_neg (by omega)]
            have := g2 (by omega)
            push_cast
            omega
          . cases c' with
            | some y => exact f5.symm
            | none =>
              obtain ⟨f5, f7⟩ := f5; subst f5 f7; simp only at g3; have : ((q' - a) * sz : Nat) + a * sz = q' * sz := by rw [<- Nat.add_mul]; congr 1; omega
              push_cast
              have h2 : (((q' - a) * sz : Nat) : Int) + ((a * sz : Nat) : Int) = ((q' * sz : Nat) : Int) := by exact_mod_cast this
              push_cast at h2 g3 ⊢
              omega
      . cases hv
    . rename_i e sz l hd
      intro v M' n' hv; obtain ⟨e', hu, ⟨ie, de, ze, hie, _, hse, _⟩, hp, _, hv⟩ := zelem_bad ok hv; split at hv
      . rename_i a b c' hs hb hmx
        have hs := beq_true hs; cases hv; rcases h3 with ⟨_, rfl⟩ | ⟨_, _, h3, _⟩
        . rw [VRel, DRep] at hx; rcases hx with ⟨rfl, a0, c0, rfl, ha0⟩ | ⟨b0, off, cap, cc, T', fr, rfl, e2, e3, e4⟩
          . obtain ⟨q', f1, f2, f3, f4, f5, f6⟩ := zbounds_sound (P := P) (w := w) (isS := true) (q := c0) hb (Nat.zero_le _) (fun x h => by cases h) h1 h2 (.inl ⟨rfl, rfl⟩)
            have f6 := f6 rfl; subst f6; simp only [List.length_nil] at f1
            have hb0 : a = 0 /\ b = 0 := by
              unfold zbounds at hb; simp only [List.length_nil] at hb; rcases h2 with ⟨rfl, _⟩ | ⟨hh, _, rfl, _⟩
              . simp only at hb; split at hb
                . rename_i hle
                  have hle := ble_true hle; cases hb; exact ⟨by omega, rfl⟩
                . cases hb
              . simp only at hb; split at hb
                . rename_i ha hle
                  have hle := ble_true hle; have ha := ble_true ha; cases hb; simp at hle; exact ⟨by omega, by omega⟩
                . cases hb
            obtain ⟨rfl, rfl⟩ := hb0; refine ⟨.slice a0 0 q', w, β, ?_, ?_, .refl m⟩
            . rw [sliceAt_eq hu rfl]
              cases a0 with
              | none => simp [Instr.slice, run_underlying hu, f1, sizeOf, typeInfo, hie]
              | some a0 =>
                simp [Instr.slice, run_underlying hu, f1, sizeOf, typeInfo, hie, Addr.add]
            . rw [VRel, DRep]; exact .inl ⟨by simp, a0, q', rfl, ha0⟩
          . obtain ⟨q', f1, f2, f3, f4, f5, f6⟩ := zbounds_sound (P := P) (w := w) (isS := true) (q := cap) hb e2 (fun x h => by cases h) h1 h2 (.inl ⟨rfl, rfl⟩)
            have f6 := f6 rfl; subst f6
            have hbl : b <= l.length := by
              unfold zbounds at hb; rcases h2 with ⟨rfl, _⟩ | ⟨hh, _, rfl, _⟩
              . simp only at hb; split at hb
                . cases hb; exact Nat.le_refl _
                . cases hb
              . simp only at hb; split at hb
                . rename_i ha hle
                  have hle := ble_true hle; cases hb; exact hle
                . cases hb
            have hlen : ((l.take b).drop a).length = b - a := by simp; omega
            refine ⟨.slice (some ⟨b0, if q' = a then off else off + a * sz, none⟩) (b - a) (q' - a), w, β, ?_, ?_, .refl m⟩
            . rw [sliceAt_eq hu rfl]; simp [Instr.slice, run_underlying hu, f1, sizeOf, typeInfo, hie, hse, hs, Addr.add_mid]; split <;> rfl
            . rw [VRel, DRep]; right
              refine ⟨b0, _, q' - a, cc, T', fr, by rw [hlen], by rw [hlen]; omega, e3, ?_⟩
              rw [hlen]; have h4 := Go.Eng.DRows_drop a (Go.Eng.DRows_take b e4); by_cases hc : q' = a
              . have hz : b - a = 0 := by omega
                have hz2 : (l.take b).drop a = [] := List.drop_eq_nil_of_le (by simp; omega)
                rw [hz, hz2]; simp [DRows]
              . rw [if_neg hc]
                have e5 : ((((cc.toList.drop off).take (l.length * sz)).take (b * sz)).drop (a * sz)) = (cc.toList.drop (off + a * sz)).take ((b - a) * sz) := by
                  have hm : b * sz <= l.length * sz := Nat.mul_le_mul_right _ hbl; rw [List.take_take, Nat.min_eq_left hm, List.drop_take, List.drop_drop, Nat.sub_mul]
                rw [e5] at h4; exact h4
        . cases h3
      . cases hv
    . rename_i e hd
      intro v M' n' hv; obtain ⟨e', hu, ⟨ie, de, ze, hie, _, hse, _⟩, hp, _, hv⟩ := zelem_bad ok hv; rw [VRel] at hx; subst hx; split at hv
      . rename_i x hb
        cases hv; obtain ⟨a, b, c'⟩ := x; obtain ⟨q', f1, f2, f3, f4, f5, f6⟩ := zbounds_sound (P := P) (w := w) (isS := true) (q := 0) hb (Nat.zero_le _) (fun x h => by cases h; rfl) h1 h2 h3
        have hq : q' = 0 := by omega
        subst hq; have hb0 : b = 0 := by omega
        subst hb0; have ha0 : a = 0 := by omega
        subst ha0; refine ⟨.slice none 0 0, w, β, ?_, by rw [VRel], .refl m⟩
        rw [sliceAt_eq hu rfl]; simp [Instr.slice, run_underlying hu, f1, sizeOf, typeInfo, hie]
      . cases hv
    . exact Gv.bad
  . exact Gv.bad
theorem zfield_some (ok : EnvOk P E) {T f : Nat} (hp : 0 < (zfieldOff (E.tab T) f).2) : ∃ (fs : Array Field) (fd : Field), P.underlying T = some (.struct fs) /\ fs[f]? = some fd /\ fd.offset = (zfieldOff (E.tab T) f).1 /\ P.cellsOf fd.type = (zfieldOff (E.tab T) f).2 /\ ∃ i, P.info? fd.type = some i /\ i.size = (zfieldOff (E.tab T) f).2 := by
  have hs : ∃ os, (E.tab T).d = .struct os := by
    unfold zfieldOff at hp; split at hp
    . exact ⟨_, by assumption⟩
    . simp at hp
  obtain ⟨os, hd⟩ := hs; obtain ⟨d', hu, hd'⟩ := under_of ok hd rfl; obtain ⟨fs, rfl, h2, h3⟩ := hd'; have := zfieldOff_some hd hp; rw [<- h2, List.getElem?_map] at this
  cases hfd : fs.toList[f]? with
  | none => rw [hfd] at this; simp at this
  | some fd =>
    rw [hfd] at this; simp only [Option.map_some, Option.some.injEq] at this; have h4 := h3 fd (List.mem_of_getElem? hfd); obtain ⟨i, hi⟩ := Option.isSome_iff_exists.1 h4; have e1 : fd.offset = (zfieldOff (E.tab T) f).1 := by rw [<- this]
    have e2 : P.cellsOf fd.type = (zfieldOff (E.tab T) f).2 := by rw [<- this]
    exact ⟨fs, fd, hu, by simpa using hfd, e1, e2, i, hi, by rw [<- e2]; simp [Program.cellsOf, hi]⟩
theorem zfieldAddr_sound (ok : EnvOk P E) (m : ZMem S w0 β n M w) {T f : Nat} {p : ZV} {pv : Value} (hp : VRel S β n p pv) : Gv P S w0 β n M w (zfieldAddr (E.tab T) p f) (Instr.fieldAt T pv f) := by
  have run : 0 < (zfieldOff (E.tab T) f).2 -> ∀ b k, pv = .pointer (some ⟨b, k, none⟩) -> (Instr.fieldAt T pv f).run P w = .ok (.pointer (some ⟨b, k + (zfieldOff (E.tab T) f).1, none⟩)) w := by
    intro h b k hpv; obtain ⟨fs, fd, hu, hfd, ho, _, i, hi, his⟩ := zfield_some ok h; subst hpv; have : i.size ≠ 0 := by omega
    simp [Instr.fieldAt, run_underlying hu, hfd, Instr.sureAddr, fieldPlace, sizeOf, typeInfo, hi, this, Addr.add_mid, <- ho]
  unfold zfieldAddr; split
  . rename_i j o h
    rw [VRel] at hp; obtain ⟨hj, k, hk, hpv⟩ := hp; exact Gv.ret m (run (blt_true h) _ _ hpv) (by rw [VRel]; exact ⟨hj, _, by push_cast; omega, rfl⟩)
  . rename_i sz l ix o h
    rw [VRel] at hp; obtain ⟨b, q, c, T', fr, e1, e2, e3, hpv⟩ := hp; exact Gv.ret m (run (blt_true h) _ _ hpv) (by rw [VRel]; exact ⟨b, q, c, T', fr, e1, e2, e3, by rw [Nat.add_assoc]⟩)
  . exact Gv.bad
theorem zindexAddr_sound (ok : EnvOk P E) (m : ZMem S w0 β n M w) {T : Nat} {x ix : ZV} {xv iv : Value} (hx : VRel S β n x xv) (hi : VRel S β n ix iv) : Gv P S w0 β n M w (zindexAddr E T x ix) (Instr.indexAt T xv iv) := by
  unfold zindexAddr; split
  . rename_i kk k
    rw [VRel] at hi; subst hi; split
    . rename_i sz j o q c
      intro v M' n' hv; obtain ⟨e, hu, ⟨ie, de, ze, hie, _, hse, _⟩, hp, _, hv⟩ := zelem_bad ok hv; rw [VRel] at hx; obtain ⟨hj, hsz, p, cap, rfl, g1, g2, g3⟩ := hx; split at hv
      . rename_i h1 h2
        have h1 := beq_true h1; have h2 := blt_true h2; cases hv; refine ⟨.pointer (some ⟨(β j).b, p + k * sz, none⟩), w, β, ?_, ?_, .refl m⟩
        . simp [Instr.indexAt, run_underlying hu, asIntOf, h2, Nat.not_le.2 h2, sizeOf, typeInfo, hie, hse, h1, Addr.add_mid]
        . rw [VRel]; exact ⟨hj, _, by have := g2 (by omega); push_cast; omega, rfl⟩
      . cases hv
    . rename_i sz l
      intro v M' n' hv; obtain ⟨e, hu, ⟨ie, de, ze, hie, _, hse, _⟩, hp, _, hv⟩ := zelem_bad ok hv; split at hv
      . rename_i h1 h2
        have h1 := beq_true h1; have h2 := blt_true h2; cases hv; rw [VRel, DRep] at hx; rcases hx with ⟨rfl, _⟩ | ⟨b, off, cap, c, T', fr, rfl, e2, e3, e4⟩
        . simp at h2
        . refine ⟨.pointer (some ⟨b, off + k * sz, none⟩), w, β, ?_, ?_, .refl m⟩
          . simp [Instr.indexAt, run_underlying hu, asIntOf, h2, Nat.not_le.2 h2, sizeOf, typeInfo, hie, hse, h1, Addr.add_mid]
          . rw [VRel]; exact ⟨b, off, c, T', fr, e3, e4, h2, rfl⟩
      . cases hv
    . exact Gv.bad
  . exact Gv.bad
theorem zindex_sound (ok : EnvOk P E) (m : ZMem S w0 β n M w) {T : Nat} {x ix : ZV} {xv iv : Value} (hx : VRel S β n x xv) (hi : VRel S β n ix iv) : Gv P S w0 β n M w (zindex (E.tab T) x ix) (Instr.index T xv iv) := by
  unfold zindex; split
  . rename_i l s kk k hd
    obtain ⟨d', hu, hd'⟩ := under_of ok hd rfl; simp only [tdOk] at hd'; subst hd'; rw [VRel] at hi; rw [VRel] at hx; subst hi hx; refine Gv.when fun h => ?_
    have h := blt_true h; obtain ⟨c, hg, hc⟩ := Go.Eng.byte_at (zbytes l s) k (by rw [zbytes_size]; exact h)
    have hz : c.toNat = zbyte l s k := by
      rw [<- hc, zbytes_list, List.getD, List.getElem?_map, List.getElem?_range h]; simp only [Option.map_some, Option.getD_some, UInt8.toNat_ofNat']; exact Nat.mod_eq_of_lt (zbyte_lt l s k)
    refine Gv.ret m (v := .int .u8 (c.toNat : Int)) ?_ (by rw [VRel, hz]; rfl)
    simp [Instr.index, asIntOf, run_underlying hu, hg]
  . exact Gv.bad
theorem zlen_sound (ok : EnvOk P E) (m : ZMem S w0 β n M w) {T ty : Nat} {x : ZV} {xv : Value} (hx : VRel S β n x xv) : Gv P S w0 β n M w (zlen (E.tab T) x) (Builtin.len_ #[T] ty #[xv]) := by
  unfold zlen; split
  . rename_i e sz j o q c hd
    obtain ⟨d', hu, hd'⟩ := under_of ok hd rfl; simp only [tdOk] at hd'; subst hd'; rw [VRel] at hx; obtain ⟨_, _, _, _, rfl, _⟩ := hx; exact Gv.ret m (v := goInt q) (by simp [Builtin.len_, run_underlying hu]) (by rw [VRel]; rfl)
  . rename_i e sz l hd
    obtain ⟨d', hu, hd'⟩ := under_of ok hd rfl; simp only [tdOk] at hd'; subst hd'; rw [VRel, DRep] at hx; rcases hx with ⟨rfl, a, c, rfl, _⟩ | ⟨b, off, cap, c, T', fr, rfl, _⟩
    . exact Gv.ret m (v := goInt 0) (by simp [Builtin.len_, run_underlying hu]) (by rw [VRel]; rfl)
    . exact Gv.ret m (v := goInt l.length) (by simp [Builtin.len_, run_underlying hu]) (by rw [VRel]; rfl)
  . rename_i e hd
    obtain ⟨d', hu, hd'⟩ := under_of ok hd rfl; simp only [tdOk] at hd'; subst hd'; rw [VRel] at hx; subst hx; exact Gv.ret m (v := goInt 0) (by simp [Builtin.len_, run_underlying hu]) (by rw [VRel]; rfl)
  . rename_i l s hd
    obtain ⟨d', hu, hd'⟩ := under_of ok hd rfl; simp only [tdOk] at hd'; subst hd'; rw [VRel] at hx; subst hx; exact Gv.ret m (v := goInt l) (by simp [Builtin.len_, run_underlying hu, zbytes_size]) (by rw [VRel]; rfl)
  . rename_i k e j hd
    obtain ⟨d', hu, hd'⟩ := under_of ok hd rfl; simp only [tdOk] at hd'; subst hd'; rw [VRel] at hx; obtain ⟨hj, rfl⟩ := hx; intro v M' n' hv; dsimp only at hv
    split at hv
    . rename_i c es hM
      cases hv; obtain ⟨_, _, a, ha, hr⟩ := m.key j _ hM
      have hlen : ∀ (es : List ZEnt) (l : List MapEntry), ERels S β n true es l -> l.length = es.length := by
        intro es
        induction es with
        | nil => intro l h; rw [ERels] at h; simp [h]
        | cons e es ih => intro l h; rw [ERels] at h; obtain ⟨x, xs, rfl, _, _, _, h⟩ := h; simp [ih xs h]
      have hl := hlen _ _ hr; refine ⟨goInt es.length, w, β, ?_, by rw [VRel]; rfl, .refl m⟩
      have : a.size = es.length := by simpa using hl
      simp [Builtin.len_, run_underlying hu, Go.MapKept.run_getObj_map (P := P) ha, this]
    . cases hv
  . rename_i k e hd
    obtain ⟨d', hu, hd'⟩ := under_of ok hd rfl; simp only [tdOk] at hd'; subst hd'; rw [VRel] at hx; subst hx; exact Gv.ret m (v := goInt 0) (by simp [Builtin.len_, run_underlying hu]) (by rw [VRel]; rfl)
  . exact Gv.bad
end
end Go.Z
namespace Go.Z
open Go.Eng (TI TD DV DRep DRows DCells Snap nth upd slice' splice TabOk tiOk tdOk TFacts)
open Go.MapKept
section
variable {P : Program} {E : Env} {S : Snap} {w0 : World} {β : Nat -> Loc} {n : Nat} {M : Tri ZO} {w : World}
theorem bbeq (a b : ByteArray) : (a == b) = decide (a = b) := by
  cases a with | mk x => cases b with | mk y =>
  show (x == y) = _; rw [Bool.eq_iff_iff]; simp
theorem zmap_ok {T : Nat} {k : Nat -> TI -> ZF} {v : ZV} {M' : Tri ZO} {n' : Nat} (ok : EnvOk P E) (h : zmap E T k M n = .ok v M' n') :
    ∃ kt e dk, P.underlying T = some (.map kt e) /\ TFacts P e (E.tab e) /\ P.underlying kt = some dk /\ tdOk P (E.tab kt).d dk /\ k kt (E.tab e) M n = .ok v M' n' := by
  unfold zmap at h; split at h
  . rename_i kt e he
    obtain ⟨d', hu, hd⟩ := under_of ok he rfl; simp only [tdOk] at hd; subst hd; split at h
    . rename_i h1 h2
      obtain ⟨⟨ik, dk, zk, _, huk, _, _, _, _, hdk⟩⟩ := tfacts ok h2; exact ⟨kt, e, dk, hu, tfacts ok h1, huk, hdk, h⟩
    . cases h
  . cases h
def keyOk (dk : TypeDesc) (z : ZV) (v : Value) : Prop := (∃ l m, z = .str l m /\ v = .string (zbytes l m) /\ dk = .string) \/ ∃ k a, z = .int k a /\ v = .int k a /\ dk = .int k
theorem zkeyOk_sound {dk : TypeDesc} {d : TD} {z : ZV} {v : Value} (hd : tdOk P d dk) (hv : VRel S β n z v) (h : zkeyOk d z = true) : keyOk dk z v := by
  unfold zkeyOk at h; split at h
  . simp only [tdOk] at hd; subst hd; rw [VRel] at hv; exact .inl ⟨_, _, rfl, hv, rfl⟩
  . simp only [tdOk] at hd; subst hd; rw [VRel] at hv; have h := of_decide_eq_true h; subst h; exact .inr ⟨_, _, rfl, hv, rfl⟩
  . cases h
theorem zkeyEq_sound {dk : TypeDesc} {z y : ZV} {v u : Value} {r : Bool} (hk : keyOk dk z v) (hy : VRel S β n y u) (h : zkeyEq z y = some r) : Instr.sameNow dk v u = some r /\ keyOk dk y u := by
  rcases hk with ⟨l, m, rfl, rfl, rfl⟩ | ⟨k, a, rfl, rfl, rfl⟩
  . cases y <;> simp only [zkeyEq] at h <;> try (cases h; done)
    rw [VRel] at hy; subst hy; refine ⟨?_, .inl ⟨_, _, rfl, rfl, rfl⟩⟩; rw [zeqS_sound h, Instr.sameNow]; congr 1; rw [bbeq]
  . cases y <;> simp only [zkeyEq] at h <;> try (cases h; done)
    split at h
    . rename_i hk
      have hk := of_decide_eq_true hk; subst hk; cases h; rw [VRel] at hy; subst hy; exact ⟨by simp [Instr.sameNow, zeqI_eq], .inr ⟨_, _, rfl, rfl, rfl⟩⟩
    . cases h
theorem zfind_sound {dk : TypeDesc} {z : ZV} {v : Value} {ex : Bool} (hk : keyOk dk z v) : ∀ {es : List ZEnt} {l : List MapEntry} {i : Nat} {r : Option (Nat × ZEnt)}, ERels S β n ex es l -> zfind z es i = some r ->
    (r = none -> Instr.findNow dk v l i = some none) /\ (∀ p e, r = some (p, e) -> i <= p /\ es[p - i]? = some e /\ ∃ x, l[p - i]? = some x /\ Instr.findNow dk v l i = some (some (p, x.val)) /\ VRel S β n e.val x.val /\ keyOk dk e.key x.key /\ x.key = v /\ (ex = true -> x.born = e.born))
  | [], l, i, r, h, hf => by
    rw [ERels] at h; subst h; simp only [zfind] at hf; cases hf; exact ⟨fun _ => rfl, fun p e h => by cases h⟩
  | e :: es, l, i, r, h, hf => by
    rw [ERels] at h; obtain ⟨x, xs, rfl, h1, h2, h3, h4⟩ := h; simp only [zfind] at hf; split at hf
    . rename_i he
      cases hf; obtain ⟨g1, g2⟩ := zkeyEq_sound hk h1 he; refine ⟨fun h => (by cases h), fun p e' h => ?_⟩
      cases h; refine ⟨Nat.le_refl _, by simp, x, by simp, by simp [Instr.findNow, g1], h2, g2, ?_, h3⟩
      rcases hk with ⟨l, m, rfl, rfl, rfl⟩ | ⟨k, a, rfl, rfl, rfl⟩
      . rcases g2 with ⟨l', m', _, g2, _⟩ | ⟨_, _, _, _, g2⟩
        . rw [g2] at g1 ⊢; simp only [Instr.sameNow, Option.some.injEq, bbeq] at g1; have := of_decide_eq_true g1; rw [this]
        . cases g2
      . rcases g2 with ⟨_, _, _, _, g2⟩ | ⟨k', a', _, g2, e2⟩
        . cases g2
        . rw [g2] at g1 ⊢; cases e2; simp only [Instr.sameNow, if_true, Option.some.injEq] at g1; have := eq_of_beq g1; rw [this]
    . rename_i he
      obtain ⟨g1, g2⟩ := zkeyEq_sound hk h1 he; obtain ⟨i1, i2⟩ := zfind_sound hk h4 hf; refine ⟨fun h => by simp [Instr.findNow, g1, i1 h], fun p e' h => ?_⟩
      obtain ⟨j1, j2, y, j3, j4, j5⟩ := i2 p e' h; refine ⟨by omega, ?_, y, ?_, by simp [Instr.findNow, g1, j4], j5⟩
      . rw [show p - i = (p - Nat.succ i) + 1 by omega, List.getElem?_cons_succ]; exact j2
      . rw [show p - i = (p - Nat.succ i) + 1 by omega, List.getElem?_cons_succ]; exact j3
    . cases hf
theorem run_key {dk : TypeDesc} {kt : TypeId} {z : ZV} {v : Value} (hk : keyOk dk z v) (hu : P.underlying kt = some dk) (b : Bool) : (Instr.checkKey b 10000 kt v).run P w = .ok () w := by
  rcases hk with ⟨l, m, rfl, rfl, rfl⟩ | ⟨k, a, rfl, rfl, rfl⟩
  . exact run_checkKey (P := P) (w := w) hu (k := .string (zbytes l m)) trivial b 9999
  . exact run_checkKey (P := P) (w := w) hu (k := .int k a) rfl b 9999
theorem zzero_sound (ok : EnvOk P E) {e : TypeId} (hT : TFacts P e (E.tab e)) (h : (zaggD (E.tab e).d || Nat.beq (E.tab e).zero.length 1) = true) : ∃ z, (zeroValue e).run P w = .ok z w /\ VRel S β n (zzero (E.tab e)) z := by
  obtain ⟨info, d, z, hi, hu, hs, _, hz, hzc, hd⟩ := hT; refine ⟨z, by simp [zeroValue, typeInfo, hi, hz], ?_⟩
  cases hagg : zaggD (E.tab e).d with
  | true =>
    have : zzero (E.tab e) = .agg ((E.tab e).zero.map zofV) := by simp [zzero, hagg]
    obtain ⟨cs, rfl⟩ := ok.agz e info z hagg hi hz; rw [this, VRel]; refine ⟨cs, rfl, ?_⟩; have hzc : cs.toList = (E.tab e).zero := hzc; rw [hzc]; exact VRels_zero _
  | false =>
    rw [hagg, Bool.false_or] at h; have h := beq_true h
    have hnz : ∀ cs, z ≠ .agg cs := by
      refine ok.tab.nz e info z ?_ ?_ hi hz
      . intro h'; rw [h'] at hd; exact hd
      . generalize (E.tab e).d = dd at hagg; cases dd <;> simp [zaggD] at hagg <;> rfl
    have hc : z.cells = #[z] := by
      cases z <;> first | rfl | exact absurd rfl (hnz _)
    rw [hc] at hzc; have : zzero (E.tab e) = zofV z := by simp [zzero, hagg, <- hzc]
    rw [this]; exact VRel_ofV z
theorem ERels_set {ex : Bool} {e : ZEnt} {x : MapEntry} (h1 : VRel S β n e.key x.key) (h2 : VRel S β n e.val x.val) (h3 : ex = true -> x.born = e.born) : ∀ {es : List ZEnt} {l : List MapEntry} (i : Nat), ERels S β n ex es l -> ERels S β n ex (es.set i e) (l.set i x)
  | [], l, i, h => by rw [ERels] at h; subst h; simp [ERels]
  | a :: es, l, 0, h => by
    rw [ERels] at h; obtain ⟨y, ys, rfl, _, _, _, h⟩ := h; rw [List.set_cons_zero, ERels]; exact ⟨x, ys, rfl, h1, h2, h3, h⟩
  | a :: es, l, i + 1, h => by
    rw [ERels] at h; obtain ⟨y, ys, rfl, g1, g2, g3, h⟩ := h; rw [List.set_cons_succ, ERels]; exact ⟨y, ys.set i x, rfl, g1, g2, g3, ERels_set h1 h2 h3 i h⟩
theorem ERels_push {ex : Bool} {e : ZEnt} {x : MapEntry} (h1 : VRel S β n e.key x.key) (h2 : VRel S β n e.val x.val) (h3 : ex = true -> x.born = e.born) : ∀ {es : List ZEnt} {l : List MapEntry}, ERels S β n ex es l -> ERels S β n ex (es ++ [e]) (l ++ [x])
  | [], l, h => by rw [ERels] at h; subst h; rw [List.nil_append, ERels]; exact ⟨x, [], rfl, h1, h2, h3, by rw [ERels]⟩
  | a :: es, l, h => by
    rw [ERels] at h; obtain ⟨y, ys, rfl, g1, g2, g3, h⟩ := h; rw [List.cons_append, ERels]; exact ⟨y, ys ++ [x], rfl, g1, g2, g3, ERels_push h1 h2 h3 h⟩
theorem findNow_none {dk : TypeDesc} {v : Value} : ∀ (a : List MapEntry) (i : Nat), (∀ y ∈ a, Instr.sameNow dk v y.key = some false) -> Instr.findNow dk v a i = some none
  | [], i, h => rfl
  | y :: a, i, h => by simp [Instr.findNow, h y (by simp), findNow_none a (i + 1) fun z hz => h z (by simp [hz])]
theorem findNow_at {dk : TypeDesc} {v : Value} {x : MapEntry} (hx : Instr.sameNow dk v x.key = some true) (c : List MapEntry) : ∀ (a : List MapEntry) (i : Nat), (∀ y ∈ a, Instr.sameNow dk v y.key = some false) -> Instr.findNow dk v (a ++ x :: c) i = some (some (i + a.length, x.val))
  | [], i, h => by simp [Instr.findNow, hx]
  | y :: a, i, h => by
    simp [Instr.findNow, h y (by simp), findNow_at hx c a (i + 1) fun z hz => h z (by simp [hz])]
    omega
theorem zkeyEq_comm {x y : ZV} (h : zkeyEq x y = some false) : zkeyEq y x = some false := by
  unfold zkeyEq at h; split at h
  . rename_i l n l' n'
    simp only [zkeyEq]; unfold zeqS at h ⊢
    cases h1 : zok l n with
    | false => simp [h1] at h
    | true =>
      cases h2 : zok l' n' with
      | false => simp [h1, h2] at h
      | true =>
        simp only [h1, h2] at h ⊢; by_cases e : l = l'
        . subst e; have hb : Nat.beq l l = true := by simp
          simp only [hb, Option.some.injEq] at h ⊢; have hne : n ≠ n' := fun e => by subst e; simp at h
          exact beq_ne fun e => hne e.symm
        . rw [beq_ne fun h => e h.symm]
  . rename_i k a k' b
    split at h
    . rename_i hk
      have hk := of_decide_eq_true hk; subst hk; simp only [Option.some.injEq, zeqI_eq] at h; simp only [zkeyEq, decide_true, zeqI_eq, Option.some.injEq]; simp at h ⊢; exact fun e => h e.symm
    . cases h
  . cases h
theorem ERels_split {ex : Bool} : ∀ {es : List ZEnt} {l : List MapEntry} (p : Nat) {e : ZEnt}, ERels S β n ex es l -> es[p]? = some e -> ∃ es1 es2 l1 l2 x, es = es1 ++ e :: es2 /\ l = l1 ++ x :: l2 /\ es1.length = p /\ l1.length = p /\ l[p]? = some x /\ ERels S β n ex es1 l1 /\ ERels S β n ex es2 l2
  | [], l, p, e, h, he => by simp at he
  | a :: es, l, 0, e, h, he => by
    rw [ERels] at h; obtain ⟨y, ys, rfl, g1, g2, g3, h⟩ := h; simp at he; subst he; exact ⟨[], es, [], ys, y, rfl, rfl, rfl, rfl, rfl, by rw [ERels], h⟩
  | a :: es, l, p + 1, e, h, he => by
    rw [ERels] at h; obtain ⟨y, ys, rfl, g1, g2, g3, h⟩ := h; obtain ⟨es1, es2, l1, l2, x, h1, h2, h3, h4, h5, h6, h7⟩ := ERels_split p h (by simpa using he)
    exact ⟨a :: es1, es2, y :: l1, l2, x, by rw [h1]; rfl, by rw [h2]; rfl, by simp [h3], by simp [h4], by simpa using h5, by rw [ERels]; exact ⟨y, l1, rfl, g1, g2, g3, h6⟩, h7⟩
theorem distinct_split : ∀ {es1 es2 : List ZEnt} {e : ZEnt}, distinct (es1 ++ e :: es2) -> ∀ y, y ∈ es1 \/ y ∈ es2 -> zkeyEq e.key y.key = some false
  | [], es2, e, h, y, hy => by
    rcases hy with hy | hy
    . cases hy
    . exact h.1 y hy
  | a :: es1, es2, e, h, y, hy => by
    rcases hy with hy | hy
    . rcases List.mem_cons.1 hy with rfl | hy
      . exact zkeyEq_comm (h.1 e (by simp))
      . exact distinct_split h.2 y (.inl hy)
    . exact distinct_split h.2 y (.inr hy)
theorem ERels_mem {ex : Bool} {dk : TypeDesc} {z : ZV} {v : Value} (hk : keyOk dk z v) : ∀ {es : List ZEnt} {l : List MapEntry}, ERels S β n ex es l -> (∀ y ∈ es, zkeyEq z y.key = some false) -> ∀ y ∈ l, Instr.sameNow dk v y.key = some false
  | [], l, h, _, y, hy => by rw [ERels] at h; subst h; cases hy
  | a :: es, l, h, ha, y, hy => by
    rw [ERels] at h; obtain ⟨x, xs, rfl, g1, g2, g3, h⟩ := h; rcases List.mem_cons.1 hy with rfl | hy
    . exact (zkeyEq_sound hk g1 (ha a (by simp))).1
    . exact ERels_mem hk h (fun y hy => ha y (by simp [hy])) y hy
theorem zfind_none {z : ZV} : ∀ {es : List ZEnt} {i : Nat}, zfind z es i = some none -> ∀ y ∈ es, zkeyEq z y.key = some false
  | [], i, h, y, hy => by cases hy
  | e :: es, i, h, y, hy => by
    simp only [zfind] at h; split at h
    . cases h
    . rename_i he
      rcases List.mem_cons.1 hy with rfl | hy
      . exact he
      . exact zfind_none h y hy
    . cases h
theorem findNow_perm {dk : TypeDesc} {z : ZV} {v : Value} (hk : keyOk dk z v) {es : List ZEnt} {l a : List MapEntry} {r : Option (Nat × ZEnt)} (hr : ERels S β n false es l) (hd : distinct es) (hp : l.Perm a) (hf : zfind z es 0 = some r) :
    (r = none -> Instr.findNow dk v a 0 = some none) /\ (∀ p e, r = some (p, e) -> ∃ es1 es2 l1 l2 a1 a2 x, es = es1 ++ e :: es2 /\ l = l1 ++ x :: l2 /\ a = a1 ++ x :: a2 /\ es1.length = p /\ l1.length = p /\ ERels S β n false es1 l1 /\ ERels S β n false es2 l2 /\ (l1 ++ l2).Perm (a1 ++ a2) /\
      Instr.findNow dk v a 0 = some (some (a1.length, x.val)) /\ VRel S β n e.val x.val /\ x.key = v) := by
  obtain ⟨h1, h2⟩ := zfind_sound hk hr hf; constructor
  . rintro rfl; refine findNow_none a 0 fun y hy => ?_
    exact ERels_mem hk hr (zfind_none hf) y (hp.mem_iff.2 hy)
  . intro p e he; obtain ⟨_, g2, x, g3, g4, g5, g6, g7, _⟩ := h2 p e he; rw [Nat.sub_zero] at g2 g3; obtain ⟨es1, es2, l1, l2, x', e1, e2, e3, e4, e5, e6, e7⟩ := ERels_split p hr g2; rw [g3] at e5; cases e5; have hxa : x ∈ a := hp.mem_iff.1 (by rw [e2]; simp)
    obtain ⟨a1, a2, rfl⟩ := List.append_of_mem hxa
    have hp2 : (l1 ++ l2).Perm (a1 ++ a2) := by
      have p1 : (x :: (l1 ++ l2)).Perm (l1 ++ x :: l2) := List.perm_middle.symm; have p2 : (a1 ++ x :: a2).Perm (x :: (a1 ++ a2)) := List.perm_middle; rw [e2] at hp; exact (p1.trans (hp.trans p2)).cons_inv
    refine ⟨es1, es2, l1, l2, a1, a2, x, e1, e2, rfl, e3, e4, e6, e7, hp2, ?_, g5, g7⟩; have hke : keyOk dk e.key v := by rw [<- g7]; exact g6
    have hdd := distinct_split (e1 ▸ hd); have f1 := ERels_mem hke e6 (fun y hy => hdd y (.inl hy))
    have f2 := ERels_mem hke e7 (fun y hy => hdd y (.inr hy))
    have := findNow_at (dk := dk) (v := v) (x := x) (by
      rcases hke with ⟨l, m, _, rfl, rfl⟩ | ⟨k, b, _, rfl, rfl⟩
      . rw [g7]; simp [Instr.sameNow, bbeq]
      . rw [g7]; simp [Instr.sameNow]) a2 a1 0 (fun y hy => by
        have : y ∈ l1 ++ l2 := hp2.mem_iff.2 (by simp [hy])
        rcases List.mem_append.1 this with h | h
        . exact f1 y h
        . exact f2 y h)
    simpa using this
theorem zlookup_sound (ok : EnvOk P E) (m : ZMem S w0 β n M w) {T : Nat} {x k : ZV} {xv kv : Value} (cok : Bool) (hx : VRel S β n x xv) (hk : VRel S β n k kv) : Gv P S w0 β n M w (zlookup E T x k cok) (Instr.lookup T xv kv cok) := by
  intro v M' n' hv; unfold zlookup at hv; have hq := zmap_ok ok hv; clear hv; obtain ⟨kt, e, dk, hu, hT, huk, hdk, hv⟩ := hq; have h1 := (zwhen_ok hv).1; replace hv := (zwhen_ok hv).2
  have hkey := zkeyOk_sound hdk hk h1
  have pack : ∀ {z : ZV} {u : Value} (b : Bool), VRel S β n z u -> VRel S β n (zpack cok z b) (if cok then .tuple #[u, .bool b] else u) := by
    intro z u b h
    cases cok with
    | false => exact h
    | true => simp only [zpack, if_true]; rw [VRel]; exact ⟨_, rfl, by simp [VRels, VRel, h]⟩
  have hz := (zwhen_ok hv).1; replace hv := (zwhen_ok hv).2
  obtain ⟨zv, z1, z2⟩ := zzero_sound (w := w) (S := S) (β := β) (n := n) ok hT hz
  have found : ∀ (b : Nat) (es : Array MapEntry) (ck : Nat) (fnd : Option (Nat × Value)), xv = .map (some b) -> w.heap[b]? = some (.map es ck) -> Instr.findNow dk kv es.toList 0 = some fnd -> (Instr.lookup T xv kv cok).run P w = .ok (match fnd with
        | some (_, u) => if cok then .tuple #[u, .bool true] else u
        | none => if cok then .tuple #[zv, .bool false] else zv) w := by
    intro b es ck fnd hxv hes hf; subst hxv; have hfk := run_findKey (P := P) (w := w) huk hf; have hget := Go.MapKept.run_getObj_map (P := P) hes; have hchk := run_key (P := P) (w := w) hkey huk es.isEmpty
    cases fnd with
    | none => simp [Instr.lookup, run_underlying hu, hget, hchk, hfk, z1]
    | some q => simp [Instr.lookup, run_underlying hu, hget, hchk, hfk]
  split at hv
  . rename_i j
    rw [VRel] at hx; obtain ⟨hj, hx⟩ := hx; split at hv
    . rename_i o hM
      obtain ⟨_, _, ho⟩ := m.key j o hM
      cases o with
      | map c es =>
        simp only [zents] at hv; obtain ⟨a, ha, hr⟩ := ho; split at hv
        . rename_i p e' hf
          cases hv; obtain ⟨_, _, y, _, g4, g5, _⟩ := (zfind_sound hkey hr hf).2 p e' rfl; exact ⟨_, w, β, found _ _ _ _ hx ha g4, pack true g5, .refl m⟩
        . rename_i hf
          cases hv; exact ⟨_, w, β, found _ _ _ _ hx ha ((zfind_sound hkey hr hf).1 rfl), pack false z2, .refl m⟩
        . cases hv
      | umap es =>
        simp only [zents] at hv; obtain ⟨a, c, l, ha, hp, hr, hd, hbo⟩ := ho; split at hv
        . rename_i p e' hf
          cases hv; obtain ⟨_, _, _, _, _, _, y, _, _, _, _, _, _, _, _, g4, g5, _⟩ := (findNow_perm hkey hr hd hp hf).2 p e' rfl; exact ⟨_, w, β, found _ _ _ _ hx ha g4, pack true g5, .refl m⟩
        . rename_i hf
          cases hv; exact ⟨_, w, β, found _ _ _ _ hx ha ((findNow_perm hkey hr hd hp hf).1 rfl), pack false z2, .refl m⟩
        . cases hv
      | _ => simp [zents] at hv
    . cases hv
  . rw [VRel] at hx; subst hx; cases hv; refine ⟨_, w, β, ?_, pack false z2, .refl m⟩; have hchk := run_key (P := P) (w := w) hkey huk true; have hf : (Instr.findKey kt kv []).run P w = .ok none w := run_findKey (P := P) (w := w) huk rfl; simp [Instr.lookup, run_underlying hu, hchk, hf, z1]
  . cases hv
theorem run_set {b : Nat} {es es' : Array MapEntry} {ck ck' : Nat} (h : w.heap[b]? = some (.map es ck)) : (setObj b (.map es' ck')).run P w = .ok () { w with heap := w.heap.setIfInBounds b (.map es' ck') } := Go.MapKept.run_setObj_map (P := P) (w := w) _ h
theorem put_map (m : ZMem S w0 β n M w) {j : Nat} {o0 o : ZO} {es es' : Array MapEntry} {ck ck' : Nat} (hM : M.get j = some o0) (hw : isW o0 = true) (h : w.heap[(β j).b]? = some (.map es ck))
    (ho : ORel S β n { w with heap := w.heap.setIfInBounds (β j).b (.map es' ck') } (β j) o) (hnc : ∀ T h d, o = .cells T 0 h d -> False := by intro _ _ _ e; cases e) (hwo : isW o = true := by rfl) : ZPost S w0 β n M w β n (M.set j (some o)) { w with heap := w.heap.setIfInBounds (β j).b (.map es' ck') } := by
  obtain ⟨s1, s2⟩ := heap_set (o' := .map es' ck') h; exact ZPost.put m hM hw ho (fun T h d e => (hnc T h d e).elim) rfl rfl rfl (by simp) (fun b _ hne => s2 b hne) hwo
theorem heap_at {j : Nat} {es es' : Array MapEntry} {ck ck' : Nat} (h : w.heap[j]? = some (.map es ck)) : ({ w with heap := w.heap.setIfInBounds j (.map es' ck') } : World).heap[j]? = some (.map es' ck') := (heap_set (o' := .map es' ck') h).1
theorem ERels_mid {ex : Bool} {e : ZEnt} {x : MapEntry} (h1 : VRel S β n e.key x.key) (h2 : VRel S β n e.val x.val) (h3 : ex = true -> x.born = e.born) {es2 : List ZEnt} {l2 : List MapEntry} (k2 : ERels S β n ex es2 l2) : ∀ {es1 : List ZEnt} {l1 : List MapEntry}, ERels S β n ex es1 l1 -> ERels S β n ex (es1 ++ e :: es2) (l1 ++ x :: l2)
  | [], l, h => by rw [ERels] at h; subst h; rw [List.nil_append, ERels]; exact ⟨x, l2, rfl, h1, h2, h3, k2⟩
  | a :: es, l, h => by
    rw [ERels] at h; obtain ⟨y, ys, rfl, g1, g2, g3, h⟩ := h; rw [List.cons_append, ERels]; exact ⟨y, ys ++ x :: l2, rfl, g1, g2, g3, ERels_mid h1 h2 h3 k2 h⟩
theorem distinct_keys : ∀ {es es' : List ZEnt}, es.map (·.key) = es'.map (·.key) -> distinct es -> distinct es'
  | [], [], _, _ => trivial
  | [], b :: es', h, _ => by simp at h
  | a :: es, [], h, _ => by simp at h
  | a :: es, b :: es', h, hd => by
    simp only [List.map_cons, List.cons.injEq] at h; refine ⟨fun x hx => ?_, distinct_keys h.2 hd.2⟩
    have : x.key ∈ es.map (·.key) := by rw [h.2]; exact List.mem_map_of_mem hx
    obtain ⟨y, hy, e⟩ := List.mem_map.1 this; rw [<- h.1, <- e]; exact hd.1 y hy
theorem zkeyEq_true {x y : ZV} (h : zkeyEq x y = some true) : x = y := by
  unfold zkeyEq at h; split at h
  . unfold zeqS at h; split at h
    . split at h
      . rename_i hl
        have hl := beq_true hl; simp only [Option.some.injEq] at h; have hn := beq_true h; rw [hl, hn]
      . cases h
    . cases h
  . split at h
    . rename_i hk
      have hk := of_decide_eq_true hk; simp only [Option.some.injEq, zeqI_eq] at h; have := eq_of_beq h; rw [hk, this]
    . cases h
  . cases h
theorem zfind_key {z : ZV} : ∀ {es : List ZEnt} {i p : Nat} {e : ZEnt}, zfind z es i = some (some (p, e)) -> e.key = z
  | [], i, p, e, h => by simp [zfind] at h
  | a :: es, i, p, e, h => by
    simp only [zfind] at h; split at h
    . rename_i he
      cases h; exact (zkeyEq_true he).symm
    . exact zfind_key h
    . cases h
theorem zmapPut_sound (ok : EnvOk P E) (m : ZMem S w0 β n M w) {T : Nat} {x k v : ZV} {xv kv vv : Value} (hx : VRel S β n x xv) (hk : VRel S β n k kv) (hvv : VRel S β n v vv) :
    ∀ r M' n', zmapPut E T x k v M n = .ok r M' n' -> ∃ w', (Instr.mapUpdate T xv kv vv).run P w = .ok () w' /\ r = zundef /\ ZPost S w0 β n M w β n' M' w' /\ ∀ jx, x = .mp jx -> ∀ b, b ≠ (β jx).b -> w'.heap[b]? = w.heap[b]? := by
  intro r M' n' hv; unfold zmapPut at hv; have hq := zmap_ok ok hv; clear hv; obtain ⟨kt, e, dk, hu, hT, huk, hdk, hv⟩ := hq; have h1 := (zwhen_ok hv).1; replace hv := (zwhen_ok hv).2
  have hkey := zkeyOk_sound hdk hk h1; split at hv
  . rename_i j
    rw [VRel] at hx; obtain ⟨hj, rfl⟩ := hx; split at hv
    . rename_i o hM
      obtain ⟨_, _, ho⟩ := m.key j o hM; have hchk := run_key (P := P) (w := w) hkey huk false; split at hv
      . rename_i o' hset
        cases hv
        have same : ∀ u, u = kv -> (Instr.keyThatStays u kv).run P w = .ok kv w := by
          rintro u rfl
          have : Instr.sameBits 10000 u u = true := by
            rcases hkey with ⟨l, q, _, rfl, _⟩ | ⟨q, a, _, rfl, _⟩ <;> simp [Instr.sameBits, bbeq]
          simp [Instr.keyThatStays, this]
        cases o with
        | map c es =>
          obtain ⟨a, ha, hr⟩ := ho; have hget := Go.MapKept.run_getObj_map (P := P) ha; simp only [zmapSet] at hset; split at hset
          . rename_i p e' hf
            cases hset; obtain ⟨_, g2, y, g3, g4, g5, g6, g7, g8⟩ := (zfind_sound hkey hr hf).2 p e' rfl; rw [Nat.sub_zero] at g2 g3; have hfk := run_findKey (P := P) (w := w) huk g4; have hpa : a[p]? = some y := by simpa using g3
            refine ⟨_, ?_, rfl, put_map m hM rfl ha (es' := a.modify p fun e => { e with key := kv, val := vv }) (ck' := c) ?_, fun jx e b hb => by cases e; exact (heap_set ha).2 b hb⟩
            . simp [Instr.mapUpdate, run_underlying hu, hget, hchk, hfk, hpa, same _ g7, run_set ha]
            . refine ⟨_, heap_at ha, ?_⟩
              have : (a.modify p fun e => { e with key := kv, val := vv }).toList = a.toList.set p ⟨kv, vv, y.born⟩ := by
                rw [Array.toList_modify]; refine List.ext_getElem? fun i => ?_
                rw [List.getElem?_modify, List.getElem?_set]; by_cases hi : p = i
                . subst hi; rw [g3]; have hlt : p < a.size := by rw [<- Array.length_toList (xs := a)]; exact (List.getElem?_eq_some_iff.1 g3).1
                  simp [hlt]
                . simp [hi]
              rw [this]; exact ERels_set (e := ⟨k, v, e'.born⟩) (x := ⟨kv, vv, y.born⟩) hk hvv (fun _ => g8 rfl) p hr
          . rename_i hf
            cases hset; have hfk := run_findKey (P := P) (w := w) huk ((zfind_sound hkey hr hf).1 rfl); refine ⟨_, ?_, rfl, put_map m hM rfl ha (es' := a.push ⟨kv, vv, c⟩) (ck' := c + 1) ?_, fun jx e b hb => by cases e; exact (heap_set ha).2 b hb⟩
            . simp [Instr.mapUpdate, run_underlying hu, hget, hchk, hfk, run_set ha]
            . refine ⟨_, heap_at ha, ?_⟩; rw [Array.toList_push]; exact ERels_push hk hvv (fun _ => rfl) hr
          . cases hset
        | umap es =>
          obtain ⟨a, c, l, ha, hp, hr, hd, hbo⟩ := ho; have hget := Go.MapKept.run_getObj_map (P := P) ha; simp only [zmapSet] at hset; split at hset
          . rename_i p e' hf
            cases hset; obtain ⟨es1, es2, l1, l2, a1, a2, y, e1, e2, e3, e4, e5, e6, e7, e8, g4, g5, g7⟩ := (findNow_perm hkey hr hd hp hf).2 p e' rfl; have hfk := run_findKey (P := P) (w := w) huk g4
            have hpa : a[a1.length]? = some y := by
              rw [<- Array.getElem?_toList, e3]; simp
            refine ⟨_, ?_, rfl, put_map m hM rfl ha (es' := a.modify a1.length fun e => { e with key := kv, val := vv }) (ck' := c) ?_, fun jx e b hb => by cases e; exact (heap_set ha).2 b hb⟩
            . simp [Instr.mapUpdate, run_underlying hu, hget, hchk, hfk, hpa, same _ g7, run_set ha]
            . have htl : (a.modify a1.length fun e => { e with key := kv, val := vv }).toList = a1 ++ ⟨kv, vv, y.born⟩ :: a2 := by
                  rw [Array.toList_modify, e3]; refine List.ext_getElem? fun i => ?_
                  rw [List.getElem?_modify]; by_cases hi : a1.length = i
                  . subst hi; simp
                  . have : ∀ o : Option MapEntry, (fun a => if a1.length = i then ({ key := kv, val := vv, born := a.born } : MapEntry) else a) <$> o = o := by intro o; cases o <;> simp [hi]
                    rw [this]; rcases Nat.lt_or_ge i a1.length with h | h
                    . rw [List.getElem?_append_left h, List.getElem?_append_left h]
                    . rw [List.getElem?_append_right h, List.getElem?_append_right h, show i - a1.length = (i - a1.length - 1) + 1 by omega]; rfl
              refine ⟨_, c, l1 ++ ⟨kv, vv, y.born⟩ :: l2, heap_at ha, ?_, ?_, ?_, ?_⟩
              . rw [htl]; exact (List.perm_middle.trans (List.Perm.cons _ e8)).trans List.perm_middle.symm
              . subst e1; rw [List.set_append_right _ _ (by omega), e4, Nat.sub_self, List.set_cons_zero]
                exact ERels_mid (e := ⟨k, v, e'.born⟩) (x := ⟨kv, vv, y.born⟩) hk hvv (fun h => by cases h) e7 e6
              . refine distinct_keys ?_ hd; have hke := zfind_key hf; rw [e1, List.set_append_right _ _ (by omega), e4, Nat.sub_self, List.set_cons_zero]
                simp [hke]
              . rw [htl]; rw [e3] at hbo; refine ⟨by simpa using hbo.1, fun x hx => ?_⟩
                simp only [List.mem_append, List.mem_cons] at hx; rcases hx with h | rfl | h
                . exact hbo.2 x (by simp [h])
                . exact hbo.2 y (by simp)
                . exact hbo.2 x (by simp [h])
          . rename_i hf
            cases hset; have hfk := run_findKey (P := P) (w := w) huk ((findNow_perm hkey hr hd hp hf).1 rfl); refine ⟨_, ?_, rfl, put_map m hM rfl ha (es' := a.push ⟨kv, vv, c⟩) (ck' := c + 1) ?_, fun jx e b hb => by cases e; exact (heap_set ha).2 b hb⟩
            . simp [Instr.mapUpdate, run_underlying hu, hget, hchk, hfk, run_set ha]
            . refine ⟨_, c + 1, ⟨kv, vv, c⟩ :: l, heap_at ha, ?_, ?_, ?_, ?_⟩
              . rw [Array.toList_push]; exact (List.Perm.cons _ hp).trans (List.perm_append_singleton _ _).symm
              . rw [ERels]; exact ⟨_, l, rfl, hk, hvv, fun h => (by cases h), hr⟩
              . exact ⟨zfind_none hf, hd⟩
              . rw [Array.toList_push]; refine ⟨?_, fun x hx => ?_⟩
                . rw [List.map_append, List.nodup_append]; refine ⟨hbo.1, by simp, fun b hb b' hb' => ?_⟩
                  obtain ⟨x, hx, rfl⟩ := List.mem_map.1 hb; have := hbo.2 x hx; simp at hb'; subst hb'; omega
                . rcases List.mem_append.1 hx with h | h
                  . exact Nat.lt_succ_of_lt (hbo.2 x h)
                  . simp at h; subst h; exact Nat.lt_succ_self _
          . cases hset
        | _ => simp [zmapSet] at hset
      . cases hv
    . cases hv
  . cases hv
theorem zmapEntry_sound (ok : EnvOk P E) (m : ZMem S w0 β n M w) {T : Nat} {x k : ZV} {xv kv : Value} (hx : VRel S β n x xv) (hk : VRel S β n k kv) : Gv P S w0 β n M w (zmapEntry E T x k) (Instr.mapEntry T xv kv) := by
  intro r M' n' hv; unfold zmapEntry at hv; have hq := zmap_ok ok hv; clear hv; obtain ⟨kt, e, dk, hu, hT, huk, hdk, hv⟩ := hq; have h1 := (zwhen_ok hv).1; replace hv := (zwhen_ok hv).2
  have hz := (zwhen_ok hv).1; replace hv := (zwhen_ok hv).2
  have hkey := zkeyOk_sound hdk hk h1; obtain ⟨zv, z1, z2⟩ := zzero_sound (w := w) (S := S) (β := β) (n := n) ok hT hz; split at hv
  . rename_i j
    rw [VRel] at hx; obtain ⟨hj, rfl⟩ := hx; split at hv
    . rename_i c es hM
      obtain ⟨_, _, a, ha, hr⟩ := m.key j _ hM; have hchk := run_key (P := P) (w := w) hkey huk false
      have same : ∀ u, u = kv -> (Instr.keyThatStays u kv).run P w = .ok kv w := by
        rintro u rfl
        have : Instr.sameBits 10000 u u = true := by
          rcases hkey with ⟨l, q, _, rfl, _⟩ | ⟨q, a, _, rfl, _⟩ <;> simp [Instr.sameBits, bbeq]
        simp [Instr.keyThatStays, this]
      have hget := Go.MapKept.run_getObj_map (P := P) ha; split at hv
      . rename_i p e' hf
        cases hv; obtain ⟨_, g2, y, g3, g4, g5, g6, g7, g8⟩ := (zfind_sound hkey hr hf).2 p e' rfl; rw [Nat.sub_zero] at g2 g3; have hfk := run_findKey (P := P) (w := w) huk g4; have hpa : a[p]? = some y := by simpa using g3
        refine ⟨.tuple #[y.val, goInt y.born], _, β, ?_, ?_, put_map m hM rfl ha (es' := a.modify p fun e => { e with key := kv }) (ck' := c) ?_⟩
        . simp [Instr.mapEntry, run_underlying hu, hget, hchk, hfk, hpa, same _ g7, run_set ha]
        . rw [VRel]; exact ⟨_, rfl, by rw [g8 rfl]; simp [VRels, VRel, g5, goInt]⟩
        . refine ⟨_, heap_at ha, ?_⟩
          have : (a.modify p fun e => { e with key := kv }).toList = a.toList.set p ⟨kv, y.val, y.born⟩ := by
            rw [Array.toList_modify]; refine List.ext_getElem? fun i => ?_
            rw [List.getElem?_modify, List.getElem?_set]; by_cases hi : p = i
            . subst hi; rw [g3]; have hlt : p < a.size := by rw [<- Array.length_toList (xs := a)]; exact (List.getElem?_eq_some_iff.1 g3).1
              simp [hlt]
            . simp [hi]
          rw [this]; exact ERels_set (e := ⟨k, e'.val, e'.born⟩) (x := ⟨kv, y.val, y.born⟩) hk g5 (fun _ => g8 rfl) p hr
      . rename_i hf
        cases hv; have hfk := run_findKey (P := P) (w := w) huk ((zfind_sound hkey hr hf).1 rfl); refine ⟨.tuple #[zv, goInt c], _, β, ?_, ?_, put_map m hM rfl ha (es' := a.push ⟨kv, zv, c⟩) (ck' := c + 1) ?_⟩
        . simp [Instr.mapEntry, run_underlying hu, hget, hchk, hfk, run_set ha, z1]
        . rw [VRel]; exact ⟨_, rfl, by simp [VRels, VRel, z2, goInt]⟩
        . refine ⟨_, heap_at ha, ?_⟩; rw [Array.toList_push]; exact ERels_push hk z2 (fun _ => rfl) hr
      . cases hv
    . cases hv
  . cases hv
theorem zborn_sound {b : Nat} : ∀ {es : List ZEnt} {l : List MapEntry} {i p : Nat} {e : ZEnt}, ERels S β n true es l -> zborn b es i = some (p, e) -> i <= p /\ es[p - i]? = some e /\ ∃ x, l[p - i]? = some x /\ VRel S β n e.key x.key /\ x.born = e.born /\ l.findIdx? (fun x => (x.born : Int) == (b : Int)) = some (p - i)
  | [], l, i, p, e, h, hf => by simp [zborn] at hf
  | a :: es, l, i, p, e, h, hf => by
    rw [ERels] at h; obtain ⟨x, xs, rfl, g1, g2, g3, h⟩ := h; simp only [zborn] at hf; split at hf
    . rename_i hb
      have hb := beq_true hb; cases hf; refine ⟨Nat.le_refl _, by simp, x, by simp, g1, g3 rfl, ?_⟩
      rw [List.findIdx?_cons, g3 rfl, hb]; simp
    . rename_i hb
      obtain ⟨f1, f2, y, f3, f4, f5, f6⟩ := zborn_sound h hf; have e1 : p - i = (p - Nat.succ i) + 1 := by omega
      refine ⟨by omega, by rw [e1]; simpa using f2, y, by rw [e1]; simpa using f3, f4, f5, ?_⟩
      rw [List.findIdx?_cons, g3 rfl]; have hne : a.born ≠ b := fun h => by rw [h] at hb; simp at hb
      have : ((a.born : Int) == (b : Int)) = false := by simp; omega
      rw [this, f6, e1]; simp
theorem zentryStore_sound (m : ZMem S w0 β n M w) {T : Nat} {x k v : ZV} {xv kv vv : Value} (hx : VRel S β n x xv) (hk : VRel S β n k kv) (hvv : VRel S β n v vv) :
    ∀ r M' n', zentryStore x k v M n = .ok r M' n' -> ∃ w', (Instr.entryStore T xv kv vv).run P w = .ok () w' /\ r = zundef /\ ZPost S w0 β n M w β n' M' w' := by
  intro r M' n' hv; unfold zentryStore at hv; split at hv
  . rename_i j b
    rw [VRel] at hx; rw [VRel] at hk; obtain ⟨hj, rfl⟩ := hx; subst hk; split at hv
    . rename_i c es hM
      obtain ⟨_, _, a, ha, hr⟩ := m.key j _ hM; have hget := Go.MapKept.run_getObj_map (P := P) ha; split at hv
      . rename_i p e' hf
        cases hv; obtain ⟨_, g2, y, g3, g4, g5, g6⟩ := zborn_sound hr hf; rw [Nat.sub_zero] at g2 g3 g6
        have g6' : a.findIdx? (fun x => (x.born : Int) == (b : Int)) = some p := by
          have := List.findIdx?_toArray (l := a.toList) (p := fun x : MapEntry => (x.born : Int) == (b : Int))
          simpa [g6] using this
        refine ⟨_, ?_, rfl, put_map m hM rfl ha (es' := a.modify p fun e => { e with val := vv }) (ck' := c) ?_⟩
        . have : (Instr.entryStore T (.map (some (β j).b)) (.int .i64 (Int.ofNat b)) vv).run P w = ((match a.findIdx? (fun x => (x.born : Int) == (b : Int)) with
            | some i => setObj (β j).b (.map (a.modify i fun e => { e with val := vv }) c)
            | none => unsupported (.noEntry "instr/MapEntry.the entry is gone") : Sem Unit)).run P w := by
            simp only [Instr.entryStore, Sem.run_bind, hget, Result.andThen_ok]; rfl
          rw [this, g6']; exact run_set ha
        . refine ⟨_, heap_at ha, ?_⟩
          have : (a.modify p fun e => { e with val := vv }).toList = a.toList.set p ⟨y.key, vv, y.born⟩ := by
            rw [Array.toList_modify]; refine List.ext_getElem? fun i => ?_
            rw [List.getElem?_modify, List.getElem?_set]; by_cases hi : p = i
            . subst hi; rw [g3]; have hlt : p < a.size := by rw [<- Array.length_toList (xs := a)]; exact (List.getElem?_eq_some_iff.1 g3).1
              simp [hlt]
            . simp [hi]
          rw [this]; exact ERels_set (e := ⟨e'.key, v, e'.born⟩) (x := ⟨y.key, vv, y.born⟩) g4 hvv (fun _ => g5) p hr
      . cases hv
    . cases hv
  . cases hv
end
end Go.Z
