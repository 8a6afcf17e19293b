/- The engine, part 6: indexes, slices, makes, builds, appends. The engine, part 6m: maps from strings. -/
import Derived.Test.YtkgiopdkhhinoaaGreatDoorXab
import Derived.Laws.MakeOwn
import Derived.MapKept
set_option linter.all false
namespace Go.Eng
section
variable {P : Program} {tab : Nat -> TI} {Q : QT} {E : Env} {t : List SV} {own : Own} {n : Nat} {K : SV -> Own -> Nat -> R} {a : Act} {w : World} {β : Nat -> Value} {S : Snap}
  {QQ : Exit -> Act -> World -> Prop}
theorem sl_facts {T e : TypeId} (hT : TFacts P T (tab T)) (he : (tab T).d = .sl e) : P.underlying T = some (.slice e) := by
  obtain ⟨i1, d1, z1, hi, hu, _, _, _, _, hd⟩ := hT; rw [he] at hd; rw [hu, hd]
theorem run_indexAddr {o : Oper} {T e : TypeId} {x ix : Operand} {ie : TypeInfo} (ho : o.op = .indexAddr T x ix) (hu : P.underlying T = some (.slice e)) (hie : P.info? e = some ie) {b off len cap : Nat} {k : IntKind} {i : Int}
    (hx : a.eval x = .slice (some ⟨b, off, none⟩) len cap) (hi : a.eval ix = .int k i) (h0 : 0 <= i) (h1 : i < len) :
    (execOp a.eval o).run P w = .ok (.value (.pointer (some ⟨b, off + i.toNat * ie.size, none⟩))) w := by
  simp [execOp, ho, hx, hi, Instr.indexAt, run_underlying hu, asIntOf, h0, h1, sizeOf, typeInfo, hie, Addr.add_mid]
theorem s_indexAddr {o : Oper} {T : Nat} {x ix : Operand} (ht : TabOk P tab) (ho : o.op = .indexAddr T x ix) : Snd P tab Q E t own n K o a w QQ := by
  intro β S h r; rw [show opProg tab o = rdO x fun v => rdO ix fun vi => withT tab T fun iT => isSl iT fun e => withT tab e fun i => indexAddrOp i.size v vi by unfold opProg; rw [ho]] at h
  obtain ⟨vx, h1, g2, g3⟩ := rdO_sound x _ h r; obtain ⟨vi, h1, f2, f3⟩ := rdO_sound ix _ h1 r; obtain ⟨hT, h1⟩ := withT_sound ht T _ h1; obtain ⟨e, he, h1⟩ := isSl_sound h1; have hu := sl_facts hT he; obtain ⟨⟨ie, de, ze, hie, _, hse, _⟩, h1⟩ := withT_sound ht e _ h1; unfold indexAddrOp at h1; split at h1
  . obtain ⟨hsz, h2⟩ := when_sound h1; obtain ⟨⟨hi0, hi1⟩, h2⟩ := need_sound h2; have hsz := beq_true hsz; rw [SRep] at g3; rw [SRep] at f3; rw [DRep] at g3; rcases g3 with ⟨g3, _⟩ | ⟨b, off, cap, c, T', fr, e1, e2, e3, e4⟩
    . rw [g3] at hi1; simp at hi1; omega
    . refine wp_value (run_indexAddr ho hu hie e1 f3 hi0 hi1) (.same r (ret_sound h2) ?_ (by simp [KB]))
      rw [SRep]; exact ⟨b, off, c, T', fr, e3, e4, hi0, hi1, by rw [hse, hsz]; rfl⟩
  . obtain ⟨bk, hb, h2⟩ := rdB_sound h1
    cases bk with
    | arr T' sz l =>
      obtain ⟨hsz, h3⟩ := when_sound h2; obtain ⟨⟨hi0, hi1⟩, h3⟩ := need_sound h3; have hsz := beq_true hsz; rw [SRep] at g3; rw [SRep] at f3; obtain ⟨xs, ⟨o1, o2⟩, o3⟩ := r.mem.blk _ _ hb; rcases o2 with ⟨_, o2⟩ | ⟨g, cap', cur, q1, q2, q3, q4, q5, q6, q7⟩
      . omega
      . refine wp_value (run_indexAddr ho hu hie (by rw [g3.1, q1]) f3 hi0 hi1) (.same r (ret_sound h3) ?_ (by simpa [KB] using g2))
        rw [SRep]; exact ⟨hi0, g, _, cap', q1, hi1, by rw [hse, hsz]; simp⟩
    | hole T' l hh q =>
      obtain ⟨hsz, h3⟩ := when_sound h2; obtain ⟨⟨hi0, hi1⟩, h3⟩ := need_sound h3; have hsz := beq_true hsz; rw [SRep] at g3; rw [SRep] at f3; obtain ⟨xs, ⟨o1, o2⟩, o3⟩ := r.mem.blk _ _ hb; have hll : ((l ()).set (hh ()).toNat [DV.raw (β q)]).length = (l ()).length := List.length_set; rw [hll] at o2; rcases o2 with ⟨_, o2⟩ | ⟨g, cap', cur, q1, q2, q3, q4, q5, q6, q7⟩
      . omega
      . refine wp_value (run_indexAddr ho hu hie (by rw [g3.1, q1]) f3 hi0 hi1) (.same r (ret_sound h3) ?_ (by simpa [KB] using g2))
        rw [SRep]; exact ⟨hi0, g, _, cap', q1, hi1, by rw [hse, <- hsz]; simp⟩
    | _ => exact (not_stuck (by simpa [runAP] using h2)).elim
  . obtain ⟨bk, hb, h2⟩ := rdB_sound h1
    cases bk with
    | arr T' sz l =>
      obtain ⟨hsz, h3⟩ := when_sound h2; obtain ⟨hsz2, h3⟩ := when_sound h3; obtain ⟨⟨hi0, hi1, hi2⟩, h3⟩ := need_sound h3; have hsz := beq_true hsz; have hsz2 := beq_true hsz2; rw [SRep] at g3; rw [SRep] at f3; obtain ⟨xs, ⟨o1, o2⟩, o3⟩ := r.mem.blk _ _ hb; obtain ⟨p0, p1, p2⟩ := g3; rcases o2 with ⟨_, o2⟩ | ⟨g, cap', cur, q1, q2, q3, q4, q5, q6, q7⟩
      . omega
      . rcases p2 with ⟨g', n', cap, off, d1, d2, d3, d4, d5⟩ | ⟨d1, d2, d3⟩
        . rw [q1] at d1; cases d1; refine wp_value (run_indexAddr ho hu hie d5 f3 hi0 (by omega)) (.same r (ret_sound h3) ?_ (by simpa [KB] using g2))
          rw [SRep]; refine ⟨by omega, g, _, cap', q1, by omega, ?_⟩
          rw [d3 (by omega), hse, hsz2, hsz]
          congr 3; rw [Int.toNat_add p0 hi0, Nat.add_mul]; rfl
        . rw [q1] at d1; cases d1
    | _ => exact (not_stuck (by simpa [runAP] using h2)).elim
  . exact (not_stuck (by simpa [runAP] using h1)).elim
theorem byte_at (s : ByteArray) (i : Nat) (h : i < s.size) : ∃ c, s[i]? = some c /\ s.data.toList.getD i 0 = c := by
  obtain ⟨d⟩ := s; have h' : i < d.size := h; refine ⟨d[i], ?_, by simp [List.getD, h']⟩
  show (if h : i < d.size then some d[i] else none) = _
  simp [h']
theorem s_index {o : Oper} {T : Nat} {x ix : Operand} (ht : TabOk P tab) (ho : o.op = .index T x ix) : Snd P tab Q E t own n K o a w QQ := by
  intro β S h r; rw [show opProg tab o = rdO x fun v => rdO ix fun vi => withT tab T fun i => indexOp i.d v vi by unfold opProg; rw [ho]] at h
  obtain ⟨vx, h1, g2, g3⟩ := rdO_sound x _ h r; obtain ⟨vi, h1, f2, f3⟩ := rdO_sound ix _ h1 r; obtain ⟨⟨ie, de, ze, hie, hu, hse, _, _, _, hd⟩, h1⟩ := withT_sound ht T _ h1; generalize (tab T).d = dd at h1 hd
  cases dd with
  | str =>
    cases vx with
    | str s =>
      cases vi with
      | int kk k =>
        obtain ⟨⟨hi0, hi1⟩, h2⟩ := need_sound h1; rw [SRep] at g3; rw [SRep] at f3; simp only [tdOk] at hd; subst hd; have hlt : (k ()).toNat < (s ()).size := by omega
        refine wp_value (v' := .int .u8 _) ?_ (.same r (ret_sound h2) (SRep_int _ _) (by simp [KB]))
        obtain ⟨c, hg, hd⟩ := byte_at (s ()) _ hlt; rw [hd]; simp [execOp, ho, g3, f3, Instr.index, asIntOf, run_underlying hu, hi0, hg]
      | _ => exact (not_stuck (by simpa [indexOp, runAP] using h1)).elim
    | _ => exact (not_stuck (by simpa [indexOp, runAP] using h1)).elim
  | _ => exact (not_stuck (by simpa [indexOp, runAP] using h1)).elim
theorem s_makeFunc {o : Oper} {f : Nat} {first caps : Array Operand} (ho : o.op = .makeFunc (.func f) first caps) : Snd P tab Q E t own n K o a w QQ := by
  intro β S h r; rw [show opProg tab o = when (Nat.beq first.toList.length 0) (rdOs caps.toList fun vs => .ret (.fn f vs)) by unfold opProg; rw [ho]] at h
  obtain ⟨h0, h1⟩ := when_sound h; have h0 := beq_true h0; have h0 : first = #[] := by simpa using h0
  obtain ⟨svs, h1, g2, g3⟩ := rdOs_sound _ _ h1 r; subst h0; refine wp_value (v' := .func (.func f) #[] (caps.map a.eval)) ?_ (.same r (ret_sound h1) ?_ (by rw [KB]; exact g2))
  . simp [execOp, ho, Instr.makeFunc]
  . rw [SRep]; exact ⟨_, rfl, by simpa using g3⟩
theorem s_extract {o : Oper} {i : Nat} {x : Operand} (ho : o.op = .extract x i) : Snd P tab Q E t own n K o a w QQ := by
  intro β S h r; rw [show opProg tab o = rdO x fun v => extractOp v i by unfold opProg; rw [ho]] at h
  obtain ⟨vx, h1, g2, g3⟩ := rdO_sound x _ h r
  cases vx with
  | tup l =>
    simp only [extractOp] at h1; obtain ⟨hi, h1⟩ := when_sound h1; have hi : i < l.length := by simpa [Nat.blt_eq] using hi
    rw [SRep] at g3; rw [KB] at g2; obtain ⟨cs, e, e2⟩ := g3; have hl := SReps_length e2; simp only [Array.length_toList] at hl; have hlt : i < cs.size := by omega
    have hrep := SReps_nth i e2; refine wp_value (v' := cs.toList.getD i undef) ?_ (.same r (ret_sound h1) hrep (KBs_nth i g2)); simp [execOp, ho, e, Instr.extract, hlt, List.getD]
  | _ => exact (not_stuck (by simpa [extractOp, runAP] using h1)).elim
theorem optO_sound (o : Option Operand) (k : Option SV -> AP) (h : Holds P tab Q (runAP (optO o k) t own n K)) (r : RelB E ⟨t, own, n⟩ a w β S) :
    ∃ sv, Holds P tab Q (runAP (k sv) t own n K) /\ ((o = none /\ sv = none) \/ ∃ o' s, o = some o' /\ sv = some s /\ KB n s /\ SRep β S s (a.eval o')) := by
  cases o with
  | none => exact ⟨none, h, .inl ⟨rfl, rfl⟩⟩
  | some o =>
    obtain ⟨s, h1, h2, h3⟩ := rdO_sound o _ h r; exact ⟨some s, h1, .inr ⟨o, s, rfl, rfl, h2, h3⟩⟩
theorem bnds_sound {N : Unit -> Int} {lo hi : Option SV} {lo' hi' : Option Value} {k : (Unit -> Int) -> (Unit -> Int) -> AP} (b : Bool) (len cap : Nat) (hN : N () = len) (hlc : len <= cap) (h : Holds P tab Q (runAP (bnds N lo hi k) t own n K))
    (hl : (lo = none /\ lo' = none) \/ ∃ s v, lo = some s /\ lo' = some v /\ SRep β S s v) (hh : (hi = none /\ hi' = none) \/ ∃ s v, hi = some s /\ hi' = some v /\ SRep β S s v) :
    ∃ x y, Holds P tab Q (runAP (k x y) t own n K) /\ 0 <= x () /\ x () <= y () /\ y () <= len /\ (Instr.sliceBounds b len cap lo' hi' none).run P w = .ok ((x ()).toNat, (y ()).toNat, cap) w := by
  rcases hl with ⟨rfl, rfl⟩ | ⟨s, v, rfl, rfl, hs⟩
  . rcases hh with ⟨rfl, rfl⟩ | ⟨s, v, rfl, rfl, hs⟩
    . refine ⟨_, _, h, Int.le_refl _, by omega, by omega, ?_⟩
      simp [Instr.sliceBounds, hN]
    . cases s with
      | int kk f =>
        obtain ⟨⟨h1, h2⟩, h⟩ := need_sound h; rw [SRep] at hs; subst hs; refine ⟨_, _, h, Int.le_refl _, h1, by omega, ?_⟩
        have : f () <= cap := by omega
        simp [Instr.sliceBounds, Instr.sliceBound, asIntOf, h1, this]
      | _ => exact (not_stuck (by simpa [bnds, runAP] using h)).elim
  . cases s with
    | int kk f =>
      rw [SRep] at hs; subst hs; rcases hh with ⟨rfl, rfl⟩ | ⟨s, v, rfl, rfl, hs⟩
      . obtain ⟨⟨h1, h2⟩, h⟩ := need_sound h; refine ⟨_, _, h, h1, h2, by omega, ?_⟩
        have : f () <= len := by omega
        simp [Instr.sliceBounds, Instr.sliceBound, asIntOf, h1, this, hN]
      . cases s with
        | int kk' g =>
          obtain ⟨⟨h1, h2, h3⟩, h⟩ := need_sound h; rw [SRep] at hs; subst hs; refine ⟨_, _, h, h1, h2, by omega, ?_⟩
          have e1 : g () <= cap := by omega
          have e2 : 0 <= g () := by omega
          simp [Instr.sliceBounds, Instr.sliceBound, asIntOf, h1, e1, e2]; intro hh; omega
        | _ => exact (not_stuck (by simpa [bnds, runAP] using h)).elim
    | _ => cases hi <;> exact (not_stuck (by simpa [bnds, runAP] using h)).elim
theorem bndsC_sound {N C : Unit -> Int} {lo hi : Option SV} {lo' hi' : Option Value} {k : (Unit -> Int) -> (Unit -> Int) -> AP} (b : Bool) (len cap : Nat) (hN : N () = len) (hlc : len <= cap) (hC : C () <= cap) (h : Holds P tab Q (runAP (bndsC N C lo hi k) t own n K))
    (hl : (lo = none /\ lo' = none) \/ ∃ s v, lo = some s /\ lo' = some v /\ SRep β S s v) (hh : (hi = none /\ hi' = none) \/ ∃ s v, hi = some s /\ hi' = some v /\ SRep β S s v) :
    ∃ x y, Holds P tab Q (runAP (k x y) t own n K) /\ 0 <= x () /\ x () <= y () /\ y () <= cap /\ (Instr.sliceBounds b len cap lo' hi' none).run P w = .ok ((x ()).toNat, (y ()).toNat, cap) w := by
  rcases hl with ⟨rfl, rfl⟩ | ⟨s, v, rfl, rfl, hs⟩
  . rcases hh with ⟨rfl, rfl⟩ | ⟨s, v, rfl, rfl, hs⟩
    . refine ⟨_, _, h, Int.le_refl _, by omega, by omega, ?_⟩
      simp [Instr.sliceBounds, hN]
    . cases s with
      | int kk f =>
        obtain ⟨⟨h1, h2⟩, h⟩ := need_sound h; rw [SRep] at hs; subst hs; refine ⟨_, _, h, Int.le_refl _, h1, by omega, ?_⟩
        have : f () <= cap := by omega
        simp [Instr.sliceBounds, Instr.sliceBound, asIntOf, h1, this]
      | _ => exact (not_stuck (by simpa [bndsC, runAP] using h)).elim
  . cases s with
    | int kk f =>
      rw [SRep] at hs; subst hs; rcases hh with ⟨rfl, rfl⟩ | ⟨s, v, rfl, rfl, hs⟩
      . obtain ⟨⟨h1, h2⟩, h⟩ := need_sound h; refine ⟨_, _, h, h1, h2, by omega, ?_⟩
        have : f () <= len := by omega
        simp [Instr.sliceBounds, Instr.sliceBound, asIntOf, h1, this, hN]
      . cases s with
        | int kk' g =>
          obtain ⟨⟨h1, h2, h3⟩, h⟩ := need_sound h; rw [SRep] at hs; subst hs; refine ⟨_, _, h, h1, h2, by omega, ?_⟩
          have e1 : g () <= cap := by omega
          have e2 : 0 <= g () := by omega
          simp [Instr.sliceBounds, Instr.sliceBound, asIntOf, h1, e1, e2]; intro hh; omega
        | _ => exact (not_stuck (by simpa [bndsC, runAP] using h)).elim
    | _ => cases hi <;> exact (not_stuck (by simpa [bndsC, runAP] using h)).elim
theorem view_shape {j : Nat} {T : TypeId} {sz : Nat} {l : Unit -> List (List DV)} {xs : List Value} (h : w.ownsRow 0 T sz (β j) (l ()).length xs) :
    (β j = .slice none 0 0 /\ (l ()).length = 0) \/ ∃ g cap, β j = .slice (some ⟨g, 0, none⟩) (l ()).length cap /\ (l ()).length <= cap := by
  rcases h.2 with ⟨h1, h2⟩ | ⟨g, cap, cur, h1, _, _, h4, _⟩
  . exact .inl ⟨h1, h2⟩
  . exact .inr ⟨g, cap, h1, h4⟩
theorem s_slice {o : Oper} {T : Nat} {x : Operand} {lo hi : Option Operand} (ht : TabOk P tab) (ho : o.op = .slice T x lo hi none) : Snd P tab Q E t own n K o a w QQ := by
  intro β S h r; rw [show opProg tab o = rdO x fun v => optO lo fun vl => optO hi fun vh => withT tab T fun i => sliceTOp tab i.d v vl vh by unfold opProg; rw [ho]] at h
  obtain ⟨vx, h1, g2, g3⟩ := rdO_sound x _ h r; obtain ⟨vl, h1, hvl⟩ := optO_sound lo _ h1 r; obtain ⟨vh, h1, hvh⟩ := optO_sound hi _ h1 r; obtain ⟨⟨ie, de, ze, hie, hu, hse, _, _, _, hd⟩, h1⟩ := withT_sound ht T _ h1
  have hvl' : (vl = none /\ lo.map a.eval = none) \/ ∃ s v, vl = some s /\ lo.map a.eval = some v /\ SRep β S s v := by
    rcases hvl with ⟨rfl, rfl⟩ | ⟨o', s, rfl, rfl, _, h⟩
    . exact .inl ⟨rfl, rfl⟩
    . exact .inr ⟨s, _, rfl, rfl, h⟩
  have hvh' : (vh = none /\ hi.map a.eval = none) \/ ∃ s v, vh = some s /\ hi.map a.eval = some v /\ SRep β S s v := by
    rcases hvh with ⟨rfl, rfl⟩ | ⟨o', s, rfl, rfl, _, h⟩
    . exact .inl ⟨rfl, rfl⟩
    . exact .inr ⟨s, _, rfl, rfl, h⟩
  have run : ∀ v, (Instr.sliceAt T (a.eval x) (lo.map a.eval) (hi.map a.eval) none).run P w = .ok v w -> (execOp a.eval o).run P w = .ok (.value v) w := by
    intro v hv; simp only [execOp, ho, Sem.run_bind, Option.map_none, hv, Result.andThen_ok, Sem.run_pure]
  generalize (tab T).d = dd at h1 hd
  cases dd with
  | str =>
    cases vx with
    | str s =>
      simp only [tdOk] at hd; subst hd; rw [SRep] at g3; simp only [sliceTOp, sliceStr] at h1; obtain ⟨p, q, h3, b1, b2, b3, b4⟩ := bnds_sound (β := β) (S := S) (w := w) false (s ()).size (s ()).size rfl (Nat.le_refl _) h1 hvl' hvh'; refine wp_value (run (.string ((s ()).extract (p ()).toNat (q ()).toNat)) ?_) (.same r (ret_sound h3) (by rw [SRep]) (by simp [KB]))
      simp [Instr.sliceAt, run_underlying hu, Instr.slice, g3, b4]
    | _ => exact (not_stuck (by simpa [sliceTOp, runAP] using h1)).elim
  | sl e =>
    cases vx with
    | ds sz l =>
      simp only [tdOk] at hd; subst hd; obtain ⟨⟨i2, d2, z2, hi2, hu2, hs2, _⟩, h1⟩ := withT_sound ht e _ h1; obtain ⟨hsz, h1⟩ := when_sound h1; have hsz := beq_true hsz; rw [SRep] at g3; rw [DRep] at g3; rcases g3 with ⟨hl0, a0, c0, g3, ha0⟩ | ⟨b, off, cap, c, T', fr, e1, e2, e3, e4⟩
      . obtain ⟨p, q, h3, b1, b2, b3, b4⟩ := bnds_sound (β := β) (S := S) (w := w) true 0 c0 (by simp [lenL, hl0]) (Nat.zero_le _) h1 hvl' hvh'
        have hq : (q ()).toNat = 0 := by omega
        have hp : (p ()).toNat = 0 := by omega
        cases a0 with
        | none =>
          rw [ha0 rfl] at g3 b4; refine wp_value (run (.slice none 0 0) ?_) (.same r (ret_sound h3) (by rw [SRep]; exact DRep_nils (by simp [hl0]) rfl) (by simp [KB]))
          simp [Instr.sliceAt, run_underlying hu, Instr.slice, g3, b4, sizeOf, typeInfo, hi2, hq, hp]
        | some a0 =>
          refine wp_value (run (.slice (some (if c0 = 0 then a0 else a0.add (0 * i2.size))) 0 c0) ?_) (.same r (ret_sound h3) (by rw [SRep, DRep]; exact .inl ⟨by simp [hl0], _, _, rfl, fun h => by cases h⟩) (by simp [KB]))
          simp [Instr.sliceAt, run_underlying hu, Instr.slice, g3, b4, sizeOf, typeInfo, hi2, hq, hp]; split <;> rfl
      . obtain ⟨p, q, h3, b1, b2, b3, b4⟩ := bnds_sound (β := β) (S := S) (w := w) true (l ()).length cap rfl e2 h1 hvl' hvh'; obtain ⟨pn, hpn⟩ : ∃ pn : Nat, p () = pn := ⟨(p ()).toNat, by omega⟩
        obtain ⟨qn, hqn⟩ : ∃ qn : Nat, q () = qn := ⟨(q ()).toNat, by omega⟩
        have hlen : (((l ()).take (q ()).toNat).drop (p ()).toNat).length = qn - pn := by simp [hpn, hqn]; omega
        refine wp_value (run (.slice (some ⟨b, if cap = pn then off else off + pn * sz, none⟩) (qn - pn) (cap - pn)) ?_) (.same r (ret_sound h3) ?_ (by simp [KB]))
        . simp only [hpn, hqn, Int.toNat_natCast] at b4; simp [Instr.sliceAt, run_underlying hu, Instr.slice, e1, b4, sizeOf, typeInfo, hi2, Addr.add_mid, hs2, <- hsz]; split <;> rfl
        . rw [SRep, DRep]; right
          refine ⟨b, _, cap - pn, c, T', fr, by rw [hlen], by rw [hlen]; omega, e3, ?_⟩
          rw [hlen, hpn, hqn, Int.toNat_natCast, Int.toNat_natCast]; have h4 := DRows_drop pn (DRows_take qn e4); by_cases hc : cap = pn
          . have hz : qn - pn = 0 := by omega
            have hz2 : ((l ()).take qn).drop pn = [] := List.drop_eq_nil_of_le (by simp; omega)
            rw [hz, hz2, Nat.zero_mul, List.take_zero, DRows]
          . rw [if_neg hc]; have hm : qn * sz <= (l ()).length * sz := Nat.mul_le_mul_right _ (by omega)
            rw [List.take_take, Nat.min_eq_left hm] at h4
            have e5 : ((c.toList.drop off).take (qn * sz)).drop (pn * sz) = (c.toList.drop (off + pn * sz)).take ((qn - pn) * sz) := by
              rw [List.drop_take, List.drop_drop, Nat.sub_mul]
            rw [e5] at h4; exact h4
    | os j =>
      simp only [tdOk] at hd; subst hd; obtain ⟨⟨i2, d2, z2, hi2, hu2, hs2, _⟩, h2⟩ := withT_sound ht e _ h1; clear h1; obtain ⟨bk, hb, h1⟩ := rdB_sound h2; clear h2
      cases bk with
      | arr T' sz l =>
        simp only [sliceOs] at h1; obtain ⟨hsz, h2⟩ := when_sound h1; clear h1; have hsz := beq_true hsz; rw [SRep] at g3; obtain ⟨xs, o1, o3⟩ := r.mem.blk _ _ hb; rcases view_shape o1 with ⟨q1, q2⟩ | ⟨g, cap, q1, q2⟩
        . obtain ⟨p, q, h3, b1, b2, b3, b4⟩ := bndsC_sound (β := β) (S := S) (w := w) true 0 0 (by simp [lenL, q2]) (Nat.le_refl _) (by simp [lenL, q2]) h2 hvl' hvh'
          have hq : (q ()).toNat = 0 := by omega
          have hp : (p ()).toNat = 0 := by omega
          refine wp_value (run (.slice none 0 0) ?_) (.same r (ret_sound h3) (by rw [SRep]; exact ⟨b1, b2, .inr ⟨q1, by omega, rfl⟩⟩) (by simp only [KB] at g2 ⊢; exact g2))
          simp [Instr.sliceAt, run_underlying hu, Instr.slice, g3.1, q1, b4, sizeOf, typeInfo, hi2, hq, hp]
        . obtain ⟨p, q, h3, b1, b2, b3, b4⟩ := bndsC_sound (β := β) (S := S) (w := w) true (l ()).length cap rfl q2 (by simp [lenL]; omega) h2 hvl' hvh'
          obtain ⟨pn, hpn⟩ : ∃ pn : Nat, p () = pn := ⟨(p ()).toNat, by omega⟩
          obtain ⟨qn, hqn⟩ : ∃ qn : Nat, q () = qn := ⟨(q ()).toNat, by omega⟩
          refine wp_value (run (.slice (some ⟨g, if cap = pn then 0 else pn * (tab e).size, none⟩) (qn - pn) (cap - pn)) ?_) (.same r (ret_sound h3) ?_ (by simp only [KB] at g2 ⊢; exact g2))
          . simp only [hpn, hqn, Int.toNat_natCast] at b4; simp [Instr.sliceAt, run_underlying hu, Instr.slice, g3.1, q1, b4, sizeOf, typeInfo, hi2, Addr.add_mid, hs2]; split <;> rfl
          . rw [SRep, hpn, hqn]; refine ⟨by omega, by omega, .inl ⟨g, _, cap, if cap = pn then 0 else pn * (tab e).size, q1, by omega, fun h => by rw [if_neg (by omega)]; simp, fun h => by split <;> simp_all, ?_⟩⟩
            have : ((qn : Int) - (pn : Int)).toNat = qn - pn := by omega
            rw [this]; rfl
      | _ => exact (not_stuck (by simpa [sliceOs, runAP] using h1)).elim
    | ov j sz x y =>
      simp only [tdOk] at hd; subst hd; obtain ⟨⟨i2, d2, z2, hi2, hu2, hs2, _⟩, h2⟩ := withT_sound ht e _ h1; clear h1; obtain ⟨hsz, h1⟩ := when_sound h2; clear h2; have hsz := beq_true hsz; obtain ⟨bk, hb, h2⟩ := rdB_sound h1; clear h1; rw [SRep] at g3
      have key : ∀ (C : Unit -> Int), ((β j = .slice none 0 0 /\ C () = 0) \/ ∃ g nn cap, β j = .slice (some ⟨g, 0, none⟩) nn cap /\ C () <= cap) -> Holds P tab Q (runAP (bndsC (fun _ => y () - x ()) (fun _ => C () - x ()) vl vh fun p q => .ret (.ov j sz (fun _ => x () + p ()) (fun _ => x () + q ()))) t own n K) -> o.wp P a w (Aft P tab Q E t K o a) QQ := by
        intro C o1 h1; obtain ⟨c1, c2, c3⟩ := g3; rcases c3 with ⟨g, nn, cap, off, d1, d2, d3, d4, d5⟩ | ⟨d1, d2, d3⟩
        . have hlc : C () <= cap := by
            rcases o1 with ⟨q1, _⟩ | ⟨g', nn', cap', q1, q2⟩
            . rw [d1] at q1; cases q1
            . rw [d1] at q1; cases q1; exact q2
          obtain ⟨xn, hxn⟩ : ∃ xn : Nat, x () = xn := ⟨(x ()).toNat, by omega⟩
          obtain ⟨yn, hyn⟩ : ∃ yn : Nat, y () = yn := ⟨(y ()).toNat, by omega⟩
          rw [hxn] at d3 d4; simp only [hxn, hyn, Int.toNat_natCast] at d5 d3; obtain ⟨p, q, h3, b1, b2, b3, b4⟩ := bndsC_sound (β := β) (S := S) (w := w) true ((y () - x ()).toNat) (cap - xn) (by omega) (by omega) (by show C () - x () <= _; omega) h1 hvl' hvh'
          obtain ⟨pn, hpn⟩ : ∃ pn : Nat, p () = pn := ⟨(p ()).toNat, by omega⟩
          obtain ⟨qn, hqn⟩ : ∃ qn : Nat, q () = qn := ⟨(q ()).toNat, by omega⟩
          have e0 : (y () - x ()).toNat = yn - xn := by omega
          refine wp_value (run (.slice (some ⟨g, if cap - xn = pn then off else off + pn * sz, none⟩) (qn - pn) (cap - xn - pn)) ?_) (.same r (ret_sound h3) ?_ (by simp only [KB] at g2 ⊢; exact g2))
          . simp only [hpn, hqn, Int.toNat_natCast] at b4; rw [e0] at b4; simp [Instr.sliceAt, run_underlying hu, Instr.slice, d5, b4, sizeOf, typeInfo, hi2, Addr.add_mid, hs2, <- hsz]; split <;> rfl
          . rw [SRep]; simp only [hxn, hpn, hqn]; have t1 : ((xn : Int) + (pn : Int)).toNat = xn + pn := by omega
            refine ⟨by omega, by omega, .inl ⟨g, nn, cap, if cap - xn = pn then off else off + pn * sz, d1, by omega, fun h => ?_, fun h => ?_, ?_⟩⟩
            . rw [t1] at h ⊢; rw [if_neg (by omega), d3 (by omega), Nat.add_mul]
            . have h1 : xn = 0 := by omega
              have h2 : pn = 0 := by omega
              have := d4 (by omega)
              split <;> simp [this, h2]
            . rw [t1]; have t2 : ((xn : Int) + (qn : Int) - ((xn : Int) + (pn : Int))).toNat = qn - pn := by omega
              rw [t2, Nat.sub_sub]
        . have hl0 : C () = 0 := by
            rcases o1 with ⟨_, q2⟩ | ⟨g', nn', cap', q1, q2⟩
            . exact q2
            . rw [d1] at q1; cases q1
          obtain ⟨p, q, h3, b1, b2, b3, b4⟩ := bndsC_sound (β := β) (S := S) (w := w) true 0 0 (by show y () - x () = ((0 : Nat) : Int); omega) (Nat.le_refl _) (by show C () - x () <= ((0 : Nat) : Int); omega) h1 hvl' hvh'
          have hq : (q ()).toNat = 0 := by omega
          have hp : (p ()).toNat = 0 := by omega
          refine wp_value (run (.slice none 0 0) ?_) (.same r (ret_sound h3) (by rw [SRep]; exact ⟨by show 0 <= x () + p (); omega, by show x () + p () <= x () + q (); omega, .inr ⟨d1, by show x () + q () = 0; omega, rfl⟩⟩) (by simp only [KB] at g2 ⊢; exact g2))
          simp [Instr.sliceAt, run_underlying hu, Instr.slice, d3, b4, sizeOf, typeInfo, hi2, hq, hp]
      cases bk with
      | arr T' sz' l =>
        simp only [sliceOv] at h2; obtain ⟨hsz', h1⟩ := when_sound h2; have hsz' := beq_true hsz'; subst hsz'; obtain ⟨xs, o1, _⟩ := r.mem.blk _ _ hb; refine key (fun _ => ((l ()).length : Int)) ?_ h1
        rcases view_shape o1 with ⟨q1, q2⟩ | ⟨g', cap', q1, q2⟩
        . exact .inl ⟨q1, by show ((l ()).length : Int) = 0; omega⟩
        . exact .inr ⟨g', _, cap', q1, by show ((l ()).length : Int) <= _; omega⟩
      | full T' sz' l c =>
        simp only [sliceOv] at h2; obtain ⟨hsz', h1⟩ := when_sound h2; have hsz' := beq_true hsz'; subst hsz'; refine key c ?_ h1; rcases r.mem.blk _ _ hb with ⟨q1, _, q2⟩ | ⟨g, n0, cap, cur, q1, _, _, _, _, _, _, q2⟩
        . exact .inl ⟨q1, q2⟩
        . exact .inr ⟨g, n0, cap, q1, by rw [q2]; exact Int.le_refl _⟩
      | _ => exact (not_stuck (by simpa [sliceOv, runAP] using h2)).elim
    | _ => exact (not_stuck (by simpa [sliceTOp, runAP] using h1)).elim
  | _ => exact (not_stuck (by simpa [sliceTOp, runAP] using h1)).elim
theorem DRows_replicate {sz : Nat} {d : List DV} {zl : List Value} (hd : DCells S d zl) (hs : d.length = sz) (hp : 0 < sz) : ∀ (p : Nat) (xs : List Value), xs.length = p * sz -> (∀ i, i < p * sz -> xs[i]? = zl[i % sz]?) ->
    DRows S sz (List.replicate p d) xs
  | 0, xs, hl, _ => by
    have : xs = [] := List.eq_nil_of_length_eq_zero (by omega)
    subst this; rw [List.replicate_zero, DRows]
  | p + 1, xs, hl, hx => by
    have hzl := DCells_length hd; rw [Nat.add_mul] at hl hx; rw [List.replicate_succ, DRows]; refine ⟨xs.take sz, xs.drop sz, (List.take_append_drop sz xs).symm, hs, ?_, DRows_replicate hd hs hp p (xs.drop sz) (by simp; omega) ?_⟩
    . have : xs.take sz = zl := by
        apply List.ext_getElem?; intro i; by_cases hi : i < sz
        . rw [List.getElem?_take, if_pos hi, hx i (by omega), Nat.mod_eq_of_lt hi]
        . rw [List.getElem?_eq_none (by simp; omega), List.getElem?_eq_none (by omega)]
      rw [this]; exact hd
    . intro i hi; rw [List.getElem?_drop, hx (sz + i) (by omega), Nat.add_mod_left]
theorem madeCells_get (z : Array Value) (n i : Nat) (hi : i < n) (hz : 0 < z.size) : (madeCells z n).toList[i]? = z.toList[i % z.size]? := by
  have h := Nat.mod_lt i hz; simp [madeCells, hi, h]
theorem s_makeSlice {o : Oper} {T : Nat} {x y : Operand} (ht : TabOk P tab) (ho : o.op = .makeSlice T x y) : Snd P tab Q E t own n K o a w QQ := by
  intro β S h r; rw [show opProg tab o = rdO x fun vn => rdO y fun vc => withT tab T fun iT => isSl iT fun e => withT tab e fun i => isPos i (makeSliceOp e i vn vc) by unfold opProg; rw [ho]] at h
  obtain ⟨vx, h1, g2, g3⟩ := rdO_sound x _ h r; obtain ⟨vy, h1, f2, f3⟩ := rdO_sound y _ h1 r; obtain ⟨hT, h1⟩ := withT_sound ht T _ h1; obtain ⟨e, he, h1⟩ := isSl_sound h1; have hu := sl_facts hT he; obtain ⟨⟨ie, de, ze, hie, _, hse, hby, hz, hzc, _⟩, h1⟩ := withT_sound ht e _ h1; obtain ⟨hp, hzl, h2⟩ := isPos_sound h1
  have key : ∀ (p q : Unit -> Int) z, vx = .int .i64 p -> vy = .int .i64 q -> toDVs ((tab e).zero.map zeroV) = some z -> o.wp P a w (Aft P tab Q E t K o a) QQ := by
    intro p q z hx hy hzz; subst hx hy
    have h2' : Holds P tab Q (runAP (.need (fun _ => 0 <= p () /\ p () <= q () /\ q () * (tab e).bytes <= 140737488355328 /\ q () <= 4611686018427387904)
      (.newB (.arr e (tab e).size fun _ => List.replicate (p ()).toNat (z ())) fun j => .ret (.os j))) t own n K) := by
      simp only [makeSliceOp, hzz] at h2; exact h2
    obtain ⟨⟨b1, b2, b3, b4⟩, h3⟩ := need_sound h2'; have h4 := ret_sound (newB_sound h3); rw [SRep] at g3; rw [SRep] at f3; obtain ⟨hzd, hzl2⟩ := toDVs_sound hzz (SReps_map_zeroV (β := β) (S := S) (n := 0) (tab e).zero).1; have hzs : ze.cells.size = (tab e).size := by rw [<- hzl, <- hzc]; simp
    rw [<- hby] at b3; have hr := run_make (P := P) w T e ie ze hu hie hz .i64 .i64 (p ()) (q ()) b1 b2 (by have := b3; rw [Int.mul_comm]; omega) (by omega)
    have hown : (w.alloc (.cells (madeCells ze.cells ((q ()).toNat * ie.size)) e)).ownsRow w.heap.size e (tab e).size (.slice (some ⟨w.heap.size, 0, none⟩) (p ()).toNat (q ()).toNat) (List.replicate (p ()).toNat (z ())).length
        ((madeCells ze.cells ((q ()).toNat * ie.size)).toList.take ((p ()).toNat * (tab e).size)) := by
      have hle : (p ()).toNat * (tab e).size <= (q ()).toNat * (tab e).size := Nat.mul_le_mul_right _ (by omega)
      refine ⟨by rw [List.length_take, Array.length_toList, size_madeCells, hse, List.length_replicate, Nat.min_eq_left hle], .inr ⟨w.heap.size, (q ()).toNat, _, ?_, Nat.le_refl _, heap_alloc_new w _, by simp; omega, by simp [maxLen]; omega, by rw [hse]; simp [size_madeCells], ?_⟩⟩
      . simp
      . simp
    refine wp_value (v' := .slice (some ⟨w.heap.size, 0, none⟩) (p ()).toNat (q ()).toNat) (w' := w.alloc (.cells (madeCells ze.cells ((q ()).toNat * ie.size)) e)) ?_ ⟨.os n, _, _, ext β n (.slice (some ⟨w.heap.size, 0, none⟩) (p ()).toNat (q ()).toNat), S, h4, ?_, by simp [KB], ?_⟩
    . simp only [execOp, ho, g3, f3, Sem.run_bind, hr, Result.andThen_ok, Sem.run_pure]
    . rw [SRep]; exact ⟨ext_same.symm, rfl⟩
    . refine r.mem' (by omega) (fun j hj => ext_lt hj) (Sub.refl S) (ko_cons r trivial) ?_
      refine r.mem.newArr r.ko e (World.grownBy_alloc w _ none) hown ?_; refine DRows_replicate hzd (by rw [hzl2]; simpa using hzl) hp _ _ ?_ ?_
      . have := hown.1; simpa using this
      . intro i hi; have hle : (p ()).toNat * (tab e).size <= (q ()).toNat * (tab e).size := Nat.mul_le_mul_right _ (by omega)
        rw [List.getElem?_take, if_pos hi, madeCells_get _ _ _ (by rw [hse]; omega) (by omega), hzs, hzc]
  unfold makeSliceOp at h2; split at h2
  . exact key _ _ _ rfl rfl (by assumption)
  . exact (not_stuck (by simpa [runAP] using h2)).elim
theorem foldl_splice (off : Nat) : ∀ (l : List Value) (s : Nat) (cs : Array Value),
    ((l.zipIdx s).foldl (fun cs (x : Value × Nat) => cs.setIfInBounds (off + x.2) x.1) cs).toList = splice cs.toList (off + s) l
  | [], s, cs => rfl
  | c :: l, s, cs => by
    rw [List.zipIdx_cons, List.foldl_cons, foldl_splice off l (s + 1), splice, upd_set]; simp [Nat.add_assoc]
theorem fill_cons {place : Nat -> Option (Nat × Nat)} {xs : Array Value} {k : Nat} {v : Value} {rest : List (Nat × Value)} {off size : Nat} (hp : place k = some (off, size)) (h1 : v.cells.size = size) (h2 : off + size <= xs.size) :
    ∃ ys : Array Value, Instr.fill place xs ((k, v) :: rest) = Instr.fill place ys rest /\ ys.toList = splice xs.toList off v.cells.toList := by
  refine ⟨v.cells.zipIdx.foldl (fun cs (x : Value × Nat) => cs.setIfInBounds (off + x.2) x.1) xs, ?_, ?_⟩
  . simp only [Instr.fill, hp]; rw [if_neg (by simp [h1]; omega)]
  . rw [<- Array.foldl_toList, Array.toList_zipIdx, foldl_splice]; rfl
theorem nth_some {os : List (Nat × Nat)} {f : Nat} (h : 0 < (nth (0, 0) os f).2) : os[f]? = some (nth (0, 0) os f) := by
  induction os generalizing f with
  | nil => cases f <;> simp [nth] at h
  | cons p os ih => cases f with
    | zero => rfl
    | succ f => simpa [nth] using ih (f := f) (by simpa [nth] using h)
theorem places_sound {os : List (Nat × Nat)} {i : TI} (hd : i.d = .struct os) :
    ∀ (ps : List (Nat × SV)) (us : List Value) (c c' : List SV) (xs : Array Value), placesOf i ps c = some c' -> SReps β S (ps.map (·.2)) us -> KBs n (ps.map (·.2)) -> SReps β S c xs.toList -> KBs n c ->
      ∃ xs', Instr.fill (fun k => os.toArray[k]?) xs ((ps.map (·.1)).zip us) = some xs' /\ SReps β S c' xs'.toList /\ KBs n c'
  | [], us, c, c', xs, h, hs, hk, hc, hkc => by
    simp only [placesOf] at h; cases h; exact ⟨xs, by simp [Instr.fill], hc, hkc⟩
  | (f, v) :: ps, us, c, c', xs, h, hs, hk, hc, hkc => by
    rw [List.map_cons, SReps] at hs; obtain ⟨u, us, rfl, s1, s2⟩ := hs; rw [List.map_cons, KBs] at hk; simp only [placesOf] at h; split at h
    . rename_i e1 e2 e4 e3
      have e1 := beq_true e1; have e2 : 0 < (fieldOff i f).2 := by simpa [Nat.blt_eq] using e2
      have e4 : (fieldOff i f).1 + (fieldOff i f).2 <= c.length := Nat.le_of_ble_eq_true e4; obtain ⟨c1, c2⟩ := cells_sound s1 hk.1 e3; have hcl := SReps_length c1; have hcl2 := SReps_length hc; simp only [Array.length_toList] at hcl hcl2; have hfo : fieldOff i f = nth (0, 0) os f := by simp [fieldOff, hd]
      have hpl : os.toArray[f]? = some ((fieldOff i f).1, (fieldOff i f).2) := by
        rw [hfo] at e2 ⊢; simpa using nth_some e2
      obtain ⟨ys, y1, y2⟩ := fill_cons (rest := (ps.map (·.1)).zip us) (xs := xs) (v := u) hpl (by rw [hcl, e1]) (by omega)
      obtain ⟨xs', z1, z2, z3⟩ := places_sound hd ps us (splice c (fieldOff i f).1 (cellsOf v)) c' ys h s2 hk.2 (by rw [y2]; exact SReps_splice _ c1 hc) (KBs_splice _ c2 hkc)
      refine ⟨xs', ?_, z2, z3⟩; rw [List.map_cons, List.zip_cons_cons]; exact y1.trans z1
    . cases h
theorem parts_zip (a : Act) (ps : Array (Nat × Operand)) : (ps.map fun (i, x) => (i, a.eval x)).toList = (ps.toList.map (·.1)).zip ((ps.toList.map (·.2)).map a.eval) := by
  rw [Array.toList_map]; generalize ps.toList = l
  induction l with
  | nil => rfl
  | cons p l ih => simp [ih]
theorem s_build {o : Oper} {T : Nat} {ps : Array (Nat × Operand)} (ht : TabOk P tab) (ho : o.op = .build T ps) : Snd P tab Q E t own n K o a w QQ := by
  intro β S h r; rw [show opProg tab o = rdOs (ps.toList.map (·.2)) fun vs => buildOp tab T (ps.toList.map (·.1)) vs by unfold opProg; rw [ho]] at h
  obtain ⟨svs, h1, g2, g3⟩ := rdOs_sound _ _ h r; obtain ⟨⟨it, dt, zt, hit, hu, hst, _, hz, hzc, hd⟩, h1⟩ := withT_sound ht T _ h1
  cases hdd : (tab T).d with
  | struct os =>
    simp only [hdd] at h1; rw [hdd] at hd; obtain ⟨fs, rfl, h2, h3⟩ := hd; split at h1
    . rename_i c hc
      have hl := SReps_length g3; have hlen : svs.length = (ps.toList.map (·.1)).length := by simpa using hl.symm
      have m1 : (((ps.toList.map (·.1)).zip svs).map (·.2)) = svs := by rw [List.map_snd_zip]; omega
      have m2 : (((ps.toList.map (·.1)).zip svs).map (·.1)) = ps.toList.map (·.1) := by rw [List.map_fst_zip]; omega
      obtain ⟨xs', z1, z2, z3⟩ := places_sound hdd _ _ _ _ zt.cells hc (by rw [m1]; exact g3) (by rw [m1]; exact g2) (by rw [hzc]; exact (SReps_map_ofValue (n := n) _).1) (SReps_map_ofValue (β := β) (S := S) _).2
      rw [m2] at z1; refine wp_value (v' := .agg xs') (w' := w) ?_ (.same r (ret_sound h1) (by rw [SRep]; exact ⟨_, rfl, z2⟩) (by rw [KB]; exact z3))
      have hmm : fs.toList.mapM (fun f => (P.info? f.type).map fun i => (f.offset, i.size)) = some os := by
        rw [<- h2]; clear h2 hdd z1 hc h1 hu; revert h3
        generalize fs.toList = l; intro h3
        induction l with
        | nil => rfl
        | cons f l ih =>
          obtain ⟨ii, hii⟩ := Option.isSome_iff_exists.1 (h3 f (by simp))
          rw [List.mapM_cons, hii, ih (fun g hg => h3 g (by simp [hg]))]
          simp [Program.cellsOf, hii]
      have hbuilt : P.built T (ps.map fun (i, x) => (i, a.eval x)).toList = some xs' := by
        unfold Program.built; simp only [hit, hu, hz, hmm]; rw [parts_zip]; exact z1
      simp only [execOp, ho, Sem.run_bind, run_build w T _ _ hbuilt, Result.andThen_ok, Sem.run_pure]
    . exact (not_stuck (by simpa [runAP] using h1)).elim
  | _ => simp only [hdd] at h1; exact (not_stuck (by simpa [runAP] using h1)).elim
end
end Go.Eng
namespace Go.Eng
open Go.MapKept
section
variable {P : Program} {tab : Nat -> TI} {Q : QT} {E : Env} {t : List SV} {own : Own} {n : Nat} {K : SV -> Own -> Nat -> R} {a : Act} {w : World} {β : Nat -> Value} {S : Snap}
  {QQ : Exit -> Act -> World -> Prop}
theorem s_makeMap {o : Oper} {T : Nat} (ht : TabOk P tab) (ho : o.op = .makeMap T none) : Snd P tab Q E t own n K o a w QQ := by
  intro β S h r; rw [show opProg tab o = mapNew tab T by unfold opProg; rw [ho]] at h
  unfold mapNew at h; obtain ⟨_, h1⟩ := withT_sound ht T _ h; clear h; split at h1
  . have h2 := ret_sound (newB_sound h1); have hm := r.mem.newMap r.ko T (l := fun _ => []) (es := #[]) (k := 0) (by simp [MRep])
    refine wp_value (v' := .map (some w.heap.size)) (w' := w.alloc (.map #[] 0)) ?_ ⟨.om n, _, _, _, S, h2, ?_, by simp [KB], r.mem' (by omega) (fun j hj => ext_lt hj) (Sub.refl S) (ko_cons r trivial) hm⟩
    . simp only [execOp, ho, Instr.makeMap, Sem.run_bind, Sem.run_pure]; rfl
    . rw [SRep]; exact ⟨ext_same.symm, rfl⟩
  . exact (not_stuck (by simpa [runAP] using h1)).elim
theorem mfind : ∀ (m : List (ByteArray × DV)) (es : List MapEntry) (s : ByteArray) (i : Nat), MRep S m es ->
    (hasK m s = false -> Instr.findNow .string (.string s) es i = some none) /\
    (hasK m s = true -> ∃ p e, m[idxK m s]? = some p /\ es[idxK m s]? = some e /\ DRep S p.2 e.val /\ Instr.findNow .string (.string s) es i = some (some (i + idxK m s, e.val)))
  | [], es, s, i, h => by
    rw [MRep] at h; subst h; exact ⟨fun _ => rfl, fun h => by simp [hasK] at h⟩
  | (k, d) :: m, es, s, i, h => by
    rw [MRep] at h; obtain ⟨e, r, rfl, h1, h2, h3⟩ := h
    have hs : Instr.sameNow .string (.string s) e.key = some (decide (k = s)) := by
      rw [h1]; obtain ⟨b, hb, hi⟩ := sameNow_of_keys (d := .string) (a := .string s) (b := .string k) trivial trivial; rw [hb]; congr 1; rw [Bool.eq_iff_iff, hi]; simp [eq_comm]
    obtain ⟨g1, g2⟩ := mfind m r s (i + 1) h3; by_cases hk : k = s
    . refine ⟨fun h => by simp [hasK, hk] at h, fun _ => ?_⟩
      have h0 : idxK ((k, d) :: m) s = 0 := by simp [idxK, List.findIdx_cons, hk]
      rw [h0]; exact ⟨_, _, rfl, rfl, h2, by simp [Instr.findNow, hs, hk]⟩
    . have hh : hasK ((k, d) :: m) s = hasK m s := by simp [hasK, hk]
      have hi : idxK ((k, d) :: m) s = idxK m s + 1 := by simp [idxK, List.findIdx_cons, hk]
      have hf : Instr.findNow .string (.string s) (e :: r) i = Instr.findNow .string (.string s) r (i + 1) := by simp [Instr.findNow, hs, hk]
      rw [hh, hi, hf]; refine ⟨g1, fun h => ?_⟩
      obtain ⟨p, e', q1, q2, q3, q4⟩ := g2 h; exact ⟨p, e', by simpa using q1, by simpa using q2, q3, by rw [q4]; congr 3; omega⟩
theorem oneOf_sound {c : List SV} {e : AP} {k : SV -> AP} (h : Holds P tab Q (runAP (oneOf c e k) t own n K)) : (∃ v, c = [v] /\ Holds P tab Q (runAP (k v) t own n K)) \/ Holds P tab Q (runAP e t own n K) := by
  unfold oneOf at h; split at h
  . exact .inl ⟨_, rfl, h⟩
  . exact .inr h
theorem lookVal_rep {ok b : Bool} {v : SV} {u : Value} (h : SRep β S v u) (hk : KB n v) : SRep β S (lookVal ok v b) (if ok then .tuple #[u, .bool b] else u) /\ KB n (lookVal ok v b) := by
  cases ok with
  | false => exact ⟨h, hk⟩
  | true =>
    simp only [lookVal, if_true]; refine ⟨?_, by simp only [KB, KBs]; exact ⟨hk, trivial, trivial⟩⟩
    rw [SRep]; refine ⟨_, rfl, ?_⟩; simp only [SReps]; exact ⟨u, _, rfl, h, _, _, rfl, by rw [SRep], rfl⟩
theorem s_lookup {o : Oper} {T : Nat} {x i : Operand} {ok : Bool} (ht : TabOk P tab) (ho : o.op = .lookup T x i ok) : Snd P tab Q E t own n K o a w QQ := by
  intro β S h r; rw [show opProg tab o = rdO x fun v => rdO i fun vi => lookOp tab T v vi ok by unfold opProg; rw [ho]] at h
  obtain ⟨vx, h1, g2, g3⟩ := rdO_sound x _ h r; obtain ⟨vi, h2, f2, f3⟩ := rdO_sound i _ h1 r; clear h h1; unfold lookOp at h2; obtain ⟨⟨iT, dT, zT, _, hu, _, _, _, _, hd⟩, h3⟩ := withT_sound ht T _ h2; clear h2; generalize (tab T).d = dd at h3 hd; split at h3
  . rename_i k e j s
    simp only [tdOk] at hd; subst hd; obtain ⟨⟨ik, dk, zk, _, huk, _, _, _, _, hdk⟩, h4⟩ := withT_sound ht k _ h3; clear h3; split at h4
    . rename_i hk
      rw [hk] at hdk; simp only [tdOk] at hdk; subst hdk; obtain ⟨⟨ie, de, ze, hie, hue, hse, _, hz, hzc, hde⟩, h5⟩ := withT_sound ht e _ h4; clear h4; obtain ⟨hs1, h6⟩ := when_sound h5; have hs1 := beq_true hs1; clear h5; obtain ⟨hna, h7⟩ := when_sound h6; clear h6; obtain ⟨bk, hb, h8⟩ := rdB_sound h7; clear h7; unfold lookB' at h8; split at h8
      . rename_i T' m
        obtain ⟨b, es, ck, q1, q2, q3⟩ := r.mem.blk _ _ hb; rw [SRep] at g3; rw [SRep] at f3; have hx : a.eval x = .map (some b) := by rw [g3.1, q1]
        have hget := Go.MapKept.run_getObj_map (P := P) q2; have hchk := run_checkKey (P := P) (w := w) huk (k := .string (s ())) trivial es.isEmpty 9999; obtain ⟨m1, m2⟩ := mfind (m ()) es.toList (s ()) 0 q3
        have run : ∀ (fnd : Option (Nat × Value)), Instr.findNow .string (.string (s ())) es.toList 0 = some fnd -> ∀ v bb, (v, bb) = (match fnd with | some (_, v) => (v, true) | none => (ze, false)) -> (execOp a.eval o).run P w = .ok (.value (if ok then .tuple #[v, .bool bb] else v)) w := by
          intro fnd hf v bb hv; have hfk := run_findKey (P := P) (w := w) huk hf; have hzv : (zeroValue e).run P w = .ok ze w := by simp [zeroValue, typeInfo, hie, hz]
          cases fnd with
          | none =>
            cases hv; simp [execOp, ho, Instr.lookup, run_underlying hu, hx, f3, hget, hchk, hfk, hzv]
          | some p =>
            obtain ⟨pi, pv⟩ := p; cases hv; simp [execOp, ho, Instr.lookup, run_underlying hu, hx, f3, hget, hchk, hfk]
        rw [runAP] at h8
        cases h8 with
        | split ha hb2 =>
          cases hh : hasK (m ()) (s ()) with
          | false =>
            have h9 := hb2 hh; rcases oneOf_sound h9 with ⟨v, hv, h10⟩ | h10
            . have hzl : ze.cells.toList = (tab e).zero := hzc
              have hz1 : SRep β S v ze /\ KB n v := by
                have hall := SReps_map_ofValue (β := β) (S := S) (n := n) (tab e).zero; rw [hv, <- hzl] at hall; obtain ⟨a1, a2⟩ := hall; rw [SReps] at a1; rw [KBs] at a2; obtain ⟨u, us, e1, a1, a3⟩ := a1; rw [SReps] at a3; subst a3; refine ⟨?_, a2.1⟩
                have : ze = u := by
                  cases ze with
                  | agg cs =>
                    refine absurd rfl (ht.nz e ie (.agg cs) ?_ (by simpa using hna) hie hz cs)
                    intro hbad; rw [hbad] at hde; exact hde
                  | _ => simpa [Value.cells] using e1
                rw [this]; exact a1
              obtain ⟨l1, l2⟩ := lookVal_rep (ok := ok) (b := false) hz1.1 hz1.2; exact wp_value (run none (m1 hh) ze false rfl) (.same r (ret_sound h10) l1 l2)
            . exact (not_stuck (by simpa [runAP] using h10)).elim
          | true =>
            have h9 := ha hh; obtain ⟨p, e', p1, p2, p3, p4⟩ := m2 hh; obtain ⟨rr, c1, h10⟩ := row_sound h9
            have hrr : rr = [p.2] := by
              have : ((m ()).map fun e => [e.2])[idxK (m ()) (s ())]? = some [p.2] := by rw [List.getElem?_map, p1]; rfl
              have c1' : ((m ()).map fun e => [e.2])[idxK (m ()) (s ())]? = some rr := by simpa using c1
              rw [this] at c1'; cases c1'; rfl
            rcases oneOf_sound h10 with ⟨v, hv, h11⟩ | h11
            . rw [hrr] at hv; have c2 : p.2.toSV = v := by simpa using hv
              obtain ⟨t1, t2⟩ := SReps_toSV (β := β) (n := n) (r := [p.2]) (vs := [e'.val]) (S := S) (by rw [DCells]; exact ⟨_, _, rfl, p3, by rw [DCells]⟩)
              simp only [List.map_cons, List.map_nil] at t1 t2; rw [c2] at t1 t2; rw [SReps] at t1; rw [KBs] at t2; obtain ⟨u, us, e1, t1, _⟩ := t1; cases e1; obtain ⟨l1, l2⟩ := lookVal_rep (ok := ok) (b := true) t1 t2.1; exact wp_value (run _ p4 e'.val true rfl) (.same r (ret_sound h11) l1 l2)
            . exact (not_stuck (by simpa [runAP] using h11)).elim
      . exact (not_stuck (by simpa [runAP] using h8)).elim
    . exact (not_stuck (by simpa [runAP] using h4)).elim
  . exact (not_stuck (by simpa [runAP] using h3)).elim
theorem mput : ∀ (m : List (ByteArray × DV)) (es : List MapEntry) (s : ByteArray) (d : DV) (u : Value), MRep S m es -> DRep S d u ->
    (hasK m s = false -> ∀ k, MRep S (putK m s d) (es ++ [⟨.string s, u, k⟩])) /\ (hasK m s = true -> MRep S (putK m s d) (es.modify (idxK m s) fun e => { e with key := .string s, val := u }))
  | [], es, s, d, u, h, hd => by
    rw [MRep] at h; subst h; refine ⟨fun _ k => ?_, fun h => by simp [hasK] at h⟩
    rw [putK, MRep]; exact ⟨_, _, rfl, rfl, hd, by rw [MRep]⟩
  | (k, d0) :: m, es, s, d, u, h, hd => by
    rw [MRep] at h; obtain ⟨e, r, rfl, h1, h2, h3⟩ := h; obtain ⟨g1, g2⟩ := mput m r s d u h3 hd; by_cases hk : k = s
    . refine ⟨fun h => by simp [hasK, hk] at h, fun _ => ?_⟩
      have h0 : idxK ((k, d0) :: m) s = 0 := by simp [idxK, List.findIdx_cons, hk]
      have hp : putK ((k, d0) :: m) s d = (s, d) :: m := by simp [putK, hk]
      rw [h0, hp, MRep]; exact ⟨_, _, rfl, rfl, hd, h3⟩
    . have hh : hasK ((k, d0) :: m) s = hasK m s := by simp [hasK, hk]
      have hi : idxK ((k, d0) :: m) s = idxK m s + 1 := by simp [idxK, List.findIdx_cons, hk]
      have hp : putK ((k, d0) :: m) s d = (k, d0) :: putK m s d := by simp [putK, hk]
      rw [hh, hi, hp]; refine ⟨fun h kk => ?_, fun h => ?_⟩
      . rw [MRep]; exact ⟨_, _, rfl, h1, h2, g1 h kk⟩
      . rw [MRep]; exact ⟨_, _, rfl, h1, h2, g2 h⟩
theorem s_mapUpdate {o : Oper} {T : Nat} {x i v : Operand} (ht : TabOk P tab) (ho : o.op = .mapUpdate T x i v) : Snd P tab Q E t own n K o a w QQ := by
  intro β S h r; rw [show opProg tab o = rdO x fun vx => rdO i fun vi => rdO v fun vv => mapPut tab T vx vi vv by unfold opProg; rw [ho]] at h
  obtain ⟨vx, h1, g2, g3⟩ := rdO_sound x _ h r; obtain ⟨vi, h2, f2, f3⟩ := rdO_sound i _ h1 r; obtain ⟨vv, h3, e2, e3⟩ := rdO_sound v _ h2 r; clear h h1 h2; unfold mapPut at h3; obtain ⟨⟨iT, dT, zT, _, hu, _, _, _, _, hd⟩, h4⟩ := withT_sound ht T _ h3; clear h3; generalize (tab T).d = dd at h4 hd; split at h4
  . rename_i k e j s d hdv
    simp only [tdOk] at hd; subst hd; obtain ⟨⟨ik, dk, zk, _, huk, _, _, _, _, hdk⟩, h5⟩ := withT_sound ht k _ h4; clear h4; split at h5
    . rename_i hk
      rw [hk] at hdk; simp only [tdOk] at hdk; subst hdk; obtain ⟨bk, hb, h8⟩ := rdB_sound h5; clear h5; unfold putB at h8; split at h8
      . rename_i T' m
        have h9 := ret_sound (wrB_sound h8); obtain ⟨b, es, ck, q1, q2, q3⟩ := r.mem.blk _ _ hb; rw [SRep] at g3; rw [SRep] at f3; have hx : a.eval x = .map (some b) := by rw [g3.1, q1]
        have hget := Go.MapKept.run_getObj_map (P := P) q2; have hchk := run_checkKey (P := P) (w := w) huk (k := .string (s ())) trivial false 9999; have hdr : DRep S (d ()) (a.eval v) := toDV_sound hdv e3; obtain ⟨m1, m2⟩ := mfind (m ()) es.toList (s ()) 0 q3; obtain ⟨p1, p2⟩ := mput (m ()) es.toList (s ()) (d ()) (a.eval v) q3 hdr
        have fin : ∀ (es' : Array MapEntry) (ck' : Nat), (Instr.mapUpdate T (a.eval x) (a.eval i) (a.eval v)).run P w = .ok () { w with heap := w.heap.setIfInBounds b (.map es' ck') } -> MRep S (putK (m ()) (s ()) (d ())) es'.toList -> o.wp P a w (Aft P tab Q E t K o a) QQ := by
          intro es' ck' hrun hrep; refine wp_skip' (w' := { w with heap := w.heap.setIfInBounds b (.map es' ck') }) ?_ ⟨.any, _, _, β, S, h9, by simp [SRep], by simp [KB], ?_⟩
          . simp only [execOp, ho, Sem.run_bind, hrun, Result.andThen_ok, Sem.run_pure]
          . refine r.mem' (Nat.le_refl _) (fun _ _ => rfl) (Sub.refl S) (ko_setB r hb trivial) ?_
            obtain ⟨s1, s2⟩ := heap_set (o' := .map es' ck') q2; exact r.mem.setMap r.ko hb q1 rfl rfl rfl (by simp) s2 s1 hrep
        cases hh : hasK (m ()) (s ()) with
        | false =>
          have hfk := run_findKey (P := P) (w := w) huk (m1 hh); refine fin (es.push ⟨.string (s ()), a.eval v, ck⟩) (ck + 1) ?_ (by rw [Array.toList_push]; exact p1 hh ck)
          simp [Instr.mapUpdate, run_underlying hu, hx, f3, hget, hchk, hfk, Go.MapKept.run_setObj_map _ q2]
        | true =>
          obtain ⟨pp, e', r1, r2, r3, r4⟩ := m2 hh; have hfk := run_findKey (P := P) (w := w) huk r4
          have hkey : e'.key = .string (s ()) := by
            have hget : ∀ (m : List (ByteArray × DV)) (es : List MapEntry) (s : ByteArray), MRep S m es -> hasK m s = true -> ∀ e, es[idxK m s]? = some e -> e.key = .string s := by
              intro m
              induction m with
              | nil => intro es s _ h; simp [hasK] at h
              | cons p m ih =>
                obtain ⟨k, d0⟩ := p; intro es s h hh e he; rw [MRep] at h; obtain ⟨e0, r0, rfl, h1, h2, h3⟩ := h; by_cases hk : k = s
                . have h0 : idxK ((k, d0) :: m) s = 0 := by simp [idxK, List.findIdx_cons, hk]
                  rw [h0] at he; cases he; rw [h1, hk]
                . have hi : idxK ((k, d0) :: m) s = idxK m s + 1 := by simp [idxK, List.findIdx_cons, hk]
                  rw [hi] at he; exact ih r0 s h3 (by simpa [hasK, hk] using hh) e (by simpa using he)
            exact hget _ _ _ q3 hh e' r2
          refine fin (es.modify (idxK (m ()) (s ())) fun e => { e with key := .string (s ()), val := a.eval v }) ck ?_ (by rw [Array.toList_modify]; exact p2 hh)
          have r2' : es[idxK (m ()) (s ())]? = some e' := by simpa using r2
          have hsame : Instr.sameBits 10000 (.string (s ())) (.string (s ())) = true := by simp [Instr.sameBits, bytes_beq]
          simp [Instr.mapUpdate, run_underlying hu, hx, f3, hget, hchk, hfk, r2', hkey, Instr.keyThatStays, hsame, Go.MapKept.run_setObj_map _ q2]
      . exact (not_stuck (by simpa [runAP] using h8)).elim
    . exact (not_stuck (by simpa [runAP] using h5)).elim
  . exact (not_stuck (by simpa [runAP] using h4)).elim
end
end Go.Eng
