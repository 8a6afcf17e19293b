/- The engine, part 7: slice literals, lengths, appends, calls; all operations together. The engine, part 7b: regions whose order is drawn. -/
import Derived.Test.YtkgiopdkhhinoaaGreatDoorXac
set_option linter.all false
namespace Go.Eng
section
variable {P : Program} {tab : Nat -> TI} {Q : QT} {E : Env} {t : List SV} {own : Own} {n : Nat} {K : SV -> Own -> Nat -> R} {a : Act} {w : World} {β : Nat -> Value} {S : Snap}
  {QQ : Exit -> Act -> World -> Prop}
theorem sealVs_sound : ∀ (vs : List SV) (us : List Value) (k : List SV -> AP) (own : Own) (S : Snap), Holds P tab Q (runAP (sealVs vs k) t own n K) -> RelB E ⟨t, own, n⟩ a w β S -> SReps β S vs us -> KBs n vs ->
    ∃ vs' own' S', Sub S S' /\ Holds P tab Q (runAP (k vs') t own' n K) /\ RelB E ⟨t, own', n⟩ a w β S' /\ SReps β S' vs' us /\ KBs n vs'
  | [], us, k, own, S, h, r, hs, hk => ⟨[], own, S, Sub.refl S, by simpa [sealVs] using h, r, hs, hk⟩
  | v :: vs, us, k, own, S, h, r, hs, hk => by
    rw [SReps] at hs; obtain ⟨u, us, rfl, h1, h2⟩ := hs; rw [KBs] at hk
    have one : ∀ (v : SV) (k : SV -> AP), Holds P tab Q (runAP (sealV v k) t own n K) -> KB n v -> SRep β S v u -> ∃ v' own' S', Sub S S' /\ Holds P tab Q (runAP (k v') t own' n K) /\ RelB E ⟨t, own', n⟩ a w β S' /\ SRep β S' v' u /\ KB n v' := by
      intro v k hh hkv hv
      cases v with
      | agg l =>
        rw [SRep] at hv; rw [KB] at hkv; obtain ⟨cs, rfl, hv⟩ := hv; obtain ⟨vs', own', S', e1, e2, e3, e4, e5, e6⟩ := sealCs_sound l _ _ own S (by simpa [sealV] using hh) r hv hkv
        exact ⟨.agg vs', own', S', e1, e2, e3, by rw [SRep]; exact ⟨_, rfl, e4⟩, by rw [KB]; exact e5⟩
      | os j =>
        have hh' : Holds P tab Q (runAP (sealCs [.os j] fun l => k (nth .any l 0)) t own n K) := by
          simp only [sealV] at hh; simp only [sealCs]; rw [runAP] at hh ⊢; split at hh
          . exact hh
          . exact (not_stuck hh).elim
        obtain ⟨vs', own', S', e1, e2, e3, e4, e5, e6⟩ := sealCs_sound [.os j] [u] _ own S hh' r (by rw [SReps]; exact ⟨u, [], rfl, hv, by rw [SReps]⟩) (by rw [KBs]; exact ⟨hkv, trivial⟩)
        refine ⟨nth .any vs' 0, own', S', e1, e2, e3, ?_, KBs_nth 0 e5⟩; have := SReps_nth 0 e4; simpa using this
      | _ => exact ⟨_, own, S, Sub.refl S, by simpa [sealV] using hh, r, hv, hkv⟩
    obtain ⟨v', own1, S1, s1, s2, s3, s4, s5⟩ := one v _ (by simpa [sealVs] using h) hk.1 h1
    obtain ⟨vs', own', S', e1, e2, e3, e4, e5⟩ := sealVs_sound vs us _ own1 S1 s2 s3 (SReps_congr s1 (n := n) (fun _ _ => rfl) _ _ hk.2 h2) hk.2
    exact ⟨v' :: vs', own', S', s1.trans e1, e2, e3, by rw [SReps]; exact ⟨u, us, rfl, SRep_congr e1 (n := n) (fun _ _ => rfl) _ _ s5 s4, e4⟩, by rw [KBs]; exact ⟨s5, e5⟩⟩
theorem toDVs_one : ∀ {vs : List SV} {d : Unit -> List DV}, toDVs vs = some d -> allOne vs = true
  | [], d, h => rfl
  | v :: vs, d, h => by
    simp only [toDVs] at h; split at h
    . rename_i d1 d2 e1 e2
      have hv : v.one = true := by
        cases v <;> simp only [toDV] at e1 <;> first | rfl | cases e1 | skip
        all_goals (split at e1 <;> first | (simp [SV.one]; assumption) | cases e1)
      simp [allOne, hv, toDVs_one e2]
    . cases h
theorem toRows_sound {sz : Nat} : ∀ {vs : List SV} {us : List Value} {l : Unit -> List (List DV)}, toRows sz (vs.map cellsOf) = some l -> SReps β S vs us -> KBs n vs ->
    DRows S sz (l ()) (us.flatMap fun v => v.cells.toList) /\ (∀ u ∈ us, u.cells.size = sz) /\ (l ()).length = vs.length
  | [], us, l, h, hs, hk => by
    rw [SReps] at hs; subst hs; simp only [List.map_nil, toRows] at h; cases h; exact ⟨by simp [DRows], by simp, rfl⟩
  | v :: vs, us, l, h, hs, hk => by
    rw [SReps] at hs; obtain ⟨u, us, rfl, h1, h2⟩ := hs; rw [KBs] at hk; simp only [List.map_cons, toRows] at h; split at h
    . rename_i d ds e1 e2 e3
      cases h; have e1 := beq_true e1; obtain ⟨c1, c2⟩ := cells_sound h1 hk.1 (toDVs_one e2); obtain ⟨g1, g2⟩ := toDVs_sound e2 c1; obtain ⟨f1, f2, f3⟩ := toRows_sound e3 h2 hk.2; have hcl := SReps_length c1; simp only [Array.length_toList] at hcl; refine ⟨?_, ?_, by simp [f3]⟩
      . rw [DRows, List.flatMap_cons]; exact ⟨_, _, rfl, by omega, g1, f1⟩
      . intro x hx; rcases List.mem_cons.1 hx with rfl | hx
        . omega
        . exact f2 x hx
    . cases h
theorem dense_sound {α γ : Type} : ∀ (k : Nat) (is : List Nat) (vs : List α) (us : List γ) (vs' : List α), dense k (is.zip vs) = some vs' -> is.length = vs.length -> vs.length = us.length ->
    vs' = vs /\ is.zip us = (us.zipIdx k).map fun x => (x.2, x.1)
  | k, [], [], [], vs', h, _, _ => by simp [dense] at h; exact ⟨h, rfl⟩
  | k, i :: is, v :: vs, u :: us, vs', h, h1, h2 => by
    simp only [List.zip_cons_cons, dense] at h; split at h
    . rename_i rs e1 e2
      have e1 := beq_true e1; subst e1; cases h; obtain ⟨g1, g2⟩ := dense_sound (i + 1) is vs us _ e2 (by simpa using h1) (by simpa using h2)
      subst g1; exact ⟨rfl, by simp [g2]⟩
    . cases h
  | k, [], v :: vs, us, vs', h, h1, _ => by simp at h1
  | k, i :: is, [], us, vs', h, h1, _ => by simp at h1
  | k, [], [], u :: us, vs', h, _, h2 => by simp at h2
  | k, i :: is, v :: vs, [], vs', h, _, h2 => by simp at h2
theorem s_buildSlice {o : Oper} {T m : Nat} {ps : Array (Nat × Operand)} (ht : TabOk P tab) (ho : o.op = .buildSlice T m ps) : Snd P tab Q E t own n K o a w QQ := by
  intro β S h r; rw [show opProg tab o = rdOs (ps.toList.map (·.2)) fun vs => buildSliceOp tab T m (ps.toList.map (·.1)) vs by unfold opProg; rw [ho]] at h
  obtain ⟨svs, h1, g2, g3⟩ := rdOs_sound _ _ h r; obtain ⟨hT, h1⟩ := withT_sound ht T _ h1; obtain ⟨e, he, h1⟩ := isSl_sound h1; have hu := sl_facts hT he; obtain ⟨⟨ie, de, ze, hie, _, hse, hby, hz, hzc, _⟩, h1⟩ := withT_sound ht e _ h1; obtain ⟨hp, hzl, h1⟩ := isPos_sound h1; obtain ⟨hsm, h1⟩ := when_sound h1; have hsm : m * (tab e).size < 10000 := by simpa [Nat.blt_eq] using hsm
  obtain ⟨vs', own', S', e1, e2, e3, e4, e5⟩ := sealVs_sound _ _ _ own S h1 r g3 g2; clear h1 h; unfold newRows at e2; split at e2
  . rename_i l vs2 hrow hden
    obtain ⟨hm, e6⟩ := when_sound e2; have hm := beq_true hm; have h4 := ret_sound (newB_sound e6); obtain ⟨f1, f2, f3⟩ := toRows_sound hrow e4 e5; have hl4 := SReps_length e4; obtain ⟨k1, k2⟩ := dense_sound 0 _ _ ((ps.toList.map (·.2)).map a.eval) _ hden (by simpa using hl4) hl4.symm
    subst k1; have hzs : ze.cells.size = (tab e).size := by rw [<- hzl, <- hzc]; simp
    generalize hus : (ps.toList.map (·.2)).map a.eval = us at *; have husl : us.length = m := by rw [hl4]; exact hm
    have hdl := DRows_length f1; rw [f3, hm] at hdl; by_cases hm0 : m = 0
    . subst hm0; have hus0 : us = [] := List.eq_nil_of_length_eq_zero husl
      have hps : ps = #[] := by
        have : ps.toList = [] := by
          have := congrArg List.length hus; simp [hus0] at this; simpa using this
        simpa using this
      have hl0 : l () = [] := List.eq_nil_of_length_eq_zero (by omega)
      subst hus0; refine wp_value (v' := .slice (some ⟨w.heap.size, 0, none⟩) 0 0) (w' := w.alloc (.cells #[] e)) ?_ ⟨.os n, _, _, ext β n (.slice (some ⟨w.heap.size, 0, none⟩) 0 0), S', h4, by rw [SRep]; exact ⟨ext_same.symm, rfl⟩, by simp [KB], ?_⟩
      . simp [execOp, ho, hps, Instr.buildSlice, run_underlying hu, sizeOf, typeInfo, hie, Instr.fill, newRow, Array.range_zero']
      . refine e3.mem' (by omega) (fun j hj => ext_lt hj) (Sub.refl S') (ko_cons e3 trivial) ?_
        refine e3.mem.newArr e3.ko e (World.grownBy_alloc w _ none) (xs := []) ?_ (by rw [hl0, DRows])
        refine ⟨by simp [hl0], .inr ⟨w.heap.size, 0, _, by simp [hl0], Nat.le_refl _, heap_alloc_new w _, by simp [hl0], by simp [maxLen], by simp, by simp⟩⟩
    . have hfill := Great.fill_whole hp us ((Array.range (m * ie.size)).map (ze.cells[· % ze.cells.size]!)) f2 (by simp [husl, hse])
      have hpos : 0 < m * (tab e).size := Nat.mul_pos (by omega) hp
      have hrun := run_buildSlice (P := P) w T e m (ps.map fun (i, x) => (i, a.eval x)) _ ie ze hu hie hz (by rw [hse]; omega) (by rw [hse]; omega) (by
        rw [parts_zip, hus, k2, hse] at *; simpa using hfill)
      refine wp_value (v' := .slice (some ⟨w.heap.size, 0, none⟩) m m) (w' := w.alloc (.cells (us.flatMap fun v => v.cells.toList).toArray e)) ?_ ⟨.os n, _, _, ext β n (.slice (some ⟨w.heap.size, 0, none⟩) m m), S', h4, by rw [SRep]; exact ⟨ext_same.symm, rfl⟩, by simp [KB], ?_⟩
      . simp only [execOp, ho, Sem.run_bind, hrun, Result.andThen_ok, Sem.run_pure]
      . refine e3.mem' (by omega) (fun j hj => ext_lt hj) (Sub.refl S') (ko_cons e3 trivial) ?_
        refine e3.mem.newArr e3.ko e (World.grownBy_alloc w _ none) ?_ f1; rw [f3, hm]; refine ⟨hdl, .inr ⟨w.heap.size, m, _, rfl, Nat.le_refl _, heap_alloc_new w _, Nat.le_refl _, ?_, by simpa using hdl, by rw [<- hdl, List.toList_toArray]; exact List.take_length⟩⟩
        have : m <= m * (tab e).size := Nat.le_mul_of_pos_right m hp; simp [maxLen]; omega
  . exact (not_stuck (by simpa [runAP] using e2)).elim
theorem elemsOf_sound {sz : Nat} {x : SV} {xv : Value} {k : (Unit -> List (List DV)) -> AP} (h : Holds P tab Q (runAP (elemsOf sz x k) t own n K)) (hx : SRep β S x xv) (m : Mem E.w0 E.X E.S0 β S own w) :
    ∃ xl, Holds P tab Q (runAP (k xl) t own n K) /\ ((xv = .slice none 0 0 /\ xl () = []) \/
      ∃ ad c news, xv = .slice (some ad) (xl ()).length c /\ DRows S sz (xl ()) news /\ ∀ j u, news[j]? = some u -> w.cell? (ad.add j) = some u) := by
  unfold elemsOf at h; split at h
  . rw [SRep] at hx; exact ⟨_, h, .inl ⟨hx, rfl⟩⟩
  . obtain ⟨hsz, h1⟩ := when_sound h; have hsz := beq_true hsz; rw [SRep] at hx; rw [DRep] at hx; rcases hx with ⟨hl, a, cap, hx, ha⟩ | ⟨b, off, cap, c, T', fr, e1, e2, e3, e4⟩
    . cases a with
      | none => exact ⟨_, h1, .inl ⟨by rw [hx, ha rfl], hl⟩⟩
      | some a => exact ⟨_, h1, .inr ⟨a, cap, [], by rw [hx, hl]; rfl, by rw [hl, DRows], fun j u hj => by simp at hj⟩⟩
    . refine ⟨_, h1, .inr ⟨_, _, _, e1, by rw [hsz]; exact e4, ?_⟩⟩
      intro j u hj; rw [Addr.add_mid]; exact rangeAt_of_cells (m.sat _ _ e3) j u hj
  . obtain ⟨bk, hb, h1⟩ := rdB_sound h
    cases bk with
    | arr T' sz' l =>
      simp only [elemsB] at h1; obtain ⟨hsz, h2⟩ := when_sound h1; have hsz := beq_true hsz; rw [SRep] at hx; obtain ⟨xs, ⟨o1, o2⟩, o3⟩ := m.blk _ _ hb; rcases o2 with ⟨o2, o4⟩ | ⟨g, cap', cur, q1, q2, q3, q4, q5, q6, q7⟩
      . exact ⟨_, h2, .inl ⟨by rw [hx.1, o2], List.eq_nil_of_length_eq_zero o4⟩⟩
      . refine ⟨_, h2, .inr ⟨_, _, xs, by rw [hx.1, q1], by rw [hsz]; exact o3, ?_⟩⟩
        intro j u hj; rw [Addr.add_mid]; refine rangeAt_of_cells (o := 0) (k := (l ()).length * sz') q3 j u ?_; rw [List.drop_zero, q7]; exact hj
    | _ => exact (not_stuck (by simpa [elemsB, runAP] using h1)).elim
  . exact (not_stuck (by simpa [runAP] using h)).elim
theorem movB_sound {j : Nat} {b : Blk} {k : Nat -> AP} (h : Holds P tab Q (runAP (.movB j b k) t own n K)) : Holds P tab Q (runAP (k n) t ((n, b) :: delB own j) (n + 1) K) := by
  rwa [runAP] at h
theorem ko_mov {b : Blk} {j : Nat} (r : RelB E ⟨t, own, n⟩ a w β S) (hb : KBb (n + 1) b) : ∀ i c, lookB ((n, b) :: delB own j) i = some c -> i < n + 1 /\ KBb (n + 1) c := by
  intro i c h; refine ko_cons r hb i c ?_; rw [lookB_cons] at h ⊢; split at h
  . rename_i e; rw [if_pos e]; exact h
  . rename_i e
    rw [if_neg e]; rw [lookB_delB] at h; split at h
    . cases h
    . exact h
theorem run_append {T U ty e : TypeId} {ie : TypeInfo} {ze : Value} {sz : Nat} (hu : P.underlying T = some (.slice e)) (hie : P.info? e = some ie) (hz : ie.zero = some ze) (hsz : ie.size = sz) (hzs : ze.cells.size = sz) (hp : 0 < sz)
    {v xv : Value} {l xl : List (List DV)} {xs : List Value} (hown : w.ownsRow 0 e sz v l.length xs) (hr : DRows S sz l xs) (hTU : T = U)
    (hx : (xv = .slice none 0 0 /\ xl = []) \/ ∃ ad c news, xv = .slice (some ad) xl.length c /\ DRows S sz xl news /\ ∀ j u, news[j]? = some u -> w.cell? (ad.add j) = some u)
    (hroom : (l.length + xl.length) * ie.bytes <= 140737488355328 /\ l.length + xl.length <= 4611686018427387904) :
    ∃ v' w' ys, (Builtin.append_ #[T, U] ty #[v, xv]).run P w = .ok v' w' /\ w'.ownsRow 0 e sz v' (l ++ xl).length ys /\ DRows S sz (l ++ xl) ys /\ w.grownBy w' v.ownBlock /\ (∀ x, blkOf v' = some x -> blkOf v = some x \/ w.heap.size <= x) := by
  subst hTU; rcases hx with ⟨rfl, rfl⟩ | ⟨ad, c, news, rfl, h1, h2⟩
  . refine ⟨v, w, xs, run_append_owned_none (P := P) (w := w) 0 T ty e ie sz hu hie v l.length xs hown, by simpa using hown, by simpa using hr, ⟨rfl, rfl, rfl, Nat.le_refl _, fun _ _ _ => rfl⟩, fun x hx => .inl hx⟩
  . have hl := DRows_length h1; have h63 : l.length + xl.length <= maxLen := by simp [maxLen]; omega
    rcases hown.2 with ⟨rfl, hl0⟩ | ⟨g, cap, cur, rfl, q2, q3, q4, q5, q6, q7⟩
    . have hx0 : xs = [] := List.eq_nil_of_length_eq_zero (by rw [hown.1, hl0, Nat.zero_mul])
      subst hx0; have hown' : w.ownsRow w.heap.size e sz (.slice none 0 0) l.length [] := ⟨hown.1, .inl ⟨rfl, hl0⟩⟩; obtain ⟨v', w', e1, e2, e3, e4⟩ := run_append_own (P := P) w w.heap.size T ty e ie ze sz ie.bytes hu hie hz hsz rfl hzs hp _ l.length [] hown' ad xl.length c news hl h2 (DRows_one h1) h63 hroom.1 (Nat.le_refl _); refine ⟨v', w', [] ++ news, e1, ⟨by simpa using e2.1, ?_⟩, DRows_append hr h1, e3, ?_⟩
      . rcases e2.2 with ⟨p1, p2⟩ | ⟨g, cap, cur, p1, p2, p3⟩
        . exact .inl ⟨p1, by simpa using p2⟩
        . exact .inr ⟨g, cap, cur, by simpa using p1, Nat.zero_le _, by simpa using p3⟩
      . intro x hx; rcases e2.2 with ⟨p1, p2⟩ | ⟨g, cap, cur, p1, p2, p3⟩
        . rw [p1] at hx; simp [blkOf] at hx
        . rw [p1] at hx; simp [blkOf] at hx; right; omega
    . obtain ⟨v', w', e1, e2, e3, e4⟩ := run_append_own (P := P) w 0 T ty e ie ze sz ie.bytes hu hie hz hsz rfl hzs hp _ l.length xs hown ad xl.length c news hl h2 (DRows_one h1) h63 hroom.1 (Nat.zero_le _); refine ⟨v', w', xs ++ news, e1, by simpa using e2, DRows_append hr h1, e3, ?_⟩
      intro x hx; subst hsz; by_cases hfit : l.length + xl.length <= cap
      . have hfit2 : l.length * ie.size + news.length <= cur.size := by rw [hl, q6, <- Nat.add_mul]; exact Nat.mul_le_mul_right _ hfit
        have hr2 := run_append_room (P := P) w T ty e ie hu hie g l.length cap cur q3 ad xl.length c news hl h2 (DRows_one h1) hfit hfit2; rw [e1] at hr2; cases hr2; left; simpa [blkOf] using hx
      . have holds : ∀ j u, xs[j]? = some u -> w.cell? ((⟨g, 0, none⟩ : Addr).add j) = some u := hown.cells (g := g) rfl; have hr2 := run_append_grow (P := P) w T ty e ie ze hu hie hz ⟨g, 0, none⟩ l.length cap xs hown.1 holds ad xl.length c news hl h2 (by omega) (by omega) (growslice_fits (by omega) hroom.1)
        rw [e1] at hr2; cases hr2; right; simp [blkOf] at hx; omega
theorem run_copyTo {T U ty e : TypeId} {ie : TypeInfo} {sz : Nat} (hu : P.underlying T = some (.slice e)) (hie : P.info? e = some ie) (hsz : ie.size = sz) {g o dLen dCap sLen sCap : Nat} {ad : Addr} {cur : Array Value} {tt : TypeId} {cs : List Value}
    (hg : w.heap[g]? = some (.cells cur tt (0, 0))) (hn : cs.length = min sLen dLen * sz) (hsrc : ∀ j v, cs[j]? = some v -> w.cell? (ad.add j) = some v) (hfit : o + cs.length <= cur.size) (h1 : ∀ v ∈ cs, v.oneCell' = true) :
    (Builtin.copy_ #[T, U] ty #[.slice (some ⟨g, o, none⟩) dLen dCap, .slice (some ad) sLen sCap]).run P w = .ok (goInt ((min sLen dLen : Nat) : Int)) (w.setRow g (splice cur.toList o cs).toArray) := by
  subst hsz; have hf := run_firstCells_some (P := P) w ie.size (min sLen dLen) ad sLen sCap cs hn hsrc; have hst := run_storeCells_at P g o tt cs 0 cur w hg (by simpa using hfit) h1
  rw [Nat.add_zero, <- splice_eq _ _ _ (by simpa using hfit)] at hst
  have hf' : (Builtin.firstCells ie.size (sLen.min dLen) (.slice (some ad) sLen sCap)).run P w = .ok cs.toArray w := hf; simp [Builtin.copy_, run_underlying hu, Builtin.lenOf, sizeOf, typeInfo, hie, hf', hst]
theorem view_len {j sz : Nat} {a' b' : Unit -> Int} {v : Value} (h : SRep β S (.ov j sz a' b') v) : ∃ (p : Option Addr) (c : Nat), v = .slice p (b' () - a' ()).toNat c /\ 0 <= a' () /\ a' () <= b' () := by
  rw [SRep] at h; obtain ⟨h1, h2, ⟨g, nn, cap, off, d1, d2, d3, d4, d5⟩ | ⟨d1, d2, d3⟩⟩ := h
  . exact ⟨_, _, d5, h1, h2⟩
  . refine ⟨none, 0, ?_, h1, h2⟩; have : (b' () - a' ()).toNat = 0 := by omega
    rw [d3, this]
def SrcRep (S : Snap) (w : World) (sz : Nat) (xv : Value) (xl : List (List DV)) (ln : Int) : Prop :=
  (xv = .slice none 0 0 /\ xl = [] /\ ln = 0) \/ ∃ ad c news, xv = .slice (some ad) ln.toNat c /\ 0 <= ln /\ DRows S sz xl news /\ ∀ j u, news[j]? = some u -> w.cell? (ad.add j) = some u
theorem viewRows_sound {sz : Nat} {a' b' : Unit -> Int} {k : (Unit -> List (List DV)) -> (Unit -> Int) -> AP} {bk : Blk} {j : Nat} {xv : Value} (h : Holds P tab Q (runAP (viewRows sz a' b' k bk) t own n K)) (hx : SRep β S (.ov j sz a' b') xv) (hb : BRep β S w j bk) :
    ∃ xl ln, Holds P tab Q (runAP (k xl ln) t own n K) /\ SrcRep S w sz xv (xl ()) (ln ()) := by
  have key : ∀ (T : TypeId) (l : Unit -> List (List DV)), ((β j = .slice none 0 0) \/ ∃ g nn cap cur, β j = .slice (some ⟨g, 0, none⟩) nn cap /\ w.heap[g]? = some (.cells cur T (0, 0)) /\ (l ()).length <= cap /\ DRows S sz (l ()) (cur.toList.take ((l ()).length * sz))) ->
      Holds P tab Q (runAP (k (fun _ => ((l ()).take (b' ()).toNat).drop (a' ()).toNat) fun _ => b' () - a' ()) t own n K) ->
      ∃ xl ln, Holds P tab Q (runAP (k xl ln) t own n K) /\ SrcRep S w sz xv (xl ()) (ln ()) := by
    intro T l o1 h1; rw [SRep] at hx; obtain ⟨c1, c2, c3⟩ := hx; refine ⟨_, _, h1, ?_⟩; obtain ⟨an, han⟩ : ∃ an : Nat, a' () = an := ⟨(a' ()).toNat, by omega⟩
    obtain ⟨bn, hbn⟩ : ∃ bn : Nat, b' () = bn := ⟨(b' ()).toNat, by omega⟩
    simp only [han, hbn, Int.toNat_natCast] at c3 ⊢; rcases c3 with ⟨g, nn, cap, off, d1, d2, d3, d4, d5⟩ | ⟨d1, d2, d3⟩
    . right
      rcases o1 with q1 | ⟨g', nn', cap', cur, q1, q3, q4, q5⟩
      . rw [q1] at d1; cases d1
      . rw [q1] at d1; cases d1; refine ⟨⟨g, off, none⟩, _, ((cur.toList.take ((l ()).length * sz)).take (bn * sz)).drop (an * sz), d5, by omega, DRows_drop an (DRows_take bn q5), ?_⟩
        intro i u hi; rw [Addr.add_mid]; by_cases hlt : an < cap
        . rw [d3 hlt]; have := rangeAt_of_cells (o := 0) (k := (l ()).length * sz) q3 (an * sz + i) u ?_
          . rwa [Nat.zero_add] at this
          rw [List.drop_zero]; rw [List.getElem?_drop, List.getElem?_take] at hi; split at hi
          . exact hi
          . cases hi
        . exfalso; rw [List.drop_eq_nil_of_le] at hi
          . simp at hi
          . have e1 : (l ()).length <= an := by omega
            have e2 := Nat.mul_le_mul_right sz e1; rw [List.length_take, List.length_take]; omega
    . left
      refine ⟨d3, ?_, by omega⟩
      have : bn = 0 := by omega
      subst this; simp
  cases bk with
  | arr T sz' l =>
    simp only [viewRows] at h; obtain ⟨hsz, h1⟩ := when_sound h; have hsz := beq_true hsz; subst hsz; obtain ⟨hle, h2⟩ := need_sound h1; obtain ⟨xs, o1, o3⟩ := hb; refine key T l ?_ h2; rcases o1.2 with ⟨q1, _⟩ | ⟨g', cap', cur, q1, q2, q3, q4, q5, q6, q7⟩
    . exact .inl q1
    . exact .inr ⟨g', _, cap', cur, q1, q3, q4, by rw [q7]; exact o3⟩
  | full T sz' l c =>
    simp only [viewRows] at h; obtain ⟨hsz, h1⟩ := when_sound h; have hsz := beq_true hsz; subst hsz; refine key T l ?_ h1; rcases hb with ⟨q1, _⟩ | ⟨g, n0, cap, cur, q1, q2, q3, q4, q5, q6, q7, q8⟩
    . exact .inl q1
    . exact .inr ⟨g, n0, cap, cur, q1, q2, q4, q7⟩
  | _ => exact (not_stuck (by simpa [viewRows, runAP] using h)).elim
theorem srcRows_sound {sz : Nat} {x : SV} {xv : Value} {k : (Unit -> List (List DV)) -> (Unit -> Int) -> AP} (h : Holds P tab Q (runAP (srcRows sz x k) t own n K)) (hx : SRep β S x xv) (m : Mem E.w0 E.X E.S0 β S own w) :
    ∃ xl ln, Holds P tab Q (runAP (k xl ln) t own n K) /\ SrcRep S w sz xv (xl ()) (ln ()) := by
  unfold srcRows at h; split at h
  . obtain ⟨hsz, h1⟩ := when_sound h; have hsz := beq_true hsz; subst hsz; obtain ⟨bk, hb, h2⟩ := rdB_sound h1; exact viewRows_sound h2 hx (m.blk _ _ hb)
  . obtain ⟨xl, h1, h2⟩ := elemsOf_sound h hx m; refine ⟨xl, _, h1, ?_⟩; rcases h2 with ⟨q1, q2⟩ | ⟨ad, c, news, q1, q2, q3⟩
    . exact .inl ⟨q1, q2, by simp [lenL, q2]⟩
    . exact .inr ⟨ad, c, news, by simpa [lenL] using q1, by simp [lenL], q2, q3⟩
theorem copy_rows {sz : Nat} {a' b' ln : Unit -> Int} {xl l : Unit -> List (List DV)} {cur news : List Value} (h0 : 0 <= a' ()) (hle : a' () <= (l ()).length) (hm1 : cpyN a' b' ln <= (xl ()).length) (o3 : DRows S sz (l ()) (cur.take ((l ()).length * sz))) (hn : DRows S sz (xl ()) news)
    (hfit : (a' ()).toNat * sz + cpyN a' b' ln * sz <= cur.length) (hl : (l ()).length * sz <= cur.length) :
    (news.take (cpyN a' b' ln * sz)).length = cpyN a' b' ln * sz /\ (cpy a' b' ln xl l).length = max (l ()).length ((a' ()).toNat + cpyN a' b' ln) /\
      DRows S sz (cpy a' b' ln xl l) ((splice cur ((a' ()).toNat * sz) (news.take (cpyN a' b' ln * sz))).take ((cpy a' b' ln xl l).length * sz)) := by
  have hnl := DRows_length hn
  have hlen : (news.take (cpyN a' b' ln * sz)).length = cpyN a' b' ln * sz := by
    rw [List.length_take, hnl, Nat.min_eq_left (Nat.mul_le_mul_right _ hm1)]
  have hcl : (cpy a' b' ln xl l).length = max (l ()).length ((a' ()).toNat + cpyN a' b' ln) := by
    simp only [cpy, List.length_append, List.length_take, List.length_drop]; omega
  refine ⟨hlen, hcl, ?_⟩; rw [splice_eq _ _ _ (by rw [hlen]; exact hfit), hlen]
  have hA := DRows_take (a' ()).toNat o3; have hale : (a' ()).toNat * sz <= (l ()).length * sz := Nat.mul_le_mul_right _ (by omega)
  rw [List.take_take, Nat.min_eq_left hale] at hA; have hB := DRows_take (cpyN a' b' ln) hn; have hC := DRows_drop ((a' ()).toNat + cpyN a' b' ln) o3; have hall := DRows_append hA (DRows_append hB hC)
  have e : (cur.take ((a' ()).toNat * sz) ++ news.take (cpyN a' b' ln * sz) ++ cur.drop ((a' ()).toNat * sz + cpyN a' b' ln * sz)).take ((cpy a' b' ln xl l).length * sz) =
      cur.take ((a' ()).toNat * sz) ++ (news.take (cpyN a' b' ln * sz) ++ (cur.take ((l ()).length * sz)).drop (((a' ()).toNat + cpyN a' b' ln) * sz)) := by
    have hlA : (cur.take ((a' ()).toNat * sz)).length = (a' ()).toNat * sz := by rw [List.length_take]; omega
    have hmax : (cpy a' b' ln xl l).length * sz = max ((l ()).length * sz) ((a' ()).toNat * sz + cpyN a' b' ln * sz) := by
      rw [hcl, <- Nat.add_mul]; rcases Nat.le_total (l ()).length ((a' ()).toNat + cpyN a' b' ln) with h | h
      . rw [Nat.max_eq_right h, Nat.max_eq_right (Nat.mul_le_mul_right _ h)]
      . rw [Nat.max_eq_left h, Nat.max_eq_left (Nat.mul_le_mul_right _ h)]
    rw [hmax, List.append_assoc, List.take_append, hlA, List.take_of_length_le (by rw [hlA]; omega)]
    congr 1; rw [List.take_append, hlen, List.take_of_length_le (by rw [hlen]; omega)]
    congr 1; rw [Nat.add_mul, List.drop_take]; congr 1; omega
  rw [e]; exact hall
theorem lt_cap {x y : Int} {c m : Nat} (hm : m ≠ 0) (h : m <= (y - x).toNat) (h2 : y <= c) (h0 : 0 <= x) : x.toNat < c := by omega
theorem le_cap {x y : Int} {c m : Nat} (hm : m ≠ 0) (h : m <= (y - x).toNat) (h2 : y <= c) (h0 : 0 <= x) : x.toNat + m <= c := by omega
theorem copy_sound {T U ty e : TypeId} {ie : TypeInfo} {sz j : Nat} (hu : P.underlying T = some (.slice e)) (hie : P.info? e = some ie) (hsz : ie.size = sz) {a' b' ln : Unit -> Int} {xl l : Unit -> List (List DV)} {dv xv : Value} {bk bk' : Blk}
    (r : RelB E ⟨t, own, n⟩ a w β S) (hd : SRep β S (.ov j sz a' b') dv) (hb : lookB own j = some bk) (hkb : KBb n bk')
    (hbk : (bk = .arr e sz l /\ bk' = .arr e sz (fun _ => cpy a' b' ln xl l) /\ b' () <= (l ()).length) \/ ∃ c, bk = .full e sz l c /\ bk' = .full e sz (fun _ => cpy a' b' ln xl l) c /\ a' () <= (l ()).length)
    (hm1 : cpyN a' b' ln <= (xl ()).length) (hx : SrcRep S w sz xv (xl ()) (ln ())) :
    ∃ w', (Builtin.copy_ #[T, U] ty #[dv, xv]).run P w = .ok (.int .i64 (cpyN a' b' ln : Int)) w' /\ RelB E ⟨t, setB own j bk', n⟩ a w' β S := by
  obtain ⟨p, cc, hdv, c1, c2⟩ := view_len hd; have hm := r.mem.blk j _ hb
  have hale : a' () <= (l ()).length := by
    rcases hbk with ⟨_, _, h⟩ | ⟨_, _, _, h⟩
    . omega
    . exact h
  have still : cpyN a' b' ln = 0 -> RelB E ⟨t, setB own j bk', n⟩ a w β S := fun h0 => by
    have hl : (fun _ : Unit => cpy a' b' ln xl l) = l := by funext u; cases u; simp [cpy, h0]
    have e : bk' = bk := by
      rcases hbk with ⟨h1, h2, _⟩ | ⟨c, h1, h2, _⟩ <;> rw [h1, h2, hl]
    rw [e]; exact r.mem' (Nat.le_refl _) (fun _ _ => rfl) (Sub.refl S) (ko_setB r hb (by rw [<- e]; exact hkb)) (r.mem.say hb hm)
  have hl0 : ∀ ad, (loadCells ad 0).run P w = .ok #[] w := fun ad => by simpa using run_loadCells_list (P := P) w ad [] (by simp)
  rcases hx with ⟨rfl, hxl, hln⟩ | ⟨ad, c, news, rfl, hln, hn, hc⟩
  . have h0 : cpyN a' b' ln = 0 := by simp [cpyN, hln]
    refine ⟨w, ?_, still h0⟩; rw [hdv, h0]; cases p <;> simp [Builtin.copy_, run_underlying hu, Builtin.lenOf, Builtin.firstCells, sizeOf, typeInfo, hie, storeCells, goInt]
  . have none0 : cpyN a' b' ln = 0 -> (Builtin.copy_ #[T, U] ty #[dv, .slice (some ad) (ln ()).toNat c]).run P w = .ok (.int .i64 (cpyN a' b' ln : Int)) w := fun h0 => by
      have hmin : (ln ()).toNat.min (b' () - a' ()).toNat = 0 := h0; rw [hdv, h0]; cases p <;> simp [Builtin.copy_, run_underlying hu, Builtin.lenOf, Builtin.firstCells, sizeOf, typeInfo, hie, storeCells, goInt, hl0, hmin]
    by_cases hz : cpyN a' b' ln = 0
    . exact ⟨w, none0 hz, still hz⟩
    have hd' := hd; rw [SRep] at hd'; rcases hd'.2.2 with ⟨g, nn, cap, off, d1, d2, d3, d4, d5⟩ | ⟨d1, d2, d3⟩
    . obtain ⟨cur, q3, q4, q5, q6, q7⟩ : ∃ cur, w.heap[g]? = some (.cells cur e (0, 0)) /\ (l ()).length <= cap /\ cap <= maxLen /\ cur.size = cap * sz /\ DRows S sz (l ()) (cur.toList.take ((l ()).length * sz)) := by
        rcases hbk with ⟨h1, _⟩ | ⟨c, h1, _⟩
        . rw [h1] at hm; obtain ⟨xs, o1, o3⟩ := hm; rcases o1.2 with ⟨q1, _⟩ | ⟨g', cap', cur, q1, q2, q3, q4, q5, q6, q7⟩
          . rw [q1] at d1; cases d1
          . rw [q1] at d1; cases d1; exact ⟨cur, q3, q4, q5, q6, by rw [q7]; exact o3⟩
        . rw [h1] at hm; rcases hm with ⟨q1, _⟩ | ⟨g', n0, cap', cur, q1, q2, q3, q4, q5, q6, q7, q8⟩
          . rw [q1] at d1; cases d1
          . rw [q1] at d1; cases d1; exact ⟨cur, q2, q4, q5, q6, q7⟩
      have hcn : cpyN a' b' ln <= (b' () - a' ()).toNat := Nat.min_le_right _ _; have hlt : (a' ()).toNat < cap := lt_cap hz hcn d2 c1; have hlt2 : (a' ()).toNat + cpyN a' b' ln <= cap := le_cap hz hcn d2 c1; have hcs : cur.toList.length = cap * sz := by rw [<- q6]; exact Array.length_toList
      have hoff := d3 hlt
      have hcapsz : (a' ()).toNat * sz + cpyN a' b' ln * sz <= cur.toList.length := by
        rw [hcs, <- Nat.add_mul]; exact Nat.mul_le_mul_right _ hlt2
      have hlsz : (l ()).length * sz <= cur.toList.length := by rw [hcs]; exact Nat.mul_le_mul_right _ q4
      obtain ⟨k3, kl, k4⟩ := copy_rows (a' := a') (b' := b') (ln := ln) (xl := xl) (l := l) c1 hale hm1 q7 hn hcapsz hlsz; have hmin : min (ln ()).toNat (b' () - a' ()).toNat = cpyN a' b' ln := rfl
      have hrun := run_copyTo (P := P) (w := w) (T := T) (U := U) (ty := ty) hu hie hsz (g := g) (o := off) (dLen := (b' () - a' ()).toNat) (dCap := cap - (a' ()).toNat) (sLen := (ln ()).toNat) (sCap := c) (ad := ad) (cur := cur) (tt := e) (cs := news.take (cpyN a' b' ln * sz)) q3 (by rw [k3, hmin])
        (fun i v hi => hc i v (by rw [List.getElem?_take] at hi; split at hi; exact hi; cases hi)) (by rw [hoff, k3]; simpa using hcapsz) (fun v hv => DRows_one hn v (List.mem_of_mem_take hv))
      rw [hmin] at hrun; refine ⟨_, by rw [d5]; exact hrun, ?_⟩
      refine r.mem' (Nat.le_refl _) (fun _ _ => rfl) (Sub.refl S) (ko_setB r hb hkb) ?_
      refine r.mem.setB r.ko hb (b := g) (by rw [d1]; rfl) rfl rfl rfl (by simp) (fun x hx => setRow_other w g x _ hx) ?_
      have hheap := setRow_heap w g cur (splice cur.toList off (news.take (cpyN a' b' ln * sz))).toArray e (0, 0) q3; rcases hbk with ⟨h1, h2, h3⟩ | ⟨c, h1, h2, h3⟩
      . rw [h1] at hm; obtain ⟨xs, o1, o3⟩ := hm
        have hnn : nn = (l ()).length := by
          rcases o1.2 with ⟨q1, _⟩ | ⟨g', cap', cur, q1, _⟩
          . rw [q1] at d1; cases d1
          . rw [q1] at d1; cases d1; rfl
        have hcl : (cpy a' b' ln xl l).length = (l ()).length := by rw [kl]; omega
        rw [h2]; rw [hoff] at hheap ⊢; refine ⟨_, ⟨?_, .inr ⟨g, cap, _, by rw [hcl, <- hnn]; exact d1, Nat.zero_le _, hheap, by rw [hcl]; exact q4, q5, by simp [splice_length, q6], rfl⟩⟩, k4⟩
        rw [List.length_take, splice_length, hcl]; omega
      . rw [h1] at hm; rw [h2]; rw [hoff] at hheap ⊢; rcases hm with ⟨q1, _⟩ | ⟨g', n0, cap', cur', p1, p2, p3, p4, p5, p6, p7, p8⟩
        . rw [q1] at d1; cases d1
        . rw [p1] at d1; cases d1; exact .inr ⟨g, nn, cap, _, p1, hheap, by rw [kl]; omega, by rw [kl]; omega, q5, by simp [splice_length, q6], k4, p8⟩
    . exact absurd (show cpyN a' b' ln = 0 by
        have : (b' () - a' ()).toNat = 0 := by omega
        simp [cpyN, this]) hz
theorem os_view {j sz : Nat} {T : TypeId} {l : Unit -> List (List DV)} {v : Value} {E : Env} {own : Own} {w : World} {β : Nat -> Value} {S : Snap} (m : Mem E.w0 E.X E.S0 β S own w) (hj : lookB own j = some (.arr T sz l)) (hv : SRep β S (.os j) v) : SRep β S (.ov j sz (fun _ => 0) (lenL l)) v := by
  obtain ⟨xs, ⟨h0, h1⟩, h2⟩ := m.blk j _ hj; rw [SRep] at hv; rw [SRep]; rcases h1 with ⟨h1, hl⟩ | ⟨g, cap, cur, e1, e2, e3, e4, e5, e6, e7⟩
  . exact ⟨Int.le_refl _, by simp [lenL], .inr ⟨h1, by show ((l ()).length : Int) = 0; omega, by rw [hv.1, h1]⟩⟩
  . refine ⟨Int.le_refl _, by simp [lenL], .inl ⟨g, _, cap, 0, e1, by show ((l ()).length : Int) <= _; omega, fun _ => by simp, fun _ => rfl, ?_⟩⟩
    rw [hv.1, e1]; simp [lenL]
theorem run_append_zeros {T U ty e : TypeId} {ie : TypeInfo} {ze : Value} (hu : P.underlying T = some (.slice e)) (huU : P.underlying U = some (.int .i64)) (hie : P.info? e = some ie) (hz : ie.zero = some ze) (hp : 0 < ie.size) (hzs : ze.cells.size = ie.size)
    {ad : Addr} {sLen sCap m : Nat} {olds : List Value} (hlo : olds.length = sLen * ie.size) (holds : ∀ j v, olds[j]? = some v -> w.cell? (ad.add j) = some v) (hg : sCap < sLen + m) (hle : sLen <= sCap) (hb : (sLen + m) * ie.bytes <= 140737488355328) (hm : sLen + m <= 4611686018427387904) :
    (Builtin.append_ #[T, U] ty #[.slice (some ad) sLen sCap, .int .i64 m]).run P w =
      .ok (.slice (some ⟨w.heap.size, 0, none⟩) (sLen + m) (grownCap w (sLen + m) sCap e)) (w.drew.alloc (.cells (olds.toArray ++ Builtin.zeroCells ze.cells m ++ Builtin.zeroCells ze.cells (grownCap w (sLen + m) sCap e - (sLen + m))) e)) := by
  have hn : ¬ (sLen + m <= sCap) := by omega
  have hw : IntKind.i64.wrap (m : Int) = m := by rw [IntKind.wrap_i64]; omega
  have h63' : ¬ (9223372036854775807 < ((sLen : Int) + (m : Int))) := by omega
  have hfit := growslice_fits hg hb; have h48' : ¬ (281474976710656 < Builtin.nextslicecap (sLen + m) sCap * ie.bytes) := by omega
  have hmb : m * ie.bytes <= (sLen + m) * ie.bytes := Nat.mul_le_mul_right _ (by omega)
  have h48i : ¬ (281474976710656 < (m : Int) * (ie.bytes : Int)) := by
    rw [<- Int.natCast_mul]; omega
  have hneg : ¬ ((m : Int) < 0) := by omega
  have hfo := run_firstCells_some (P := P) w.drew ie.size sLen ad sLen sCap olds hlo (by simpa using holds)
  have h0 : ¬ m = 0 := by omega
  have hns : ¬ (m * ie.size = 0) := Nat.mul_ne_zero h0 (by omega)
  simp [Builtin.append_, run_underlying hu, run_underlying huU, sizeOf, typeInfo, zeroValue, hie, hz, asInt, asIntOf, hw, hn, hneg, hns, h0, h63', h48', h48i, Question.forced, hfo, newRow, grownCap]
theorem builtin_sound {b : Builtin} {tys : List TypeId} {svs : List SV} {us : List Value} (ht : TabOk P tab) (ty : TypeId) (cs : Array Bool) (h : Holds P tab Q (runAP (builtinOp tab b tys svs) t own n K)) (hs : SReps β S svs us) (hk : KBs n svs) (r : RelB E ⟨t, own, n⟩ a w β S) :
    ∃ v' w', (builtin b tys.toArray ty cs us.toArray).run P w = .ok (.value v') w' /\ Post P tab Q E t K a v' w' := by
  unfold builtinOp at h; split at h
  . rename_i T x
    rw [SReps] at hs; obtain ⟨u, us', rfl, h1, h2⟩ := hs; rw [SReps] at h2; subst h2; obtain ⟨⟨it, dt, zt, hit, hu, hst, _, _, _, hd⟩, h3⟩ := withT_sound ht T _ h; clear h; generalize (tab T).d = dd at h3 hd; unfold lenOp at h3; split at h3
    . simp only [tdOk] at hd; subst hd; rw [SRep] at h1; have h1' := h1; rw [DRep] at h1'; refine ⟨_, w, ?_, .same r (ret_sound h3) (SRep_int _ _) (by simp [KB])⟩
      rcases h1' with ⟨e, a, cap, rfl, _⟩ | ⟨b, off, cap, c, T', fr, rfl, _⟩
      . simp [builtin, Builtin.len_, run_underlying hu, goInt, lenL, e]
      . simp [builtin, Builtin.len_, run_underlying hu, goInt, lenL]
    . simp only [tdOk] at hd; subst hd; rw [SRep] at h1; subst h1; refine ⟨_, w, ?_, .same r (ret_sound h3) (SRep_int _ _) (by simp [KB])⟩
      simp [builtin, Builtin.len_, run_underlying hu, goInt]
    . simp only [tdOk] at hd; subst hd; rw [SRep] at h1; subst h1; refine ⟨_, w, ?_, .same r (ret_sound h3) (SRep_int _ _) (by simp [KB])⟩
      simp [builtin, Builtin.len_, run_underlying hu, goInt]
    . simp only [tdOk] at hd; subst hd; rw [SRep] at h1; obtain ⟨bk, hb, h4⟩ := rdB_sound h3
      cases bk with
      | arr T' sz l =>
        simp only [lenB] at h4; obtain ⟨xs, ⟨o1, o2⟩, o3⟩ := r.mem.blk _ _ hb; refine ⟨_, w, ?_, .same r (ret_sound h4) (SRep_int _ _) (by simp [KB])⟩
        rw [h1.1]; rcases o2 with ⟨o2, o4⟩ | ⟨g, cap', cur, q1, _⟩
        . rw [o2]; simp [builtin, Builtin.len_, run_underlying hu, goInt, lenL, o4]
        . rw [q1]; simp [builtin, Builtin.len_, run_underlying hu, goInt, lenL]
      | _ => exact (not_stuck (by simpa [lenB, runAP] using h4)).elim
    . simp only [tdOk] at hd; subst hd; obtain ⟨p, c, e1, e2, e3⟩ := view_len h1; subst e1; refine ⟨_, w, ?_, .same r (ret_sound h3) (SRep_int _ _) (by simp [KB])⟩
      simp [builtin, Builtin.len_, run_underlying hu, goInt]; omega
    . exact (not_stuck (by simpa [runAP] using h3)).elim
  . rename_i T U j sz a' b' mm
    rw [SReps] at hs; obtain ⟨sv, us', rfl, h1, h2⟩ := hs; rw [SReps] at h2; obtain ⟨xv, us'', rfl, h2, h3⟩ := h2; rw [SReps] at h3; subst h3; rw [SRep] at h2; subst h2; obtain ⟨⟨iu, du, zu, _, huU, _, _, _, _, hdU⟩, h4⟩ := withT_sound ht U _ h; clear h; split at h4
    . rename_i hU
      rw [hU] at hdU; simp only [tdOk] at hdU; subst hdU; obtain ⟨hT, h5⟩ := withT_sound ht T _ h4; clear h4; obtain ⟨e, he, h6⟩ := isSl_sound h5; clear h5; have hu := sl_facts hT he; obtain ⟨⟨ie, de, ze, hie, _, hse, hby, hz, hzc, _⟩, h7⟩ := withT_sound ht e _ h6; clear h6; obtain ⟨hp, hzl, h8⟩ := isPos_sound h7; clear h7; have hzs : ze.cells.size = (tab e).size := by rw [<- hzl, <- hzc]; simp
      obtain ⟨hsz0, h80⟩ := when_sound h8; have hsz0 := beq_true hsz0; clear h8; have h8 := h80; clear h80; split at h8
      . rename_i z hdz
        obtain ⟨bk, hb, h9⟩ := rdB_sound h8; clear h8; unfold appendZ at h9; split at h9
        . rename_i e' sz' l c
          obtain ⟨he', h10⟩ := when_sound h9; have he' := beq_true he'; subst he'; obtain ⟨hsz', h11⟩ := when_sound h10; have hsz' := beq_true hsz'; subst hsz'; clear h9 h10; obtain ⟨⟨n1, n2, n3, n4, n5, n6, n7, n8⟩, h12⟩ := need_sound h11; have h13 := ret_sound (newB_sound h12); clear h11 h12; rw [SRep] at h1; rcases h1.2.2 with ⟨g, nn, cap, off, d1, d2, d3, d4, d5⟩ | ⟨d1, d2, d3⟩
          . rcases r.mem.blk _ _ hb with ⟨q1, _⟩ | ⟨g', n0, cap', cur, q1, q3, _, q4, q5, q6, o3, q8⟩
            . rw [q1] at d1; cases d1
            . rw [q1] at d1; cases d1; obtain ⟨xs, hxs⟩ : ∃ xs, xs = cur.toList.take ((l ()).length * (tab e).size) := ⟨_, rfl⟩; rw [<- hxs] at o3; have o1 : xs.length = (l ()).length * (tab e).size := DRows_length o3; obtain ⟨an, han⟩ : ∃ an : Nat, a' () = an := ⟨(a' ()).toNat, by omega⟩
              obtain ⟨bn, hbn⟩ : ∃ bn : Nat, b' () = bn := ⟨(b' ()).toNat, by omega⟩
              obtain ⟨mn, hmn⟩ : ∃ mn : Nat, mm () = mn := ⟨(mm ()).toNat, by omega⟩
              simp only [han, hbn, Int.toNat_natCast] at d5 d3; rw [hsz0] at d3; have e0 : ((bn : Int) - (an : Int)).toNat = bn - an := by omega
              rw [e0] at d5
              have hol : ((xs.take (bn * (tab e).size)).drop (an * (tab e).size)).length = (bn - an) * ie.size := by
                rw [hse, List.length_drop, List.length_take, o1, Nat.min_eq_left (Nat.mul_le_mul_right _ (by omega)), Nat.sub_mul]
              have holds : ∀ i v, ((xs.take (bn * (tab e).size)).drop (an * (tab e).size))[i]? = some v -> w.cell? ((⟨g, off, none⟩ : Addr).add i) = some v := by
                intro i v hi; rw [Addr.add_mid]; by_cases hlt : an < (l ()).length
                . rw [d3 (by omega)]
                  have := rangeAt_of_cells (o := 0) (k := (l ()).length * (tab e).size) q3 (an * (tab e).size + i) v ?_
                  . rwa [Nat.zero_add] at this
                  rw [List.drop_zero, <- hxs]; rw [List.getElem?_drop, List.getElem?_take] at hi; split at hi
                  . exact hi
                  . cases hi
                . exfalso; have : bn = an := by omega
                  subst this; rw [List.drop_eq_nil_of_le (by rw [List.length_take]; exact Nat.min_le_left _ _)] at hi
                  simp at hi
              have hb7 : (bn - an + mn) * ie.bytes <= 140737488355328 := by
                rw [hby]; rw [hbn, hmn] at n7
                have h7 : ((bn + mn) * (tab e).bytes : Nat) <= 140737488355328 := by
                  have : (((bn + mn) * (tab e).bytes : Nat) : Int) <= 140737488355328 := by rw [Int.natCast_mul, Int.natCast_add]; exact n7
                  omega
                exact Nat.le_trans (Nat.mul_le_mul_right _ (by omega)) h7
              have hrun := run_append_zeros (P := P) (w := w) (ty := ty) hu huU hie hz (by rw [hse]; exact hp) (by rw [hzs, hse]) (ad := ⟨g, off, none⟩) (sLen := bn - an) (sCap := cap - an) (m := mn) hol holds (by omega) (by omega) hb7 (by omega)
              obtain ⟨dz1, dz2⟩ := toDVs_sound (S := S) hdz (SReps_map_ofValue (β := β) (S := S) (n := n) (tab e).zero).1; have hzl2 : (z ()).length = (tab e).size := by rw [dz2, List.length_map, hzl]
              have hzr : ∀ k, DRows S (tab e).size (List.replicate k (z ())) (Builtin.zeroCells ze.cells k).toList := fun k => by
                refine DRows_replicate dz1 hzl2 hp k _ ?_ ?_
                . rw [Array.length_toList, size_zeroCells, hzs]
                . intro i hi; have hi2 : i < k * ze.cells.size := by rw [hzs]; exact hi
                  have hpos : 0 < ze.cells.size := by omega
                  have hmod := Nat.mod_lt i hpos; rw [<- hzc, <- hzs]; simp [Builtin.zeroCells, hi2, hmod]
              have hdr := DRows_append (DRows_drop an (DRows_take bn o3)) (hzr mn); have hcap' := grownCap_ge w (bn - an + mn) (cap - an) e; have hcapm := grownCap_le_maxLen w (bn - an + mn) (cap - an) e (by simp [maxLen]; omega)
              obtain ⟨v', w', hr, hv', hw'⟩ : ∃ v' w', (Builtin.append_ #[T, U] ty #[sv, .int .i64 (mm ())]).run P w = .ok v' w' /\ v' = .slice (some ⟨w.heap.size, 0, none⟩) (bn - an + mn) (grownCap w (bn - an + mn) (cap - an) e) /\
                  w' = w.drew.alloc (.cells (((xs.take (bn * (tab e).size)).drop (an * (tab e).size)).toArray ++ Builtin.zeroCells ze.cells mn ++ Builtin.zeroCells ze.cells (grownCap w (bn - an + mn) (cap - an) e - (bn - an + mn))) e) := ⟨_, _, by rw [d5, hmn]; exact hrun, rfl, rfl⟩
              refine ⟨v', w', by simp [builtin, hr], .os n, _, _, ext β n v', S, h13, by rw [SRep]; exact ⟨ext_same.symm, by rw [hv']; rfl⟩, by simp [KB], ?_⟩
              subst hv' hw'; refine r.mem' (by omega) (fun j hj => ext_lt hj) (Sub.refl S) (ko_cons r trivial) ?_
              refine r.mem.newArr r.ko e (sz := (tab e).size) (l := fun _ => ((l ()).take (b' ()).toNat).drop (a' ()).toNat ++ List.replicate (mm ()).toNat (z ())) (xs := (xs.take (bn * (tab e).size)).drop (an * (tab e).size) ++ (Builtin.zeroCells ze.cells mn).toList) ?_ ?_ ?_
              . exact ⟨rfl, rfl, rfl, by simp, fun k hk _ => by first | exact heap_alloc_old w.drew _ k hk | exact heap_alloc_old w.drew _ hk⟩
              . simp only [han, hbn, hmn, Int.toNat_natCast]; have hrl : (((l ()).take bn).drop an ++ List.replicate mn (z ())).length = bn - an + mn := by simp; omega
                rw [hrl]; refine ⟨by rw [List.length_append, hol, Array.length_toList, size_zeroCells, hzs, hse, <- Nat.add_mul], .inr ⟨w.heap.size, _, _, rfl, Nat.le_refl _, heap_alloc_new w.drew _, hcap', hcapm, ?_, ?_⟩⟩
                . simp only [Array.size_append, size_zeroCells, hzs, List.size_toArray, hol, hse]; rw [<- Nat.add_mul, <- Nat.add_mul]; congr 1; omega
                . rw [Array.toList_append, Array.toList_append, List.take_append_of_le_length]
                  . rw [List.take_of_length_le]; simp only [List.length_append, hol, Array.length_toList, size_zeroCells, hzs, hse]; rw [<- Nat.add_mul]; exact Nat.le_refl _
                  . simp only [List.length_append, hol, Array.length_toList, size_zeroCells, hzs, hse]; rw [<- Nat.add_mul]; exact Nat.le_refl _
              . simp only [han, hbn, hmn, Int.toNat_natCast]; exact hdr
          . exfalso; rcases r.mem.blk _ _ hb with ⟨_, q2, _⟩ | ⟨g', n0, cap', cur, q1, _⟩
            . rw [q2] at n4; simp at n4
            . rw [q1] at d1; cases d1
        . exact (not_stuck (by simpa [runAP] using h9)).elim
      . exact (not_stuck (by simpa [runAP] using h8)).elim
    . exact (not_stuck (by simpa [runAP] using h4)).elim
  . rename_i T U s x hno
    rw [SReps] at hs; obtain ⟨sv, us', rfl, h1, h2⟩ := hs; rw [SReps] at h2; obtain ⟨xv, us'', rfl, h2, h3⟩ := h2; rw [SReps] at h3; subst h3; rw [KBs, KBs] at hk; obtain ⟨hTU, h4⟩ := when_sound h; clear h; have hTU := beq_true hTU; obtain ⟨hT, h5⟩ := withT_sound ht T _ h4; clear h4; obtain ⟨e, he, h6⟩ := isSl_sound h5; clear h5; have hu := sl_facts hT he; obtain ⟨⟨ie, de, ze, hie, _, hse, hby, hz, hzc, _⟩, h7⟩ := withT_sound ht e _ h6; clear h6; obtain ⟨hp, hzl, h8⟩ := isPos_sound h7; clear h7; have hzs : ze.cells.size = (tab e).size := by rw [<- hzl, <- hzc]; simp
    have fin : ∀ (v' : Value) w', (Builtin.append_ #[T, U] ty #[sv, xv]).run P w = .ok v' w' -> Post P tab Q E t K a v' w' ->
        ∃ v' w', (builtin .append [T, U].toArray ty cs [sv, xv].toArray).run P w = .ok (.value v') w' /\ Post P tab Q E t K a v' w' := by
      intro v' w' e1 e2; refine ⟨v', w', ?_, e2⟩; simp [builtin, e1]
    cases s with
    | nils =>
      simp only [appendTo] at h8; rw [SRep] at h1; subst h1; obtain ⟨xl, h9, hx⟩ := elemsOf_sound h8 h2 r.mem; clear h8; obtain ⟨hroom, h10⟩ := need_sound h9; clear h9; have h11 := ret_sound (newB_sound h10); obtain ⟨v', w', ys, e1, e2, e3, e4, e5⟩ := run_append (w := w) (ty := ty) (U := U) (v := .slice none 0 0) (l := []) (xs := []) hu hie hz hse hzs hp ⟨by simp, .inl ⟨rfl, rfl⟩⟩ (by rw [DRows]) hTU hx (by rw [hby]; exact hroom)
      have hone : v'.oneCell' = true := by rcases e2.2 with ⟨p1, _⟩ | ⟨_, _, _, p1, _⟩ <;> rw [p1] <;> rfl
      refine fin v' w' e1 ⟨.os n, _, _, ext β n v', S, h11, by rw [SRep]; exact ⟨ext_same.symm, hone⟩, by simp [KB], ?_⟩
      refine r.mem' (by omega) (fun j hj => ext_lt hj) (Sub.refl S) (ko_cons r trivial) ?_
      refine r.mem.newArr r.ko e e4 (xs := ys) ⟨by simpa using e2.1, ?_⟩ (by simpa using e3)
      rcases e2.2 with ⟨p1, p2⟩ | ⟨g, cap, cur, p1, p2, p3⟩
      . exact .inl ⟨p1, by simpa using p2⟩
      . refine .inr ⟨g, cap, cur, by simpa using p1, ?_, by simpa using p3⟩
        rcases e5 g (by rw [p1]; rfl) with hh | hh
        . simp [blkOf] at hh
        . exact hh
    | os j =>
      simp only [appendTo] at h8; rw [SRep] at h1; obtain ⟨bk, hb, h9⟩ := rdB_sound h8; clear h8
      cases bk with
      | arr e' sz l =>
        simp only [appendB] at h9; obtain ⟨he', h10⟩ := when_sound h9; have he' := beq_true he'; subst he'; obtain ⟨hsz, h11⟩ := when_sound h10; have hsz := beq_true hsz; subst hsz; clear h9 h10; obtain ⟨xl, h12, hx⟩ := elemsOf_sound h11 h2 r.mem; obtain ⟨hroom, h13⟩ := need_sound h12; have h14 := ret_sound (movB_sound h13); clear h11 h12 h13; obtain ⟨xs, o1, o3⟩ := r.mem.blk _ _ hb; rw [<- h1.1] at o1; obtain ⟨v', w', ys, e1, e2, e3, e4, e5⟩ := run_append (w := w) (ty := ty) (U := U) hu hie hz hse hzs hp o1 o3 hTU hx (by rw [hby]; exact hroom)
        have hone : v'.oneCell' = true := by rcases e2.2 with ⟨p1, _⟩ | ⟨_, _, _, p1, _⟩ <;> rw [p1] <;> rfl
        rw [h1.1] at e4 e5; refine fin v' w' e1 ⟨.os n, _, _, ext β n v', S, h14, by rw [SRep]; exact ⟨ext_same.symm, hone⟩, by simp [KB], ?_⟩
        refine r.mem' (by omega) (fun j hj => ext_lt hj) (Sub.refl S) (ko_mov r trivial) ?_
        exact r.mem.movArr r.ko hb e4 e5 e2 e3
      | _ => exact (not_stuck (by simpa [appendB, runAP] using h9)).elim
    | ov j sz a' b' =>
      simp only [appendTo] at h8; obtain ⟨bk, hb, h9⟩ := rdB_sound h8; clear h8
      cases bk with
      | full e' sz' l c =>
        simp only [appendV] at h9; obtain ⟨he', h10⟩ := when_sound h9; have he' := beq_true he'; subst he'; obtain ⟨hsz, h11⟩ := when_sound h10; have hsz := beq_true hsz; subst hsz; clear h9 h10; obtain ⟨⟨n1, n2, n3⟩, h12⟩ := need_sound h11; obtain ⟨xl, h13, hx⟩ := elemsOf_sound h12 h2 r.mem; obtain ⟨hroom, h14⟩ := need_sound h13; have h15 := ret_sound (movB_sound h14); clear h11 h12 h13 h14; have hrep := r.mem.blk _ _ hb; have hlen : ((l ()).take (b' ()).toNat).length = (b' ()).toNat := by rw [List.length_take]; omega
        have hv : ∃ ys, w.ownsRow 0 e (tab e).size sv ((l ()).take (b' ()).toNat).length ys /\ DRows S (tab e).size ((l ()).take (b' ()).toNat) ys /\ (sv.ownBlock = (β j).ownBlock) /\ (∀ x, blkOf sv = some x -> blkOf (β j) = some x) := by
          rw [hlen]; rw [SRep] at h1; rcases h1.2.2 with ⟨g, nn, cap, off, d1, d2, d3, d4, d5⟩ | ⟨d1, d2, d3⟩
          . rcases hrep with ⟨q1, _⟩ | ⟨g', n0, cap', cur, q1, q3, _, q4, q5, q6, o3, q8⟩
            . rw [q1] at d1; cases d1
            . rw [q1] at d1; cases d1; have ho := d4 n1; subst ho; have hm : (b' ()).toNat * (tab e).size <= (l ()).length * (tab e).size := Nat.mul_le_mul_right _ (by omega)
              have hm2 : (l ()).length * (tab e).size <= cap * (tab e).size := Nat.mul_le_mul_right _ q4; have e0 : (b' () - a' ()).toNat = (b' ()).toNat := by omega
              have e1 : cap - (a' ()).toNat = cap := by omega
              rw [e0, e1] at d5; have hd := DRows_take (b' ()).toNat o3; rw [List.take_take, Nat.min_eq_left hm] at hd; exact ⟨_, ⟨by rw [List.length_take, Array.length_toList, q6]; omega, .inr ⟨g, cap, cur, d5, Nat.zero_le _, q3, by omega, q5, q6, rfl⟩⟩, hd, by rw [d5, q1]; rfl, by rw [d5, q1]; exact fun x hx => hx⟩
          . have hb0 : (b' ()).toNat = 0 := by omega
            rw [hb0, List.take_zero, d3, d1]; exact ⟨[], ⟨by simp, .inl ⟨rfl, rfl⟩⟩, by rw [DRows], rfl, fun x hx => hx⟩
        obtain ⟨xs, hv1, hv4, hv2, hv3⟩ := hv; obtain ⟨v', w', ys, e1, e2, e3, e4, e5⟩ := run_append (w := w) (ty := ty) (U := U) hu hie hz hse hzs hp hv1 hv4 hTU hx (by rw [hby]; exact hroom)
        have hone : v'.oneCell' = true := by rcases e2.2 with ⟨p1, _⟩ | ⟨_, _, _, p1, _⟩ <;> rw [p1] <;> rfl
        rw [hv2] at e4; refine fin v' w' e1 ⟨.os n, _, _, ext β n v', S, h15, by rw [SRep]; exact ⟨ext_same.symm, hone⟩, by simp [KB], ?_⟩
        refine r.mem' (by omega) (fun j hj => ext_lt hj) (Sub.refl S) (ko_mov r trivial) ?_
        obtain ⟨l0, hl0⟩ := full_arr hrep; have hm0 := r.mem.say hb hl0; have hko0 : ∀ i b, lookB (setB own j (.arr e (tab e).size l0)) i = some b -> i < n /\ KBb n b := ko_setB r hb trivial; have hm1 := hm0.movArr (T := e) (sz := (tab e).size) (l := fun _ => (l ()).take (b' ()).toNat ++ xl ()) hko0 (j := j) (by rw [lookB_setB, if_pos rfl]) e4 (fun x hx => (e5 x hx).imp (hv3 x) id) e2 e3
        exact hm1.less fun i b hi => by
          rw [lookB_cons] at hi ⊢; split
          . rename_i h0; rw [if_pos h0] at hi; exact hi
          . rename_i h0
            rw [if_neg h0] at hi; rw [lookB_delB] at hi ⊢; split
            . rename_i h01; rw [if_pos h01] at hi; exact hi
            . rename_i h01; rw [if_neg h01] at hi; rw [lookB_setB, if_neg h01]; exact hi
      | _ => exact (not_stuck (by simpa [appendV, runAP] using h9)).elim
    | _ => exact (not_stuck (by simpa [appendTo, runAP] using h8)).elim
  . rename_i T x
    rw [SReps] at hs; obtain ⟨u, us', rfl, h1, h2⟩ := hs; rw [SReps] at h2; subst h2; obtain ⟨⟨it, dt, zt, hit, hu, hst, _, _, _, hd⟩, h3⟩ := withT_sound ht T _ h; clear h; generalize (tab T).d = dd at h3 hd; unfold capOp at h3; split at h3
    . rename_i j sz a' b'
      simp only [tdOk] at hd; subst hd; obtain ⟨bk, hb, h4⟩ := rdB_sound h3; unfold capB at h4; split at h4
      . rename_i T' sz' l c
        have hrep := r.mem.blk _ _ hb; refine ⟨_, w, ?_, .same r (ret_sound h4) (SRep_int _ _) (by simp [KB])⟩
        rw [SRep] at h1; obtain ⟨c1, c2, c3⟩ := h1; rcases c3 with ⟨g, nn, cap, off, d1, d2, d3, d4, d5⟩ | ⟨d1, d2, d3⟩
        . rcases hrep with ⟨q1, _⟩ | ⟨g', n0, cap', cur, q1, _, _, _, _, _, _, q8⟩
          . rw [q1] at d1; cases d1
          . rw [q1] at d1; cases d1; rw [d5]; simp [builtin, Builtin.cap_, run_underlying hu, goInt]; omega
        . have hl0 : c () = 0 := by
            rcases hrep with ⟨_, _, q2⟩ | ⟨g', n0, cap', cur, q1, _⟩
            . exact q2
            . rw [d1] at q1; cases q1
          rw [d3]; simp [builtin, Builtin.cap_, run_underlying hu, goInt]; omega
      . exact (not_stuck (by simpa [runAP] using h4)).elim
    . exact (not_stuck (by simpa [runAP] using h3)).elim
  . rename_i T U d x
    rw [SReps] at hs; obtain ⟨dv, us', rfl, h1, h2⟩ := hs; rw [SReps] at h2; obtain ⟨xv, us'', rfl, h2, h3⟩ := h2; rw [SReps] at h3; subst h3; unfold copyOp at h; split at h
    . rename_i j
      obtain ⟨hT, h5⟩ := withT_sound ht T _ h; clear h; obtain ⟨e, he, h6⟩ := isSl_sound h5; clear h5; have hu := sl_facts hT he; obtain ⟨⟨ie, de, ze, hie, _, hse, hby, hz, hzc, _⟩, h7⟩ := withT_sound ht e _ h6; clear h6; obtain ⟨hp, hzl, h8⟩ := isPos_sound h7; clear h7; obtain ⟨xl, ln, h10, hx⟩ := srcRows_sound h8 h2 r.mem; clear h8; obtain ⟨bk, hb, h11⟩ := rdB_sound h10; clear h10; unfold copyAll at h11; split at h11
      . rename_i e' sz' l
        obtain ⟨he', h12⟩ := when_sound h11; have he' := beq_true he'; subst he'; obtain ⟨hsz', h13⟩ := when_sound h12; have hsz' := beq_true hsz'; obtain ⟨hle, h14⟩ := need_sound h13; have h1' := os_view r.mem hb h1; rw [<- hsz'] at hb h1'; have h15 := ret_sound (wrB_sound h14); obtain ⟨w', e1, e2⟩ := copy_sound (U := U) (ty := ty) hu hie hse r h1' hb (bk' := .arr e (tab e).size fun _ => cpy (fun _ => 0) (lenL l) ln xl l) trivial (.inl ⟨rfl, rfl, Int.le_refl _⟩) hle hx
        refine ⟨_, w', ?_, ⟨_, _, _, β, S, h15, SRep_int _ _, by simp [KB], e2⟩⟩
        simp [builtin, e1]
      . exact (not_stuck (by simpa [runAP] using h11)).elim
    . rename_i j sz a' b'
      obtain ⟨hT, h5⟩ := withT_sound ht T _ h; clear h; obtain ⟨e, he, h6⟩ := isSl_sound h5; clear h5; have hu := sl_facts hT he; obtain ⟨⟨ie, de, ze, hie, _, hse, hby, hz, hzc, _⟩, h7⟩ := withT_sound ht e _ h6; clear h6; obtain ⟨hp, hzl, h8⟩ := isPos_sound h7; clear h7; obtain ⟨hsz, h9⟩ := when_sound h8; have hsz := beq_true hsz; clear h8; obtain ⟨xl, ln, h10, hx⟩ := srcRows_sound h9 h2 r.mem; clear h9; obtain ⟨bk, hb, h11⟩ := rdB_sound h10; clear h10
      have fin : ∀ (l : Unit -> List (List DV)) (bk' : Blk), KBb n bk' -> ((bk = .arr e sz l /\ bk' = .arr e sz (fun _ => cpy a' b' ln xl l) /\ b' () <= (l ()).length) \/ ∃ c, bk = .full e sz l c /\ bk' = .full e sz (fun _ => cpy a' b' ln xl l) c /\ a' () <= (l ()).length) -> cpyN a' b' ln <= (xl ()).length ->
          Holds P tab Q (runAP (.wrB j bk' (.ret (.int .i64 fun _ => (cpyN a' b' ln : Int)))) t own n K) ->
          ∃ v' w', (builtin .copy [T, U].toArray ty cs [dv, xv].toArray).run P w = .ok (.value v') w' /\ Post P tab Q E t K a v' w' := by
        intro l bk' hkb hbk hle h12; have h13 := ret_sound (wrB_sound h12); obtain ⟨w', e1, e2⟩ := copy_sound (U := U) (ty := ty) hu hie (by rw [hse, hsz]) r h1 hb hkb hbk hle hx
        refine ⟨_, w', ?_, ⟨_, _, _, β, S, h13, SRep_int _ _, by simp [KB], e2⟩⟩
        simp [builtin, e1]
      unfold copyTo at h11; split at h11
      . rename_i e' sz' l
        obtain ⟨he', h12⟩ := when_sound h11; have he' := beq_true he'; subst he'; obtain ⟨hsz', h13⟩ := when_sound h12; have hsz' := beq_true hsz'; subst hsz'; obtain ⟨⟨hle, hle2⟩, h14⟩ := need_sound h13; exact fin l (.arr e sz fun _ => cpy a' b' ln xl l) trivial (.inl ⟨rfl, rfl, hle2⟩) hle h14
      . rename_i e' sz' l c
        obtain ⟨he', h12⟩ := when_sound h11; have he' := beq_true he'; subst he'; obtain ⟨hsz', h13⟩ := when_sound h12; have hsz' := beq_true hsz'; subst hsz'; obtain ⟨⟨hle, hle2⟩, h14⟩ := need_sound h13; exact fin l (.full e sz (fun _ => cpy a' b' ln xl l) c) trivial (.inr ⟨c, rfl, rfl, hle2⟩) hle h14
      . exact (not_stuck (by simpa [runAP] using h11)).elim
    . exact (not_stuck (by simpa [runAP] using h)).elim
  . rw [SReps] at hs; obtain ⟨u, us', rfl, h1, h2⟩ := hs; rw [SReps] at h2; obtain ⟨u2, us'', rfl, h2, h3⟩ := h2; rw [SReps] at h3; subst h3; rw [SRep] at h1; rw [SRep] at h2; subst h1 h2; refine ⟨_, w, ?_, .same r (ret_sound h) (SRep_int _ _) (by simp [KB])⟩
    simp [builtin, Builtin.min_, Builtin.min2]
  . rw [SReps] at hs; obtain ⟨u, us', rfl, h1, h2⟩ := hs; rw [SReps] at h2; obtain ⟨u2, us'', rfl, h2, h3⟩ := h2; rw [SReps] at h3; subst h3; rw [SRep] at h1; rw [SRep] at h2; subst h1 h2; refine ⟨_, w, ?_, .same r (ret_sound h) (SRep_int _ _) (by simp [KB])⟩
    simp [builtin, Builtin.max_, Builtin.max2]
  . exact (not_stuck (by simpa [runAP] using h)).elim
theorem Mem.call {w0 : World} {X : Nat -> Prop} {S0 : Snap} {own H H' : Own} {β' : Nat -> Value} {S' : Snap} {w' : World} (m : Mem w0 X S0 β S own w) (hk : ∀ j b, lookB own j = some b -> j < n /\ KBb n b)
    (hH : ∀ j b, lookB H j = some b -> lookB own j = some b) (hβ : ∀ j, j < n -> β' j = β j) (q : Mem w (blocksOf H β) S β' S' H' w') : Mem w0 X S0 β' S' (H' ++ delBs own H) w' := by
  have lt : ∀ j b x, lookB own j = some b -> blkOf (β j) = some x -> x < w.heap.size := fun j b x h1 h2 => BRep_lt (m.blk j b h1) x h2
  refine m.change hk q.os q.tape q.output q.size hβ q.sub ?_ (blocksOf H β) ?_ q.frame ?_
  . intro b o h1 h2; refine ⟨?_, q.sat b o h1⟩; rcases q.new b o h1 h2 with ⟨j, bk, h3, h4⟩ | h3
    . exact m.mine j bk b (hH j bk h3) h4
    . exact .inr (Nat.le_trans m.size h3)
  . rintro b ⟨j, bk, h3, h4⟩; exact ⟨j, bk, hH j bk h3, h4⟩
  . intro j b h; rw [lookB_append] at h; split at h
    . rename_i hs
      refine .inr ⟨q.blk j b h, fun x hx => ⟨q.out j b x h hx, ?_, ?_⟩⟩
      . rcases q.mine j b x h hx with ⟨j', bk, h3, h4⟩ | h3
        . exact m.mine j' bk x (hH j' bk h3) h4
        . exact .inr (Nat.le_trans m.size h3)
      . intro i bi hi hne hxi; rw [lookB_append] at hi; split at hi
        . exact hne (q.inj i j bi b x hi h hxi hx)
        . rw [lookB_delBs] at hi; split at hi
          . cases hi
          . rename_i hns
            rw [hβ i (hk i bi hi).1] at hxi; rcases q.mine j b x h hx with ⟨j', bk, h3, h4⟩ | h3
            . have := m.inj i j' bi bk x hi (hH j' bk h3) hxi h4; subst this; rw [h3] at hns; simp at hns
            . have := lt i bi x hi hxi; omega
    . rw [lookB_delBs] at h; split at h
      . cases h
      . rename_i hns
        refine .inl ⟨h, fun x hx => ⟨?_, ?_⟩⟩
        . rintro ⟨j', bk, h3, h4⟩; have := m.inj j j' b bk x h (hH j' bk h3) hx h4; subst this; rw [h3] at hns; simp at hns
        . cases hS : S' x with
          | none => rfl
          | some o =>
            have h0 := m.out j b x h hx; rcases q.new x o hS h0 with ⟨j', bk, h3, h4⟩ | h3
            . have := m.inj j j' b bk x h (hH j' bk h3) hx h4; subst this; rw [h3] at hns; simp at hns
            . have := lt j b x h hx; omega
theorem Mem.sub' {w0 : World} {X : Nat -> Prop} {S0 : Snap} {own H : Own} (m : Mem w0 X S0 β S own w) (hH : ∀ j b, lookB H j = some b -> lookB own j = some b) : Mem w (blocksOf H β) S β S H w :=
  ⟨rfl, rfl, rfl, Nat.le_refl _, fun _ _ _ => rfl, Sub.refl S, (fun b o h1 h2 => by rw [h1] at h2; cases h2), m.sat, fun j b h => m.blk j b (hH j b h),
    fun i j bi bj x hi hj => m.inj i j bi bj x (hH i bi hi) (hH j bj hj), fun j b x h => m.out j b x (hH j b h), fun j b x h hx => .inl ⟨j, b, h, hx⟩⟩
def lendS (w : World) (S : Snap) (own : Own) (β : Nat -> Value) (ks : List Nat) : Snap := fun x =>
  match S x with
  | some o => some o
  | none => if ks.any (fun j => (lookB own j).isSome && blkOf (β j) == some x) then w.heap[x]? else none
theorem lendS_sub {own : Own} {ks : List Nat} : Sub S (lendS w S own β ks) := by
  intro b o h; simp [lendS, h]
theorem lendS_at {own : Own} {ks : List Nat} (m : Mem E.w0 E.X E.S0 β S own w) {j : Nat} {b : Blk} {x : Nat} (hj : lookB own j = some b) (hn : j ∈ ks) (hx : blkOf (β j) = some x) : lendS w S own β ks x = w.heap[x]? := by
  have h0 := m.out j b x hj hx; simp only [lendS, h0]; rw [if_pos]; rw [List.any_eq_true]; exact ⟨j, hn, by simp [hj, hx]⟩
mutual
theorem plain_rep {S S' : Snap} {β β' : Nat -> Value} {n : Nat} : ∀ {v : SV} {u : Value}, v.plain = true -> SRep β' S' v u -> SRep β S v u /\ KB n v
  | .int k f, u, _, h => by rw [SRep] at h; exact ⟨by rw [SRep]; exact h, by simp [KB]⟩
  | .bool f, u, _, h => by rw [SRep] at h; exact ⟨by rw [SRep]; exact h, by simp [KB]⟩
  | .bs f, u, _, h => by rw [SRep] at h; exact ⟨by rw [SRep]; exact h, by simp [KB]⟩
  | .str f, u, _, h => by rw [SRep] at h; exact ⟨by rw [SRep]; exact h, by simp [KB]⟩
  | .any, u, _, h => ⟨by simp [SRep], by simp [KB]⟩
  | .nils, u, _, h => by rw [SRep] at h; exact ⟨by rw [SRep]; exact h, by simp [KB]⟩
  | .raw f, u, _, h => by rw [SRep] at h; exact ⟨by rw [SRep]; exact h, by simp [KB]⟩
  | .tup l, u, hv, h => by
    rw [SRep] at h; obtain ⟨cs, e, h⟩ := h; rw [SV.plain] at hv; obtain ⟨g1, g2⟩ := plains_rep (β := β) (S := S) (n := n) hv h; exact ⟨by rw [SRep]; exact ⟨cs, e, g1⟩, by rw [KB]; exact g2⟩
  | .agg l, u, hv, h => by
    rw [SRep] at h; obtain ⟨cs, e, h⟩ := h; rw [SV.plain] at hv; obtain ⟨g1, g2⟩ := plains_rep (β := β) (S := S) (n := n) hv h; exact ⟨by rw [SRep]; exact ⟨cs, e, g1⟩, by rw [KB]; exact g2⟩
  | .ds _ _, _, hv, _ => by simp [SV.plain] at hv
  | .dp _ _ _ _, _, hv, _ => by simp [SV.plain] at hv
  | .op _ _, _, hv, _ => by simp [SV.plain] at hv
  | .os _, _, hv, _ => by simp [SV.plain] at hv
  | .oe _ _ _ _, _, hv, _ => by simp [SV.plain] at hv
  | .om _, _, hv, _ => by simp [SV.plain] at hv
  | .ov _ _ _ _, _, hv, _ => by simp [SV.plain] at hv
  | .fn _ _, _, hv, _ => by simp [SV.plain] at hv
  | .fno _ _, _, hv, _ => by simp [SV.plain] at hv
theorem plains_rep {S S' : Snap} {β β' : Nat -> Value} {n : Nat} : ∀ {l : List SV} {us : List Value}, SV.plains l = true -> SReps β' S' l us -> SReps β S l us /\ KBs n l
  | [], us, _, h => by rw [SReps] at h; subst h; exact ⟨by rw [SReps], by simp [KBs]⟩
  | s :: l, us, hl, h => by
    rw [SReps] at h; obtain ⟨u, us, rfl, h1, h2⟩ := h; rw [SV.plains, Bool.and_eq_true] at hl; obtain ⟨g1, g2⟩ := plain_rep (β := β) (S := S) (n := n) hl.1 h1; obtain ⟨k1, k2⟩ := plains_rep (β := β) (S := S) (n := n) hl.2 h2; exact ⟨by rw [SReps]; exact ⟨u, us, rfl, g1, k1⟩, by rw [KBs]; exact ⟨g2, k2⟩⟩
end
theorem lend_arr {own : Own} {ks : List Nat} {j : Nat} {T : TypeId} {sz : Nat} {l : Unit -> List (List DV)} (m : Mem E.w0 E.X E.S0 β S own w) (hj : lookB own j = some (.arr T sz l)) (hn : j ∈ ks) : DRep (lendS w S own β ks) (.sl sz (l ())) (β j) := by
  obtain ⟨xs, ⟨h0, h1⟩, h2⟩ := m.blk j _ hj; rcases h1 with ⟨h1, hl⟩ | ⟨g, cap, cur, e1, e2, e3, e4, e5, e6, e7⟩
  . exact DRep_nils (List.eq_nil_of_length_eq_zero hl) h1
  . rw [DRep]; refine .inr ⟨g, 0, cap, cur, T, (0, 0), e1, e4, ?_, ?_⟩
    . rw [lendS_at m hj hn (by rw [e1]; rfl)]; exact e3
    . rw [List.drop_zero, e7]; exact DRows_mono lendS_sub _ _ _ h2
theorem lendC_sound {own : Own} {ks : List Nat} (m : Mem E.w0 E.X E.S0 β S own w) : ∀ (vs ws : List SV) (us : List Value), lendC own vs = some ws -> SReps β S vs us -> KBs n vs -> (∀ j ∈ keysC vs, j ∈ ks) -> SReps β (lendS w S own β ks) ws us /\ KBs n ws
  | [], ws, us, h, hs, _, _ => by
    simp only [lendC] at h; cases h; rw [SReps] at hs; subst hs; exact ⟨by rw [SReps], by simp [KBs]⟩
  | v :: vs, ws, us, h, hs, hk, hks => by
    rw [SReps] at hs; obtain ⟨u, us, rfl, h1, h2⟩ := hs; rw [KBs] at hk; have hks2 : ∀ j ∈ keysC vs, j ∈ ks := fun j hj => hks j (by cases v <;> simp [keysC, hj])
    have fin : ∀ (v' : SV) (ws' : List SV), lendC own vs = some ws' -> SRep β (lendS w S own β ks) v' u -> KB n v' -> SReps β (lendS w S own β ks) (v' :: ws') (u :: us) /\ KBs n (v' :: ws') := by
      intro v' ws' e1 e2 e3; obtain ⟨g1, g2⟩ := lendC_sound m vs ws' us e1 h2 hk.2 hks2; exact ⟨by rw [SReps]; exact ⟨u, us, rfl, e2, g1⟩, by rw [KBs]; exact ⟨e3, g2⟩⟩
    have keep : SRep β (lendS w S own β ks) v u := SRep_congr lendS_sub (n := n) (fun _ _ => rfl) _ _ hk.1 h1
    cases v with
    | os j =>
      simp only [lendC] at h; split at h
      . rename_i T sz l ws' hj hg
        cases h; rw [SRep] at h1; exact fin _ _ hg (by rw [SRep, h1.1]; exact lend_arr m hj (hks j (by simp [keysC]))) (by simp [KB])
      . cases h
    | nils =>
      simp only [lendC] at h; split at h
      . cases h; exact fin _ _ (by assumption) keep (by simp [KB])
      . cases h
    | int k f => simp only [lendC] at h; split at h <;> cases h; exact fin _ _ (by assumption) keep (by simp [KB])
    | bool f => simp only [lendC] at h; split at h <;> cases h; exact fin _ _ (by assumption) keep (by simp [KB])
    | bs f => simp only [lendC] at h; split at h <;> cases h; exact fin _ _ (by assumption) keep (by simp [KB])
    | str f => simp only [lendC] at h; split at h <;> cases h; exact fin _ _ (by assumption) keep (by simp [KB])
    | ds sz f => simp only [lendC] at h; split at h <;> cases h; exact fin _ _ (by assumption) keep (by simp [KB])
    | raw f => simp only [lendC] at h; split at h <;> cases h; exact fin _ _ (by assumption) keep (by simp [KB])
    | _ => simp [lendC] at h
theorem lendW_sound {own : Own} {ks : List Nat} (m : Mem E.w0 E.X E.S0 β S own w) (hko : ∀ j b, lookB own j = some b -> j < n /\ KBb n b) {v v' : SV} {u : Value} (h : lendW own v = some v') (hs : SRep β S v u) (hk : KB n v) (hks : ∀ j ∈ keysW own v, j ∈ ks) : SRep β (lendS w S own β ks) v' u /\ KB n v' := by
  have keep : SRep β (lendS w S own β ks) v u := SRep_congr lendS_sub (n := n) (fun _ _ => rfl) _ _ hk hs
  cases v with
  | os j =>
    simp only [lendW] at h; split at h
    . rename_i T sz l hj
      cases h; rw [SRep] at hs; exact ⟨by rw [SRep, hs.1]; exact lend_arr m hj (hks j (by simp [keysW])), by simp [KB]⟩
    . cases h
  | op j off =>
    simp only [lendW] at h; split at h
    . rename_i T c hj
      split at h
      . rename_i c' hc
        split at h
        . rename_i d hd
          cases h; refine ⟨?_, by simp [KB]⟩
          rw [SRep] at hs; obtain ⟨b, e1, e2⟩ := hs; obtain ⟨b2, cs, g1, g2, g3, g4⟩ := m.blk j _ hj; rw [e1] at g1; cases g1
          have hks2 : ∀ i ∈ j :: keysC c, i ∈ ks := by
            intro i hi; refine hks i ?_; simp only [keysW, hj]; exact hi
          obtain ⟨f1, f2⟩ := lendC_sound (n := n) m c c' cs.toList hc g3 (hko j _ hj).2 (fun i hi => hks2 i (by simp [hi]))
          obtain ⟨d1, d2⟩ := toDVs_sound hd f1; have hlen := DCells_length d1; rw [SRep]; refine ⟨b, 0, cs, T, (0, 0), ?_, ?_, by simp, by simp, by rw [e2]; simp⟩
          . rw [lendS_at m hj (hks2 j (by simp)) (by rw [e1]; rfl)]; exact g2
          . simp only [List.drop_zero, List.length_singleton, Nat.one_mul]; rw [List.take_of_length_le (by rw [hlen, d2]; exact Nat.le_refl _), DRows]
            exact ⟨cs.toList, [], by simp, d2, d1, by rw [DRows]⟩
        . cases h
      . cases h
    . cases h
  | oe j sz i off =>
    simp only [lendW] at h; split at h
    . rename_i T sz' l hj
      split at h
      . rename_i hsz
        cases h; have hsz := beq_true hsz; subst hsz; refine ⟨?_, by simp [KB]⟩
        rw [SRep] at hs; obtain ⟨h0, b, nn, cap, e1, e2, e3⟩ := hs; obtain ⟨xs, ⟨q0, q1⟩, q2⟩ := m.blk j _ hj; rcases q1 with ⟨q1, _⟩ | ⟨g, cap', cur, g1, g2, g3, g4, g5, g6, g7⟩
        . rw [e1] at q1; cases q1
        . rw [e1] at g1; cases g1; rw [SRep]; refine ⟨b, 0, cur, T, (0, 0), ?_, ?_, h0, e2, by rw [e3]; simp⟩
          . rw [lendS_at m hj (hks j (by simp [keysW])) (by rw [e1]; rfl)]; exact g3
          . rw [List.drop_zero, g7]; exact DRows_mono lendS_sub _ _ _ q2
      . cases h
    . cases h
  | nils => simp only [lendW] at h; cases h; exact ⟨keep, hk⟩
  | agg l =>
    simp only [lendW] at h; split at h
    . cases h; rw [SRep] at hs; rw [KB] at hk; obtain ⟨cs, e, hs⟩ := hs; obtain ⟨g1, g2⟩ := lendC_sound m _ _ _ (by assumption) hs hk hks
      exact ⟨by rw [SRep]; exact ⟨cs, e, g1⟩, by rw [KB]; exact g2⟩
    . cases h
  | int k f => simp only [lendW] at h; cases h; exact ⟨keep, hk⟩
  | bool f => simp only [lendW] at h; cases h; exact ⟨keep, hk⟩
  | bs f => simp only [lendW] at h; cases h; exact ⟨keep, hk⟩
  | str f => simp only [lendW] at h; cases h; exact ⟨keep, hk⟩
  | ds sz f => simp only [lendW] at h; cases h; exact ⟨keep, hk⟩
  | dp sz f i o => simp only [lendW] at h; cases h; exact ⟨keep, hk⟩
  | raw f => simp only [lendW] at h; cases h; exact ⟨keep, hk⟩
  | any => simp only [lendW] at h; cases h; exact ⟨keep, hk⟩
  | fno f c => simp only [lendW] at h; cases h; exact ⟨keep, hk⟩
  | _ => simp [lendW] at h
theorem lendWs_sound {own : Own} {ks : List Nat} (m : Mem E.w0 E.X E.S0 β S own w) (hko : ∀ j b, lookB own j = some b -> j < n /\ KBb n b) : ∀ (vs ws : List SV) (us : List Value), lendWs own vs = some ws -> SReps β S vs us -> KBs n vs -> (∀ j ∈ keysWs own vs, j ∈ ks) -> SReps β (lendS w S own β ks) ws us /\ KBs n ws
  | [], ws, us, h, hs, _, _ => by
    simp only [lendWs] at h; cases h; rw [SReps] at hs; subst hs; exact ⟨by rw [SReps], by simp [KBs]⟩
  | v :: vs, ws, us, h, hs, hk, hks => by
    rw [SReps] at hs; obtain ⟨u, us, rfl, h1, h2⟩ := hs; rw [KBs] at hk; simp only [lendWs] at h; split at h
    . rename_i v' ws' e1 e2
      cases h; obtain ⟨g1, g2⟩ := lendW_sound m hko e1 h1 hk.1 (fun j hj => hks j (by simp [keysWs, hj]))
      obtain ⟨f1, f2⟩ := lendWs_sound m hko vs _ us e2 h2 hk.2 (fun j hj => hks j (by simp [keysWs, hj]))
      exact ⟨by rw [SReps]; exact ⟨u, us, rfl, g1, f1⟩, by rw [KBs]; exact ⟨g2, f2⟩⟩
    . cases h
theorem lendV_sound {own : Own} {ks : List Nat} (m : Mem E.w0 E.X E.S0 β S own w) (hko : ∀ j b, lookB own j = some b -> j < n /\ KBb n b) {v v' : SV} {u : Value} (h : lendV own v = some v') (hs : SRep β S v u) (hk : KB n v) (hks : ∀ j ∈ keysV own v, j ∈ ks) : SRep β (lendS w S own β ks) v' u /\ KB n v' := by
  cases v with
  | fn f caps =>
    simp only [lendV] at h; split at h
    . cases h; rw [SRep] at hs; rw [KB] at hk; obtain ⟨cs, e, hs⟩ := hs; obtain ⟨g1, g2⟩ := lendWs_sound m hko _ _ _ (by assumption) hs hk hks
      exact ⟨by rw [SRep]; exact ⟨cs, e, g1⟩, by rw [KB]; exact g2⟩
    . cases h
  | _ => simp only [lendV] at h; simp only [keysV] at hks; exact lendW_sound m hko h hs hk hks
theorem lendVs_sound {own : Own} {ks : List Nat} (m : Mem E.w0 E.X E.S0 β S own w) (hko : ∀ j b, lookB own j = some b -> j < n /\ KBb n b) : ∀ (vs ws : List SV) (us : List Value), lendVs own vs = some ws -> SReps β S vs us -> KBs n vs -> (∀ j ∈ keysL own vs, j ∈ ks) -> SReps β (lendS w S own β ks) ws us /\ KBs n ws
  | [], ws, us, h, hs, _, _ => by
    simp only [lendVs] at h; cases h; rw [SReps] at hs; subst hs; exact ⟨by rw [SReps], by simp [KBs]⟩
  | v :: vs, ws, us, h, hs, hk, hks => by
    rw [SReps] at hs; obtain ⟨u, us, rfl, h1, h2⟩ := hs; rw [KBs] at hk; simp only [lendVs] at h; split at h
    . rename_i v' ws' e1 e2
      cases h; obtain ⟨g1, g2⟩ := lendV_sound m hko e1 h1 hk.1 (fun j hj => hks j (by simp [keysL, hj]))
      obtain ⟨f1, f2⟩ := lendVs_sound m hko vs _ us e2 h2 hk.2 (fun j hj => hks j (by simp [keysL, hj]))
      exact ⟨by rw [SReps]; exact ⟨u, us, rfl, g1, f1⟩, by rw [KBs]; exact ⟨g2, f2⟩⟩
    . cases h
theorem Mem.shutK {own : Own} {ks : List Nat} (m : Mem E.w0 E.X E.S0 β S own w) (hko : ∀ j b, lookB own j = some b -> j < n /\ KBb n b) : Mem E.w0 E.X E.S0 β (lendS w S own β ks) (delKs own ks) w := by
  have hown : ∀ {j b}, lookB (delKs own ks) j = some b -> lookB own j = some b /\ j ∉ ks := by
    intro j b h; rw [lookB_delKs] at h; split at h
    . cases h
    . exact ⟨h, by assumption⟩
  have inv : ∀ {x o}, lendS w S own β ks x = some o -> S x = some o \/ (S x = none /\ w.heap[x]? = some o /\ ∃ j b, j ∈ ks /\ lookB own j = some b /\ blkOf (β j) = some x) := by
    intro x o h; unfold lendS at h; split at h
    . rename_i o' ho; cases h; exact .inl ho
    . rename_i hn
      split at h
      . rename_i ha
        rw [List.any_eq_true] at ha; obtain ⟨j, h1, h2⟩ := ha; rw [Bool.and_eq_true] at h2; obtain ⟨b, hb⟩ := Option.isSome_iff_exists.1 h2.1; exact .inr ⟨hn, h, j, b, h1, hb, by simpa using h2.2⟩
      . cases h
  refine ⟨m.os, m.tape, m.output, m.size, m.frame, m.sub.trans lendS_sub, ?_, ?_, ?_, ?_, ?_, ?_⟩
  . intro b o h1 h2; rcases inv h1 with h | ⟨_, _, j, bl, _, hj, hx⟩
    . exact m.new b o h h2
    . exact m.mine j bl b hj hx
  . intro b o h; rcases inv h with h | ⟨_, h, _⟩
    . exact m.sat b o h
    . exact h
  . intro j b h; obtain ⟨h, _⟩ := hown h; exact BRep_congr lendS_sub (n := n) (fun _ _ => rfl) (hko j b h).1 (hko j b h).2 (fun _ _ => rfl) (m.blk j b h)
  . intro i j bi bj x hi hj; exact m.inj i j bi bj x (hown hi).1 (hown hj).1
  . intro j b x h hx; obtain ⟨h, hn⟩ := hown h
    cases hS : lendS w S own β ks x with
    | none => rfl
    | some o =>
      rcases inv hS with h2 | ⟨_, _, i, bi, h3, hi, hxi⟩
      . rw [m.out j b x h hx] at h2; cases h2
      . exact absurd (m.inj i j bi b x hi h hxi hx ▸ h3) hn
  . intro j b x h hx; exact m.mine j b x (hown h).1 hx
theorem lend_mem {own : Own} {ks : List Nat} (m : Mem E.w0 E.X E.S0 β S own w) : Mem w (blocksOf [] β) (lendS w S own β ks) β (lendS w S own β ks) [] w :=
  ⟨rfl, rfl, rfl, Nat.le_refl _, fun _ _ _ => rfl, Sub.refl _, (fun b o h1 h2 => by rw [h1] at h2; cases h2), (fun b o h => by
    unfold lendS at h; split at h
    . rename_i o' ho; cases h; exact m.sat b _ ho
    . split at h
      . exact h
      . cases h), (fun j b h => by simp [lookB] at h), (fun i j bi bj x hi => by simp [lookB] at hi), (fun j b x h => by simp [lookB] at h), (fun j b x h => by simp [lookB] at h)⟩
theorem lend_back {own : Own} {S1 S' : Snap} {β' : Nat -> Value} {w' : World} {H' : Own} (m : Mem E.w0 E.X E.S0 β S own w) (hk : ∀ j b, lookB own j = some b -> j < n /\ KBb n b) (hβ : ∀ j, j < n -> β' j = β j) (q : Mem w (blocksOf [] β) S1 β' S' H' w') : Mem E.w0 E.X E.S0 β' S own w' := by
  refine m.change hk q.os q.tape q.output q.size hβ (Sub.refl S) (fun b o h1 h2 => by rw [h1] at h2; cases h2) (fun _ => False) (fun _ h => h.elim) (fun b hb _ => q.frame b hb ?_) ?_
  . rintro ⟨j, b, h, _⟩; simp [lookB] at h
  . intro j b h; exact .inl ⟨h, fun x hx => ⟨fun h => h.elim, m.out j b x h hx⟩⟩
theorem s_call {o : Oper} {c : Call} (ht : TabOk P tab) (ho : o.op = .call c) : Snd P tab Q E t own n K o a w QQ := by
  intro β S h r; rw [show opProg tab o = callOp tab c by unfold opProg; rw [ho]] at h
  unfold callOp at h; split at h
  . rename_i b hc
    obtain ⟨svs, h1, g2, g3⟩ := rdOs_sound _ _ h r; obtain ⟨v', w', e1, e2⟩ := builtin_sound ht o.type (c.args.map fun | .const _ => true | _ => false) h1 g3 g2 r
    refine wp_value ?_ e2; simp only [execOp, ho, resolve, hc, Sem.run_bind, Sem.run_pure, Result.andThen_ok, invoke]; have ea : (c.args.toList.map a.eval).toArray = c.args.map a.eval := by rw [<- Array.toList_map, Array.toArray_toList]
    rw [ea, Array.toArray_toList] at e1; exact e1
  . rename_i f hc
    obtain ⟨vf, h1, f2, f3⟩ := rdO_sound f _ h r; obtain ⟨svs, h2, g2, g3⟩ := rdOs_sound _ _ h1 r; clear h1 h
    have key : ∀ (g : FuncId) (caps : List SV) (cs : Array Value), Holds P tab Q (runAP (.call g (svs ++ caps) .ret) t own n K) -> a.eval f = .func (.func g) #[] cs -> SReps β S caps cs.toList -> KBs n caps -> o.wp P a w (Aft P tab Q E t K o a) QQ := by
      intro g caps cs h2 e f3 f2; rw [runAP] at h2; have hargs : SReps β S (svs ++ caps) (c.args.toList.map a.eval ++ cs.toList) := SReps_append g3 f3; have hka : KBs n (svs ++ caps) := KBs_append g2 f2
      have enter : Callable P g -> (execOp a.eval o).run P w = .ok (.enter g (c.args.toList.map a.eval ++ cs.toList).toArray) w := by
        rintro ⟨fn, c1, c2, c3⟩; simp only [execOp, ho, resolve, hc, Deferred.ofValue, e, Sem.run_bind, Sem.run_pure, Result.andThen_ok, invoke, callFunc, run_program, c1, c3, c2]; simp
      cases h2 with
      | call H Pa res H' n' hS hH hn hk' hfr hrest =>
        unfold Oper.wp; rw [enter hS.1]; show Calls P g _ w _; refine (hS.2 w β S _ hargs hka (fun j b hj => r.ko j b (hH j b hj)) (r.mem.sub' hH)).mono ?_
        rintro e' w' ⟨v, rfl, x, β', S', hx, hβ, hrep, hm⟩; refine ⟨v, rfl, res x, _, n', β', S', ret_sound (hrest x hx), hrep, (hk' x hx).1, ?_⟩; refine r.mem' hn hβ hm.sub ?_ (r.mem.call r.ko hH hβ hm); intro j b hj; rw [lookB_append] at hj; split at hj
        . exact (hk' x hx).2 j b hj
        . rw [lookB_delBs] at hj; split at hj
          . cases hj
          . have := r.ko j b hj; refine ⟨Nat.lt_of_lt_of_le this.1 hn, ?_⟩
            cases b with
            | cells T l => exact KBs_mono hn _ this.2
            | hole T l hh q => exact Nat.lt_of_lt_of_le this.2 hn
            | _ => trivial
      | callC v own' n' hS hrest =>
        unfold Oper.wp; rw [enter hS.1]; show Calls P g _ w _; refine (hS.2 w β S _ hargs hka r.ko (r.mem.sub' fun _ _ h => h)).mono ?_
        rintro e' w' ⟨u, rfl, β', S', hβ, hrep, hm, hn, hkv, hko'⟩; refine ⟨u, rfl, v, own', n', β', S', ret_sound hrest, hrep, hkv, ?_⟩; refine r.mem' hn hβ hm.sub hko' ((r.mem.call r.ko (fun _ _ h => h) hβ hm).less fun j b hj => ?_)
        rw [lookB_append, hj]; rfl
      | lend args' Pa res hl hS hpl hrest =>
        unfold Oper.wp; rw [enter hS.1]; show Calls P g _ w _; obtain ⟨l1, l2⟩ := lendVs_sound (n := n) (ks := keysL own (svs ++ caps)) r.mem r.ko _ _ _ hl hargs hka (fun _ h => h)
        refine (hS.2 w β _ _ l1 l2 (fun j b hj => by simp [lookB] at hj) (lend_mem r.mem)).mono ?_
        rintro e' w' ⟨v, rfl, x, β', S', hx, hβ, hrep, hm⟩; obtain ⟨p1, p2⟩ := plain_rep (β := β') (S := S) (n := n) (hpl x) hrep; exact ⟨v, rfl, res x, own, n, β', S, ret_sound (hrest x hx), p1, p2, r.mem' (Nat.le_refl _) hβ (Sub.refl S) r.ko (lend_back r.mem r.ko hβ hm)⟩
      | ext res hS hkr hrest =>
        obtain ⟨v, h1, h2⟩ := hS w β S _ hargs r.mem.blk r.mem.inj; refine wp_value (v' := v) (w' := w) ?_ (.same r (ret_sound hrest) h2 hkr); rw [<- h1]; simp only [execOp, ho, resolve, hc, Deferred.ofValue, e, Sem.run_bind, Sem.run_pure, Result.andThen_ok, invoke]; have ea : (c.args.toList.map a.eval ++ cs.toList).toArray = c.args.map a.eval ++ cs := by simp
        rw [ea, Array.empty_append]
      | shut args' Pa res H' n' hl hS hnn hkr hrest =>
        unfold Oper.wp; rw [enter hS.1]; show Calls P g _ w _; obtain ⟨l1, l2⟩ := lendVs_sound (n := n) (ks := keysL own (svs ++ caps)) r.mem r.ko _ _ _ hl hargs hka (fun _ h => h)
        refine (hS.2 w β _ _ l1 l2 (fun j b hj => by simp [lookB] at hj) (lend_mem r.mem)).mono ?_
        rintro e' w' ⟨v, rfl, x, β', S', hx, hβ, hrep, hm⟩
        have hko' : ∀ j b, lookB (delKs own (keysL own (svs ++ caps))) j = some b -> j < n /\ KBb n b := by
          intro j b h; rw [lookB_delKs] at h; split at h
          . cases h
          . exact r.ko j b h
        have hm2 := (r.mem.shutK (ks := keysL own (svs ++ caps)) r.ko).call (H := []) hko' (fun j b h => by simp [lookB] at h) hβ hm
        refine ⟨v, rfl, res x, _, n', β', S', ret_sound (hrest x hx), hrep, (hkr x hx).1, r.mem' hnn hβ (lendS_sub.trans hm.sub) ?_ hm2⟩; intro j b hj; rw [lookB_append] at hj; split at hj
        . exact ⟨((hkr x hx).2 j b hj).1, ((hkr x hx).2 j b hj).2.1⟩
        . have := hko' j b hj; refine ⟨Nat.lt_of_lt_of_le this.1 hnn, ?_⟩
          cases b with
          | cells T l => exact KBs_mono hnn _ this.2
          | hole T l hh q => exact Nat.lt_of_lt_of_le this.2 hnn
          | _ => trivial
    cases vf with
    | fn g caps =>
      simp only [callV] at h2; rw [SRep] at f3; rw [KB] at f2; obtain ⟨cs, e, f3⟩ := f3; exact key g caps cs h2 e f3 f2
    | fno g caps =>
      simp only [callV] at h2; rw [SRep] at f3; obtain ⟨h0, cs, e, f3⟩ := f3; exact key g caps cs h2 e (SReps_congr (Sub.refl S) (n := 0) (fun j hj => absurd hj (Nat.not_lt_zero j)) _ _ h0 f3) (KBs_mono (Nat.zero_le n) _ h0)
    | _ => exact (not_stuck (by simpa [callV, runAP] using h2)).elim
  . exact (not_stuck (by simpa [runAP] using h)).elim
theorem op_sound (ht : TabOk P tab) (o : Oper) : Snd P tab Q E t own n K o a w QQ := by
  have bad : opProg tab o = .stuck 63 -> Snd P tab Q E t own n K o a w QQ := by
    intro h β S h1; rw [h, runAP] at h1; exact (not_stuck h1).elim
  cases ho : o.op with
  | move x => exact s_move ho
  | assign x => exact s_assign ho
  | pick c x y => exact s_pick ho
  | alloc T => exact s_alloc ht ho
  | box T x => exact s_box ho
  | build T ps => exact s_build ht ho
  | buildSlice T m ps => exact s_buildSlice ht ho
  | load T x => exact s_load ht ho
  | store T x y => exact s_store ht ho
  | nilCheck x => exact s_nilCheck ho
  | binOp op T x y T' => exact s_binOp ht ho
  | unOp op T x => exact s_unOp ho
  | convert T T' x => exact s_convert ht ho
  | fieldAddr T x f => exact s_fieldAddr ht ho
  | indexAddr T x i => exact s_indexAddr ht ho
  | index T x i => exact s_index ht ho
  | slice T x lo hi mx =>
    cases mx with
    | none => exact s_slice ht ho
    | some m => exact bad (by unfold opProg; rw [ho])
  | makeSlice T x y => exact s_makeSlice ht ho
  | makeFunc f first caps =>
    cases f with
    | func f => exact s_makeFunc ho
    | _ => exact bad (by unfold opProg; rw [ho])
  | extract x i => exact s_extract ho
  | call c => exact s_call ht ho
  | makeMap T r =>
    cases r with
    | none => exact s_makeMap ht ho
    | some r => exact bad (by unfold opProg; rw [ho])
  | lookup T x i ok => exact s_lookup ht ho
  | mapUpdate T x i v => exact s_mapUpdate ht ho
  | _ => exact bad (by unfold opProg; rw [ho])
end
end Go.Eng
namespace Go.Eng
theorem inN_iff : ∀ {l : List Nat} {j : Nat}, inN l j = true ↔ j ∈ l
  | [], j => by simp [inN]
  | k :: l, j => by
    rw [inN]
    cases h : Nat.beq k j with
    | true => simp [beq_true h]
    | false => simp only [inN_iff (l := l), List.mem_cons]; exact ⟨.inr, fun e => e.resolve_left (fun e => beq_false h e.symm)⟩
theorem inN_false {l : List Nat} {j : Nat} (h : inN l j = false) : j ∉ l := fun hm => by rw [inN_iff.2 hm] at h; cases h
section
variable {P : Program} {tab : Nat -> TI} {Q : QT} {E : Env} {β : Nat -> Value} {S : Snap}
structure Step (P : Program) (tab : Nat -> TI) (ap : AP) (t : List SV) (own : Own) (n : Nat) (tr tr' : Tr) (v : SV) (own' : Own) (n' : Nat) : Prop where
  rt : ∀ i, i ∈ tr.rt -> i ∈ tr'.rt
  rb : ∀ i, i ∈ tr.rb -> i ∈ tr'.rb
  wb : ∀ i, i ∈ tr.wb -> i ∈ tr'.wb
  dst : tr'.dst = tr.dst
  da : tr'.da = tr.da /\ n' = n \/ tr.da = false /\ tr'.da = true /\ n' = n + 1
  same : ∀ j, j ∉ tr'.wb -> lookB own' j = lookB own j
  go : ∀ (Q : QT) (t2 : List SV) (own2 : Own) (n2 : Nat) (K : SV -> Own -> Nat -> R), (∀ i ∈ tr'.rt, nth .any t2 i = nth .any t i) -> (∀ j, j ∈ tr'.rb \/ j ∈ tr.wb -> lookB own2 j = lookB own j) -> (n' = n + 1 -> n2 = n) ->
    (∀ own2', (∀ j, lookB own2' j = if j ∈ tr'.wb then lookB own' j else lookB own2 j) -> Holds P tab Q (K v own2' (n2 + (n' - n)))) -> Holds P tab Q (runAP ap t2 own2 n2 K)
theorem lendC_congr {own own2 : Own} : ∀ (l : List SV), (∀ j ∈ keysC l, lookB own2 j = lookB own j) -> lendC own2 l = lendC own l
  | [], _ => rfl
  | v :: l, h => by
    cases v <;> simp only [lendC] <;> first
      | rfl
      | (rw [lendC_congr l (fun j hj => h j (by simpa [keysC] using hj))])
      | (rw [lendC_congr l (fun j hj => h j (by simp [keysC, hj])), h _ (by simp [keysC])])
theorem lendW_congr {own own2 : Own} (v : SV) (h : ∀ j ∈ keysW own v, lookB own2 j = lookB own j) : lendW own2 v = lendW own v := by
  cases v with
  | os i => simp only [lendW]; rw [h i (by simp [keysW])]
  | oe i sz ix off => simp only [lendW]; rw [h i (by simp [keysW])]
  | op i off =>
    have hi : lookB own2 i = lookB own i := h i (by simp only [keysW]; split <;> simp)
    simp only [lendW]; rw [hi]; split
    . rename_i T c hc
      rw [lendC_congr c (fun j hj => h j (by simp only [keysW, hc]; simp [hj]))]
    . rfl
  | agg m => simp only [lendW]; rw [lendC_congr m (fun j hj => h j (by simp only [keysW]; exact hj))]
  | _ => rfl
theorem lendWs_congr {own own2 : Own} : ∀ (l : List SV), (∀ j ∈ keysWs own l, lookB own2 j = lookB own j) -> lendWs own2 l = lendWs own l
  | [], _ => rfl
  | v :: l, h => by
    simp only [lendWs]; rw [lendWs_congr l (fun j hj => h j (by simp [keysWs, hj])), lendW_congr v (fun j hj => h j (by simp [keysWs, hj]))]
theorem lendV_congr {own own2 : Own} (v : SV) (h : ∀ j ∈ keysV own v, lookB own2 j = lookB own j) : lendV own2 v = lendV own v := by
  cases v with
  | fn f caps => simp only [lendV]; rw [lendWs_congr caps (fun j hj => h j (by simp only [keysV]; exact hj))]
  | _ => simp only [keysV] at h; simp only [lendV]; exact lendW_congr _ h
theorem lend_congr {own own2 : Own} : ∀ (l : List SV), (∀ j ∈ keysL own l, lookB own2 j = lookB own j) -> lendVs own2 l = lendVs own l
  | [], _ => rfl
  | v :: l, h => by
    simp only [lendVs]; rw [lend_congr l (fun j hj => h j (by simp [keysL, hj])), lendV_congr v (fun j hj => h j (by simp [keysL, hj]))]
theorem keysW_congr {own own2 : Own} (v : SV) (h : ∀ j ∈ keysW own v, lookB own2 j = lookB own j) : keysW own2 v = keysW own v := by
  cases v with
  | op i off =>
    have hi : lookB own2 i = lookB own i := h i (by simp only [keysW]; split <;> simp)
    simp only [keysW]; rw [hi]
  | _ => rfl
theorem keysWs_congr {own own2 : Own} : ∀ (l : List SV), (∀ j ∈ keysWs own l, lookB own2 j = lookB own j) -> keysWs own2 l = keysWs own l
  | [], _ => rfl
  | v :: l, h => by
    simp only [keysWs]; rw [keysWs_congr l (fun j hj => h j (by simp [keysWs, hj])), keysW_congr v (fun j hj => h j (by simp [keysWs, hj]))]
theorem keysV_congr {own own2 : Own} (v : SV) (h : ∀ j ∈ keysV own v, lookB own2 j = lookB own j) : keysV own2 v = keysV own v := by
  cases v with
  | fn f caps => simp only [keysV]; exact keysWs_congr caps (fun j hj => h j (by simp only [keysV]; exact hj))
  | _ => simp only [keysV] at h ⊢; exact keysW_congr _ h
theorem keysL_congr {own own2 : Own} : ∀ (l : List SV), (∀ j ∈ keysL own l, lookB own2 j = lookB own j) -> keysL own2 l = keysL own l
  | [], _ => rfl
  | v :: l, h => by
    simp only [keysL]; rw [keysL_congr l (fun j hj => h j (by simp [keysL, hj])), keysV_congr v (fun j hj => h j (by simp [keysL, hj]))]
theorem isNil_nil {α : Type} {l : List α} (h : isNil l = true) : l = [] := by cases l <;> first | rfl | cases h
theorem lendC_none {own : Own} : ∀ (l ws : List SV), keysC l = [] -> lendC own l = some ws -> ∀ {β : Nat -> Value} {S : Snap} {us : List Value}, SReps β S l us -> SReps β S ws us
  | [], ws, _, h, β, S, us, hs => by simp only [lendC] at h; cases h; exact hs
  | v :: l, ws, hk, h, β, S, us, hs => by
    rw [SReps] at hs; obtain ⟨u, us, rfl, h1, h2⟩ := hs
    cases v with
    | os j => simp [keysC] at hk
    | nils =>
      simp only [lendC] at h; split at h
      . cases h; rw [SReps]; rw [SRep] at h1; exact ⟨u, us, rfl, by rw [SRep]; exact h1, lendC_none l _ (by simpa [keysC] using hk) (by assumption) h2⟩
      . cases h
    | int k f => simp only [lendC] at h; split at h <;> cases h; rw [SReps]; exact ⟨u, us, rfl, h1, lendC_none l _ (by simpa [keysC] using hk) (by assumption) h2⟩
    | bool f => simp only [lendC] at h; split at h <;> cases h; rw [SReps]; exact ⟨u, us, rfl, h1, lendC_none l _ (by simpa [keysC] using hk) (by assumption) h2⟩
    | bs f => simp only [lendC] at h; split at h <;> cases h; rw [SReps]; exact ⟨u, us, rfl, h1, lendC_none l _ (by simpa [keysC] using hk) (by assumption) h2⟩
    | str f => simp only [lendC] at h; split at h <;> cases h; rw [SReps]; exact ⟨u, us, rfl, h1, lendC_none l _ (by simpa [keysC] using hk) (by assumption) h2⟩
    | ds sz f => simp only [lendC] at h; split at h <;> cases h; rw [SReps]; exact ⟨u, us, rfl, h1, lendC_none l _ (by simpa [keysC] using hk) (by assumption) h2⟩
    | raw f => simp only [lendC] at h; split at h <;> cases h; rw [SReps]; exact ⟨u, us, rfl, h1, lendC_none l _ (by simpa [keysC] using hk) (by assumption) h2⟩
    | _ => simp [lendC] at h
theorem lendW_none {own : Own} {v v' : SV} (hk : keysW own v = []) (h : lendW own v = some v') {β : Nat -> Value} {S : Snap} {u : Value} (hs : SRep β S v u) : SRep β S v' u := by
  cases v with
  | os j => simp [keysW] at hk
  | oe j sz i off => simp [keysW] at hk
  | op j off => simp only [keysW] at hk; split at hk <;> cases hk
  | nils => simp only [lendW] at h; cases h; rw [SRep] at hs; rw [SRep]; exact hs
  | agg m =>
    simp only [lendW] at h; split at h
    . cases h; rw [SRep] at hs; rw [SRep]; obtain ⟨cs, e, hs⟩ := hs; exact ⟨cs, e, lendC_none _ _ (by simp only [keysW] at hk; exact hk) (by assumption) hs⟩
    . cases h
  | int k f => simp only [lendW] at h; cases h; exact hs
  | bool f => simp only [lendW] at h; cases h; exact hs
  | bs f => simp only [lendW] at h; cases h; exact hs
  | str f => simp only [lendW] at h; cases h; exact hs
  | ds sz f => simp only [lendW] at h; cases h; exact hs
  | dp sz f i o => simp only [lendW] at h; cases h; exact hs
  | raw f => simp only [lendW] at h; cases h; exact hs
  | any => simp only [lendW] at h; cases h; exact hs
  | fno f c => simp only [lendW] at h; cases h; exact hs
  | _ => simp [lendW] at h
theorem lendWs_none {own : Own} : ∀ (l ws : List SV), keysWs own l = [] -> lendWs own l = some ws -> ∀ {β : Nat -> Value} {S : Snap} {us : List Value}, SReps β S l us -> SReps β S ws us
  | [], ws, _, h, β, S, us, hs => by simp only [lendWs] at h; cases h; exact hs
  | v :: l, ws, hk, h, β, S, us, hs => by
    rw [SReps] at hs; obtain ⟨u, us, rfl, h1, h2⟩ := hs; simp only [lendWs] at h; split at h
    . rename_i w ws' e1 e2
      cases h; rw [keysWs, List.append_eq_nil_iff] at hk; rw [SReps]; exact ⟨u, us, rfl, lendW_none hk.1 e1 h1, lendWs_none l _ hk.2 e2 h2⟩
    . cases h
theorem lend_none {own : Own} : ∀ (l ws : List SV), keysL own l = [] -> lendVs own l = some ws -> ∀ {β : Nat -> Value} {S : Snap} {us : List Value}, SReps β S l us -> SReps β S ws us
  | [], ws, _, h, β, S, us, hs => by simp only [lendVs] at h; cases h; exact hs
  | v :: l, ws, hk, h, β, S, us, hs => by
    rw [SReps] at hs; obtain ⟨u, us, rfl, h1, h2⟩ := hs; simp only [lendVs] at h; split at h
    . rename_i w ws' e1 e2
      cases h; rw [keysL, List.append_eq_nil_iff] at hk; rw [SReps]; refine ⟨u, us, rfl, ?_, lend_none l _ hk.2 e2 h2⟩
      cases v with
      | fn f caps =>
        simp only [lendV] at e1; split at e1
        . cases e1; rw [SRep] at h1; rw [SRep]; obtain ⟨cs, e, h1⟩ := h1; exact ⟨cs, e, lendWs_none _ _ (by have := hk.1; simp only [keysV] at this; exact this) (by assumption) h1⟩
        . cases e1
      | _ => simp only [lendV] at e1; have hk1 := hk.1; simp only [keysV] at hk1; exact lendW_none hk1 e1 h1
    . cases h
theorem Spec.lift {P : Program} {f : FuncId} {args : List SV} {α : Type} {Pa : α -> Prop} {res : α -> SV} (h : Spec P f args [] 0 Pa res (fun _ => [])) (hk : ∀ x, KB 0 (res x)) (ha : KBs 0 args) (n : Nat) : Spec P f args [] n Pa res (fun _ => []) := by
  refine ⟨h.1, fun w β S vals h1 h2 h3 h4 => ?_⟩
  refine (h.2 w β S vals h1 ha (fun j b hj => by simp [lookB] at hj) h4).mono ?_
  rintro e w' ⟨v, rfl, x, β', S', hx, _, hr, hm⟩; refine ⟨v, rfl, x, β, S', hx, fun _ _ => rfl, SRep_congr (Sub.refl S') (n := 0) (fun j hj => absurd hj (Nat.not_lt_zero j)) _ _ (hk x) hr, ?_⟩
  exact ⟨hm.os, hm.tape, hm.output, hm.size, hm.frame, hm.sub, hm.new, hm.sat, (fun j b hj => by simp [lookB] at hj), (fun i j bi bj x hi => by simp [lookB] at hi), (fun j b x hj => by simp [lookB] at hj), (fun j b x hj => by simp [lookB] at hj)⟩
theorem Spec.args {P : Program} {f : FuncId} {args args' : List SV} {α : Type} {Pa : α -> Prop} {res : α -> SV} {H' : α -> Own} {n : Nat} (h : Spec P f args' [] n Pa res H') (hr : ∀ (β : Nat -> Value) (S : Snap) us, SReps β S args us -> SReps β S args' us) (ha : KBs n args') : Spec P f args [] n Pa res H' :=
  ⟨h.1, fun w β S vals h1 _ h3 h4 => h.2 w β S vals (hr β S vals h1) ha h3 h4⟩
theorem runD_sound : ∀ (ap : AP) (t : List SV) (own : Own) (n : Nat) (tr : Tr) (k : SV -> Own -> Nat -> Tr -> R), Holds P tab Q (runD ap t own n tr k) -> ∃ v own' n' tr', Holds P tab Q (k v own' n' tr') /\ Step P tab ap t own n tr tr' v own' n'
  | .ret v, t, own, n, tr, k, h => by
    rw [runD] at h; refine ⟨v, own, n, tr, h, fun _ h => h, fun _ h => h, fun _ h => h, rfl, .inl ⟨rfl, rfl⟩, fun _ _ => rfl, ?_⟩
    intro Q t2 own2 n2 K h1 h2 h3 hk; rw [runAP]
    have := hk own2 (fun j => by
      split
      . rename_i hj; exact h2 j (.inr hj)
      . rfl)
    simpa using this
  | .rdT i f, t, own, n, tr, k, h => by
    rw [runD] at h; obtain ⟨v, own', n', tr', h1, s⟩ := runD_sound (f (nth .any t i)) t own n _ k h; refine ⟨v, own', n', tr', h1, fun j hj => s.rt j (by simp [hj]), s.rb, s.wb, s.dst, s.da, s.same, ?_⟩
    intro Q t2 own2 n2 K e1 e2 e3 hk; rw [runAP, e1 i (s.rt i (by simp))]
    exact s.go Q t2 own2 n2 K e1 e2 e3 hk
  | .rdB j f, t, own, n, tr, k, h => by
    rw [runD] at h; split at h
    . rename_i b hb
      obtain ⟨v, own', n', tr', h1, s⟩ := runD_sound (f b) t own n _ k h; refine ⟨v, own', n', tr', h1, s.rt, fun i hi => s.rb i (by simp [hi]), s.wb, s.dst, s.da, s.same, ?_⟩
      intro Q t2 own2 n2 K e1 e2 e3 hk; rw [runAP, e2 j (.inl (s.rb j (by simp))), hb]
      exact s.go Q t2 own2 n2 K e1 e2 e3 hk
    . exact (not_stuck h).elim
  | .wrB j b f, t, own, n, tr, k, h => by
    rw [runD] at h; obtain ⟨v, own', n', tr', h1, s⟩ := runD_sound f t (setB own j b) n _ k h; have hj : j ∈ tr'.wb := s.wb j (by simp)
    refine ⟨v, own', n', tr', h1, s.rt, s.rb, fun i hi => s.wb i (by simp [hi]), s.dst, s.da, ?_, ?_⟩
    . intro i hi; rw [s.same i hi, lookB_setB, if_neg (fun e : j = i => hi (e ▸ hj))]
    . intro Q t2 own2 n2 K e1 e2 e3 hk; rw [runAP]; refine s.go Q t2 (setB own2 j b) n2 K e1 ?_ e3 ?_
      . intro i hi; rw [lookB_setB, lookB_setB]; split
        . rfl
        . rename_i hne
          exact e2 i (hi.imp id (fun h => by simp only [List.mem_cons] at h; exact h.resolve_left (fun e => hne e.symm)))
      . intro own2' hh; refine hk own2' (fun i => ?_)
        rw [hh i]; split
        . rfl
        . rename_i hi; rw [lookB_setB, if_neg (fun e : j = i => hi (e ▸ hj))]
  | .sealB j f, t, own, n, tr, k, h => by
    rw [runD] at h; split at h
    . rename_i T sz l hb
      obtain ⟨v, own', n', tr', h1, s⟩ := runD_sound (f sz l) t (delB own j) n _ k h; have hj : j ∈ tr'.wb := s.wb j (by simp)
      refine ⟨v, own', n', tr', h1, s.rt, fun i hi => s.rb i (by simp [hi]), fun i hi => s.wb i (by simp [hi]), s.dst, s.da, ?_, ?_⟩
      . intro i hi; rw [s.same i hi, lookB_delB, if_neg (fun e : j = i => hi (e ▸ hj))]
      . intro Q t2 own2 n2 K e1 e2 e3 hk; rw [runAP, e2 j (.inl (s.rb j (by simp))), hb]
        refine s.go Q t2 (delB own2 j) n2 K e1 ?_ e3 ?_
        . intro i hi; rw [lookB_delB, lookB_delB]; split
          . rfl
          . rename_i hne
            exact e2 i (hi.imp id (fun h => by simp only [List.mem_cons] at h; exact h.resolve_left (fun e => hne e.symm)))
        . intro own2' hh; refine hk own2' (fun i => ?_)
          rw [hh i]; split
          . rfl
          . rename_i hi; rw [lookB_delB, if_neg (fun e : j = i => hi (e ▸ hj))]
    . exact (not_stuck h).elim
  | .newB b f, t, own, n, tr, k, h => by
    rw [runD] at h; split at h
    . rename_i hda
      obtain ⟨v, own', n', tr', h1, s⟩ := runD_sound (f n) t ((n, b) :: own) (n + 1) _ k h; have hj : n ∈ tr'.wb := s.wb n (by simp)
      have hd : tr'.da = true /\ n' = n + 1 := by
        rcases s.da with ⟨d1, d2⟩ | ⟨d1, d2, d3⟩
        . exact ⟨d1, d2⟩
        . cases d1
      refine ⟨v, own', n', tr', h1, s.rt, s.rb, fun i hi => s.wb i (by simp [hi]), s.dst, .inr ⟨hda, hd⟩, ?_, ?_⟩
      . intro i hi; rw [s.same i hi, lookB_cons, if_neg (fun e : n = i => hi (e ▸ hj))]
      . intro Q t2 own2 n2 K e1 e2 e3 hk; have e3 := e3 hd.2; subst e3; rw [runAP]; refine s.go Q t2 ((n2, b) :: own2) (n2 + 1) K e1 ?_ (fun h => by omega) ?_
        . intro i hi; rw [lookB_cons, lookB_cons]; split
          . rfl
          . rename_i hne
            exact e2 i (hi.imp id (fun h => by simp only [List.mem_cons] at h; exact h.resolve_left (fun e => hne e.symm)))
        . intro own2' hh
          have := hk own2' (fun i => by
            rw [hh i]; split
            . rfl
            . rename_i hi; rw [lookB_cons, if_neg (fun e : n2 = i => hi (e ▸ hj))])
          rw [hd.2] at this ⊢; simpa using this
    . exact (not_stuck h).elim
  | .movB j b f, t, own, n, tr, k, h => by
    rw [runD] at h; split at h
    . rename_i hda
      obtain ⟨v, own', n', tr', h1, s⟩ := runD_sound (f n) t ((n, b) :: delB own j) (n + 1) _ k h; have hj : n ∈ tr'.wb := s.wb n (by simp)
      have hj2 : j ∈ tr'.wb := s.wb j (by simp)
      have hd : tr'.da = true /\ n' = n + 1 := by
        rcases s.da with ⟨d1, d2⟩ | ⟨d1, d2, d3⟩
        . exact ⟨d1, d2⟩
        . cases d1
      refine ⟨v, own', n', tr', h1, s.rt, s.rb, fun i hi => s.wb i (by simp [hi]), s.dst, .inr ⟨hda, hd⟩, ?_, ?_⟩
      . intro i hi; rw [s.same i hi, lookB_cons, if_neg (fun e : n = i => hi (e ▸ hj)), lookB_delB, if_neg (fun e : j = i => hi (e ▸ hj2))]
      . intro Q t2 own2 n2 K e1 e2 e3 hk; have e3 := e3 hd.2; subst e3; rw [runAP]; refine s.go Q t2 ((n2, b) :: delB own2 j) (n2 + 1) K e1 ?_ (fun h => by omega) ?_
        . intro i hi; rw [lookB_cons, lookB_cons, lookB_delB, lookB_delB]; split
          . rfl
          . rename_i hne
            split
            . rfl
            . rename_i hne2
              exact e2 i (hi.imp id (fun h => by simp only [List.mem_cons] at h; exact (h.resolve_left (fun e => hne e.symm)).resolve_left (fun e => hne2 e.symm)))
        . intro own2' hh
          have := hk own2' (fun i => by
            rw [hh i]; split
            . rfl
            . rename_i hi; rw [lookB_cons, if_neg (fun e : n2 = i => hi (e ▸ hj)), lookB_delB, if_neg (fun e : j = i => hi (e ▸ hj2))])
          rw [hd.2] at this ⊢; simpa using this
    . exact (not_stuck h).elim
  | @AP.need p _ f, t, own, n, tr, k, h => by
    rw [runD] at h
    cases h with
    | need hp h =>
      obtain ⟨v, own', n', tr', h1, s⟩ := runD_sound f t own n _ k h; exact ⟨v, own', n', tr', h1, s.rt, s.rb, s.wb, s.dst, s.da, s.same, fun Q t2 own2 n2 K e1 e2 e3 hk => by rw [runAP]; exact .need hp (s.go Q t2 own2 n2 K e1 e2 e3 hk)⟩
  | .split b x y, t, own, n, tr, k, h => by
    rw [runD] at h
    cases h with
    | split hx hy =>
      cases hb : b () with
      | true =>
        obtain ⟨v, own', n', tr', h1, s⟩ := runD_sound x t own n _ k (hx hb); exact ⟨v, own', n', tr', h1, s.rt, s.rb, s.wb, s.dst, s.da, s.same, fun Q t2 own2 n2 K e1 e2 e3 hk => by rw [runAP]; exact .split (fun _ => s.go Q t2 own2 n2 K e1 e2 e3 hk) (fun h => by rw [hb] at h; cases h)⟩
      | false =>
        obtain ⟨v, own', n', tr', h1, s⟩ := runD_sound y t own n _ k (hy hb); exact ⟨v, own', n', tr', h1, s.rt, s.rb, s.wb, s.dst, s.da, s.same, fun Q t2 own2 n2 K e1 e2 e3 hk => by rw [runAP]; exact .split (fun h => by rw [hb] at h; cases h) (fun _ => s.go Q t2 own2 n2 K e1 e2 e3 hk)⟩
  | .row l i f, t, own, n, tr, k, h => by
    rw [runD] at h
    cases h with
    | row r cs h1 h2 h3 =>
      obtain ⟨v, own', n', tr', h4, s⟩ := runD_sound (f cs) t own n _ k h3; exact ⟨v, own', n', tr', h4, s.rt, s.rb, s.wb, s.dst, s.da, s.same, fun Q t2 own2 n2 K e1 e2 e3 hk => by rw [runAP]; exact .row r cs h1 h2 (s.go Q t2 own2 n2 K e1 e2 e3 hk)⟩
  | .call g args f, t, own, n, tr, k, h => by
    rw [runD] at h; split at h
    . rename_i args' hl
      cases h with
      | callD res hS hka hkr hpl hrest =>
        obtain ⟨v, own', n', tr', h1, s⟩ := runD_sound (f res) t own n _ k hrest; refine ⟨v, own', n', tr', h1, s.rt, fun i hi => s.rb i (by simp [hi]), s.wb, s.dst, s.da, s.same, ?_⟩
        intro Q t2 own2 n2 K e1 e2 e3 hk; have hl2 : lendVs own2 args = some args' := by rw [lend_congr args (fun j hj => e2 j (.inl (s.rb j (by simp [hj]))))]; exact hl
        rw [runAP]; have hgo := s.go Q t2 own2 n2 K e1 e2 e3 hk
        cases hnil : isNil (keysL own args) with
        | true =>
          refine .call [] (fun _ : Unit => True) (fun _ => res) (fun _ => []) n2 ((hS.lift (fun _ => hkr) hka n2).args (fun β S us hs => lend_none args args' (isNil_nil hnil) hl hs) (KBs_mono (Nat.zero_le _) _ hka)) (fun j b hj => by simp [lookB] at hj) (Nat.le_refl _)
            (fun x hx => ⟨KB_mono (Nat.zero_le _) _ hkr, fun j b hj => by simp [lookB] at hj⟩) (fun x hx j b hj => by simp [lookB] at hj) (fun x hx => ?_)
          exact hgo
        | false =>
          refine .lend args' (fun _ : Unit => True) (fun _ => res) hl2 (hS.lift (fun _ => hkr) hka n2) (fun _ => hpl (by rw [hnil])) (fun x hx => hgo)
      | callDS res hS hka hkr hrest =>
        obtain ⟨v, own', n', tr', h1, s⟩ := runD_sound (f res) t (delKs own (keysL own args)) n _ k hrest; refine ⟨v, own', n', tr', h1, s.rt, fun i hi => s.rb i (by simp [hi]), fun i hi => s.wb i (by simp [hi]), s.dst, s.da, ?_, ?_⟩
        . intro i hi; rw [s.same i hi, lookB_delKs, if_neg (fun e => hi (s.wb i (by simp [e])))]
        . intro Q t2 own2 n2 K e1 e2 e3 hk; have hke : ∀ j ∈ keysL own args, lookB own2 j = lookB own j := fun j hj => e2 j (.inl (s.rb j (by simp [hj])))
          have hl2 : lendVs own2 args = some args' := by rw [lend_congr args hke]; exact hl
          have hks : keysL own2 args = keysL own args := keysL_congr args hke; rw [runAP]; refine .shut args' (fun _ : Unit => True) (fun _ => res) (fun _ => []) n2 hl2 (hS.lift (fun _ => hkr) hka n2) (Nat.le_refl _) (fun x _ => ⟨KB_mono (Nat.zero_le _) _ hkr, fun j b hj => by simp [lookB] at hj⟩) (fun x _ => ?_)
          rw [hks, List.nil_append]; refine s.go Q t2 (delKs own2 (keysL own args)) n2 K e1 ?_ e3 ?_
          . intro i hi; rw [lookB_delKs, lookB_delKs]; split
            . rfl
            . rename_i hne
              exact e2 i (hi.imp id (fun h => by simp only [List.mem_append] at h; exact h.resolve_left hne))
          . intro own2' hh; refine hk own2' (fun i => ?_)
            rw [hh i]; split
            . rfl
            . rename_i hi; rw [lookB_delKs, if_neg (fun e => hi (s.wb i (by simp [e])))]
    . exact (not_stuck h).elim
  | .stuck e, t, own, n, tr, k, h => by rw [runD] at h; exact (not_stuck h).elim
end
end Go.Eng
