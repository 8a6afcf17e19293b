/- The concrete evaluator: regions whose order is drawn: an effect. The concrete evaluator: regions whose order is drawn: the step of an effect. The concrete evaluator: regions whose order is drawn: what is skipped; what is read. The concrete evaluator: regions whose order is drawn: a reading operation gives the same wherever it may stand. The concrete evaluator: regions whose order is drawn are sound. The concrete evaluator: regions whose order is drawn are sound, whole. -/
import Derived.Test.YtkgiopdkhhinoaaGreatDoorZh
set_option linter.all false
namespace Go.Z
open Go.Eng (TI TD DV DRep DRows DCells Snap nth upd slice' splice TabOk tiOk tdOk TFacts FW)
section
variable {P : Program} {E : Env} {cf yf : CF} {ops : List Oper} {D : Nat -> ZD} {S : Snap} {w0 wE w w' : World} {β0 β β' : Nat -> Loc} {n0 N : Nat} {M0 H : Tri ZO} {a0 a : Act} {L : Nat -> Prop} {j : Nat} {tL : Tri ZV}
theorem DI.atEff (di : DI E ops D S w0 wE β0 n0 M0 a0 L a w j β tL) (tr : Trace E cf yf ops D) (fa : DrawFacts ops) {i : Nat} {o : Oper} (ho : ops[i]? = some o) (he : isEff (kind o.op) = true) (hni : ¬ L i) (hcl : ∀ k, L k -> ∀ x ∈ Rof ops k, L x) (hR : ∀ x ∈ Rof ops i, L x) :
    j <= i /\ (D i).s.M = (D j).s.M /\ (D i).s.n = (D j).s.n /\ (∀ (e : Nat) (oe : Oper), ops[e]? = some oe -> isEff (kind oe.op) = true -> j <= e -> e < i -> False) := by
  have hji : j <= i := by
    rcases Nat.lt_or_ge i j with h | h
    . exact absurd ((di.stage i o ho he).2 h) hni
    . exact h
  have none : ∀ (e : Nat) (oe : Oper), ops[e]? = some oe -> isEff (kind oe.op) = true -> j <= e -> e < i -> False := by
    intro e oe h1 h2 h3 h4
    have : L e := by
      have := fa.chain e i oe o h1 ho h2 he h4 (fun k => L k \/ k = i) (fun k hk x hx => by
        rcases hk with hk | hk
        . exact .inl (hcl k hk x hx)
        . subst hk; exact .inl (hR x hx)) (.inr rfl)
      exact this.resolve_right (by omega)
    have := (di.stage e oe h1 h2).1 this; omega
  have hi : i <= ops.length := Nat.le_of_lt (List.getElem?_eq_some_iff.1 ho).1
  obtain ⟨q1, q2⟩ := tr.quiet i hji hi fun q oq h1 h2 h3 => by
    cases h : isEff (kind oq.op) with
    | false => rfl
    | true => exact (none q oq h3 h h1 h2).elim
  exact ⟨hji, q1, q2, none⟩
theorem flush_sublist {ps : List Nat} : ∀ {l : List (Nat × Nat × ZO)} {M M' : Tri ZO} {r : List (Nat × Nat × ZO)}, flush ps l M = (M', r) -> r.Sublist l
  | [], M, M', r, h => by cases h; exact List.Sublist.refl _
  | x :: l, M, M', r, h => by
    rw [flush] at h; split at h
    . exact (flush_sublist h).trans (List.sublist_cons_self _ _)
    . split at h
      rename_i M2 l2 hf
      cases h; exact (flush_sublist hf).cons_cons _
theorem Trace.pend_sorted (tr : Trace E cf yf ops D) (fa : DrawFacts ops) (h0 : (D 0).pend = []) : ∀ i, i <= ops.length -> (D i).pend.Pairwise fun x y => x.1 < y.1
  | 0, _ => by rw [h0]; exact .nil
  | i + 1, h => by
    obtain ⟨o, ho⟩ := Trace.get (show i < ops.length by omega)
    have ih := tr.pend_sorted fa h0 i (by omega)
    cases tr i o ho with
    | eff M1 c h1 h2 h3 h4 h5 h6 h7 h8 => exact ih.sublist (flush_sublist h3)
    | new v M1 n1 ob' h1 h2 h3 h4 h5 h6 h7 h8 h9 =>
      rw [h7]; refine List.pairwise_append.2 ⟨ih, List.pairwise_singleton _ _, fun x hx y hy => ?_⟩
      simp only [List.mem_singleton] at hy; subst hy; exact (tr.pend fa h0 i (by omega) x.1 x.2.1 x.2.2 hx).1
    | look v M1 n1 h1 h2 h3 h4 h5 h6 h7 h8 => rw [h6]; exact ih
    | skip h1 h2 h3 h4 h5 h6 => rw [h4]; exact ih
end
end Go.Z
namespace Go.Z
open Go.Eng (TI TD DV DRep DRows DCells Snap nth upd slice' splice TabOk tiOk tdOk TFacts FW)
section
variable {P : Program} {E : Env} {cf yf : CF} {ops : List Oper} {D : Nat -> ZD} {S : Snap} {w0 wE w w' : World} {β0 β β' : Nat -> Loc} {n0 N : Nat} {M0 H : Tri ZO} {a0 a : Act} {L : Nat -> Prop} {j : Nat} {tL : Tri ZV}
theorem DI.effPre (di : DI E ops D S w0 wE β0 n0 M0 a0 L a w j β tL) (tr : Trace E cf yf ops D) (fa : DrawFacts ops) (hge : w0.heap.size <= wE.heap.size) (hp0 : (D 0).pend = []) {i : Nat} {o : Oper} (ho : ops[i]? = some o) (he : isEff (kind o.op) = true) (hni : ¬ L i)
    (hcl : ∀ k, L k -> ∀ x ∈ Rof ops k, L x) (hR : ∀ x ∈ Rof ops i, L x) {M1 : Tri ZO} {r : List (Nat × Nat × ZO)} (hf : flush (Rof ops i) (D i).pend (D i).s.M = (M1, r)) :
    ZPost S w0 β0 n0 M0 wE β (D i).s.n M1 w /\ ∀ (q κ : Nat) (ob : ZO), L q -> NewAt E ops D q κ ob -> Unfl ops D j q -> q ∉ Rof ops i -> Pd S wE β (D i).s.n M1 w κ ob := by
  obtain ⟨hji, e1, e2, _⟩ := di.atEff tr fa ho he hni hcl hR; have hi : i <= ops.length := Nat.le_of_lt (List.getElem?_eq_some_iff.1 ho).1
  have mem : ∀ x ∈ (D i).pend, x.1 < i /\ NewAt E ops D x.1 x.2.1 x.2.2 /\ Unfl ops D j x.1 := fun x hx => by
    obtain ⟨g1, g2, g3⟩ := tr.pend fa hp0 i hi x.1 x.2.1 x.2.2 hx; exact ⟨g1, g2, fun e oe h => g3 e oe (by omega)⟩
  rw [e1] at hf; rw [e2]
  obtain ⟨q1, q2⟩ := flush_post hge hf di.post (fun x hx hps => by
    obtain ⟨_, g2, g3⟩ := mem x hx
    exact di.pend x.1 x.2.1 x.2.2 (hR _ hps) g2 g3) ((tr.pend_sorted fa hp0 i hi).imp_of_mem fun {x y} hx hy hlt hxs hys => by
    obtain ⟨_, g2, g3⟩ := mem x hx; obtain ⟨_, k2, k3⟩ := mem y hy; exact di.two x.1 x.2.1 x.2.2 y.1 y.2.1 y.2.2 (hR _ hxs) g2 g3 (hR _ hys) k2 k3 (by omega))
  refine ⟨q1, fun q κ ob h1 h2 h3 h4 => ?_⟩
  have d := di.pend q κ ob h1 h2 h3; refine ⟨d.key, d.lt, d.o0, d.ge, fun k ok hk => ?_, d.rel, d.own⟩
  rcases q2 k ok hk with hk | ⟨x, hx, hxs, hxk⟩
  . exact d.apart k ok hk
  . obtain ⟨_, g2, g3⟩ := mem x hx; rw [<- hxk]; exact di.two x.1 x.2.1 x.2.2 q κ ob (hR _ hxs) g2 g3 h1 h2 h3 (fun e => h4 (by rw [<- e]; exact hxs))
theorem DI.effStep (di : DI E ops D S w0 wE β0 n0 M0 a0 L a w j β tL) (tr : Trace E cf yf ops D) (fa : DrawFacts ops) (hge : w0.heap.size <= wE.heap.size) (hp0 : (D 0).pend = []) (h0 : (D 0).s.n = (D 0).nk + (ops.filter fun o => isNew (kind o.op)).length) {i : Nat} {o : Oper} (ho : ops[i]? = some o) (he : isEff (kind o.op) = true) (hni : ¬ L i)
    (hcl : ∀ k, L k -> ∀ x ∈ Rof ops k, L x) (hR : ∀ x ∈ Rof ops i, L x) (hw : zwanted ops o (D i).s.t = some true) {M1 : Tri ZO} {r : List (Nat × Nat × ZO)} (hf : flush (Rof ops i) (D i).pend (D i).s.M = (M1, r))
    {z : ZV} {v : Value} (hz : (D (i + 1)).s.t = setD (D i).s.t o.dst z) (hd : ∀ e, o.dst = some e -> e < (D i).s.nt) (p : ZPost S w0 β (D i).s.n M1 w β' (D (i + 1)).s.n (D (i + 1)).s.M w') (hv : VRel S β' (D (i + 1)).s.n z v) :
    DI E ops D S w0 wE β0 n0 M0 a0 (fun k => L k \/ k = i) (a.put o.dst v) w' (i + 1) β' (setD tL o.dst z) := by
  obtain ⟨hji, e1, e2, hnone⟩ := di.atEff tr fa ho he hni hcl hR; obtain ⟨pre, prd⟩ := di.effPre tr fa hge hp0 ho he hni hcl hR hf; have hi : i < ops.length := (List.getElem?_eq_some_iff.1 ho).1; have hnt : (D i).s.nt = (D 0).s.nt := (tr.fix i (by omega)).1
  obtain ⟨s1, s2⟩ := di.slots tr fa ho hz; have htm : TRel S β (D i).s.n tL a.tmps := by rw [e2]; exact di.tm
  obtain ⟨t1, t2, t3⟩ := put_TRel (htm.mono p.keep p.nn) (d := o.dst) hv (fun e h => by rw [di.nt, <- hnt]; exact hd e h)
  have knew : isNew (kind o.op) = false := by
    revert he
    cases kind o.op <;> simp [isNew, isEff]
  have back : ∀ (q κ : Nat) (ob : ZO), (L q \/ q = i) -> NewAt E ops D q κ ob -> Unfl ops D (i + 1) q -> L q /\ Unfl ops D j q /\ q ∉ Rof ops i := by
    intro q κ ob h1 h2 h3; refine ⟨h1.resolve_right fun e => ?_, fun e oe h => h3 e oe (by omega), h3 i o (by omega) ho he hw⟩
    subst e; obtain ⟨o', _, _, _, g1, g2, _⟩ := h2; rw [ho] at g1; cases g1; rw [knew] at g2; cases g2
  refine ⟨by omega, fun e oe h1 h2 => ?_, pre.trans p, Nat.le_trans di.nn (by rw [<- e2]; exact p.nn), t3.trans di.df, t2.trans di.nt, t1, s1, s2, fun q oq h1 h2 h3 => ?_, fun q κ ob h1 h2 h3 => ?_, fun q κ ob q' κ' ob' h1 h2 h3 h4 h5 h6 h7 => ?_⟩
  . constructor
    . rintro (h | h)
      . have := (di.stage e oe h1 h2).1 h; omega
      . omega
    . intro h; by_cases hei : e = i
      . exact .inr hei
      . refine .inl ((di.stage e oe h1 h2).2 ?_); rcases Nat.lt_or_ge e j with hlt | hge'
        . exact hlt
        . exact (hnone e oe h1 h2 hge' (by omega)).elim
  . have hq := di.free q oq h1 h2 fun h => h3 (.inl h)
    have := (tr.reserved h0 h1 h2).2; rw [p.keep0 _ (by rw [e2]; exact Nat.lt_of_lt_of_le this di.nn)]
    exact hq
  . obtain ⟨g1, g2, g3⟩ := back q κ ob h1 h2 h3; exact (prd q κ ob g1 h2 g2 g3).post pre.mem p
  . obtain ⟨g1, g2, g3⟩ := back q κ ob h1 h2 h3; obtain ⟨k1, k2, k3⟩ := back q' κ' ob' h4 h5 h6; rw [p.keep κ (prd q κ ob g1 h2 g2 g3).key, p.keep κ' (prd q' κ' ob' k1 h5 k2 k3).key]; exact di.two q κ ob q' κ' ob' g1 h2 g2 k1 h5 k2 h7
end
end Go.Z
namespace Go.Z
open Go.Eng (TI TD DV DRep DRows DCells Snap nth upd slice' splice TabOk tiOk tdOk TFacts FW)
section
variable {P : Program} {E : Env} {cf yf : CF} {ops : List Oper} {D : Nat -> ZD} {S : Snap} {w0 wE w w' : World} {β0 β β' : Nat -> Loc} {n0 N : Nat} {M0 H : Tri ZO} {a0 a : Act} {L : Nat -> Prop} {j : Nat} {tL : Tri ZV}
theorem DI.skipEff (di : DI E ops D S w0 wE β0 n0 M0 a0 L a w j β tL) (tr : Trace E cf yf ops D) (fa : DrawFacts ops) {i : Nat} {o : Oper} (ho : ops[i]? = some o) (he : isEff (kind o.op) = true) (hni : ¬ L i)
    (hcl : ∀ k, L k -> ∀ x ∈ Rof ops k, L x) (hR : ∀ x ∈ Rof ops i, L x) (hw : zwanted ops o (D i).s.t = some false) (hM : (D (i + 1)).s.M = (D i).s.M) (hN : (D (i + 1)).s.n = (D i).s.n)
    (hz : (D (i + 1)).s.t = setD (D i).s.t o.dst zundef) (hd : ∀ e, o.dst = some e -> e < (D i).s.nt) :
    DI E ops D S w0 wE β0 n0 M0 a0 (fun k => L k \/ k = i) (a.put o.dst undef) w (i + 1) β (setD tL o.dst zundef) := by
  obtain ⟨hji, e1, e2, hnone⟩ := di.atEff tr fa ho he hni hcl hR; have hi : i < ops.length := (List.getElem?_eq_some_iff.1 ho).1; have hnt : (D i).s.nt = (D 0).s.nt := (tr.fix i (by omega)).1
  obtain ⟨s1, s2⟩ := di.slots tr fa ho hz; have fM : (D (i + 1)).s.M = (D j).s.M := hM.trans e1; have fN : (D (i + 1)).s.n = (D j).s.n := hN.trans e2; obtain ⟨t1, t2, t3⟩ := put_TRel di.tm (d := o.dst) (z := zundef) (v := undef) (by rw [zundef, VRel]) (fun e h => by rw [di.nt, <- hnt]; exact hd e h)
  have knew : isNew (kind o.op) = false := by
    revert he
    cases kind o.op <;> simp [isNew, isEff]
  have back : ∀ (q κ : Nat) (ob : ZO), (L q \/ q = i) -> NewAt E ops D q κ ob -> L q := by
    intro q κ ob h1 h2; refine h1.resolve_right fun e => ?_
    subst e; obtain ⟨o', _, _, _, g1, g2, _⟩ := h2; rw [ho] at g1; cases g1; rw [knew] at g2; cases g2
  refine ⟨by omega, fun e oe h1 h2 => ?_, by rw [fM, fN]; exact di.post, by rw [fN]; exact di.nn, t3.trans di.df, t2.trans di.nt, by rw [fN]; exact t1, s1, s2, fun q oq h1 h2 h3 => di.free q oq h1 h2 fun h => h3 (.inl h), fun q κ ob h1 h2 h3 => ?_, fun q κ ob q' κ' ob' h1 h2 h3 h4 h5 h6 h7 => ?_⟩
  . constructor
    . rintro (h | h)
      . have := (di.stage e oe h1 h2).1 h; omega
      . omega
    . intro h; by_cases hei : e = i
      . exact .inr hei
      . refine .inl ((di.stage e oe h1 h2).2 ?_); rcases Nat.lt_or_ge e j with hlt | hge'
        . exact hlt
        . exact (hnone e oe h1 h2 hge' (by omega)).elim
  . rw [fM, fN]; exact di.pend q κ ob (back q κ ob h1 h2) h2 fun e oe h => h3 e oe (by omega)
  . exact di.two q κ ob q' κ' ob' (back q κ ob h1 h2) h2 (fun e oe h => h3 e oe (by omega)) (back q' κ' ob' h4 h5) h5 (fun e oe h => h6 e oe (by omega)) h7
theorem DI.window (di : DI E ops D S w0 wE β0 n0 M0 a0 L a w j β tL) {i : Nat} (hni : ¬ L i) (hcl : ∀ k, L k -> ∀ x ∈ Rof ops k, L x) (hR : ∀ x ∈ Rof ops i, L x) :
    winLo (reach ops []) (effIx ops) i <= cnt ops j /\ cnt ops j <= winHi (reach ops []) (effIx ops) i := by
  unfold winLo winHi cnt; rw [<- List.countP_eq_length_filter, <- List.countP_eq_length_filter, <- List.countP_eq_length_filter]; constructor
  . refine List.countP_mono_left fun e he h => ?_
    obtain ⟨o, h1, h2⟩ := mem_effIx.1 he; have : e ∈ Rof ops i := inN_true.1 h; rw [blt_iff]; simpa using (di.stage e o h1 h2).1 (hR e this)
  . refine List.countP_mono_left fun e he h => ?_
    obtain ⟨o, h1, h2⟩ := mem_effIx.1 he; rw [blt_iff] at h; have hl := (di.stage e o h1 h2).2 (by simpa using h)
    simp only [Bool.not_eq_true']
    cases hx : inN (((reach ops [])[e]?).getD []) i with
    | false => rfl
    | true => exact absurd (hcl e hl i (inN_true.1 hx)) hni
theorem window_text (fa : DrawFacts ops) (i : Nat) : winLo (reach ops []) (effIx ops) i <= cnt ops i /\ cnt ops i <= winHi (reach ops []) (effIx ops) i := by
  unfold winLo winHi cnt; rw [<- List.countP_eq_length_filter, <- List.countP_eq_length_filter, <- List.countP_eq_length_filter]; constructor
  . refine List.countP_mono_left fun e he h => ?_
    have : e ∈ Rof ops i := inN_true.1 h; rw [blt_iff]; simpa using fa.below i e this
  . refine List.countP_mono_left fun e he h => ?_
    rw [blt_iff] at h; have hlt : e < i := by simpa using h
    simp only [Bool.not_eq_true']
    cases hx : inN (((reach ops [])[e]?).getD []) i with
    | false => rfl
    | true =>
      have := fa.below e i (inN_true.1 hx); omega
end
end Go.Z
namespace Go.Z
open Go.Eng (TI TD DV DRep DRows DCells Snap nth upd slice' splice TabOk tiOk tdOk TFacts FW)
section
variable {P : Program} {E : Env} {cf yf : CF} {ops : List Oper} {D : Nat -> ZD} {S : Snap} {w0 wE w w' : World} {β0 β β' : Nat -> Loc} {n0 N : Nat} {M0 H : Tri ZO} {a0 a : Act} {L : Nat -> Prop} {j : Nat} {tL : Tri ZV}
theorem DI.readAt (di : DI E ops D S w0 wE β0 n0 M0 a0 L a w j β tL) (tr : Trace E cf yf ops D) (fa : DrawFacts ops) (hh : (D 0).hist = [(D 0).s.M]) (hck : zcheck E ops (reach ops []) (effIx ops) (D ops.length) = true) {i : Nat} {o : Oper} (ho : ops[i]? = some o) (hni : ¬ L i)
    (hcl : ∀ k, L k -> ∀ x ∈ Rof ops k, L x) (hR : ∀ x ∈ Rof ops i, L x) (hrd : isRead (kind o.op) = true) (hw : zwanted ops o (D i).s.t = some true) {v : ZV} {M1 : Tri ZO} {n1 : Nat} (hz : zop E o.op o.type (D i).s.t (D i).s.M (D i).s.n = .ok v M1 n1)
    (hv : (D (i + 1)).s.t = setD (D i).s.t o.dst v) : zop E o.op o.type tL (D j).s.M (D j).s.n = .ok v (D j).s.M (D j).s.n := by
  have hi : i < ops.length := (List.getElem?_eq_some_iff.1 ho).1; obtain ⟨g1, g2⟩ := di.sees tr fa ho hni hcl hR; have hcong : zop E o.op o.type tL = zop E o.op o.type (D i).s.t := zop_congr g1; obtain ⟨h1, h2⟩ := tr.hist hh ops.length (Nat.le_refl _); have hj := h2 j di.le; have hii := h2 i (by omega)
  obtain ⟨w1, w2⟩ := di.window hni hcl hR; obtain ⟨w3, w4⟩ := window_text fa i
  have hwf : zwanted ops o (D ops.length).s.t = some true := by
    rw [<- hw]; refine zwanted_congr fun k b g d hg hk hd => ?_
    exact ((tr.slot fa (show i <= ops.length by omega) d).1 k g (fa.below i k (fa.guards i o k b ho hg)) hk hd).symm
  have hc := List.all_eq_true.1 hck _ (mem_zipIdx.2 ho); dsimp only at hc
  rw [hrd, hwf] at hc; dsimp only at hc
  split at hc
  . rename_i hb
    simp only [Bool.and_eq_true] at hc; obtain ⟨hs, hc1⟩ := hc; unfold zcheck1 at hc1; split at hc1
    . rename_i d hd
      split at hc1
      . rename_i v0 hv0
        have ev : v0 = v := by
          have := (tr.slot fa (show i + 1 <= ops.length by omega) d).1 i o (by omega) ho hd
          rw [hv, setD_get, if_pos hd, hv0] at this; exact (Option.some.inj this).symm
        subst ev
        have hsame : ∀ x ∈ o.op.operands.toList, zrd (D ops.length).s.t x = zrd tL x := by
          intro x hx
          cases x with
          | tmp d' =>
            have hd' : d' ∈ tmpsOf o := by
              unfold tmpsOf; exact List.mem_filterMap.2 ⟨.tmp d', hx, rfl⟩
            have hst := List.all_eq_true.1 hs d' hd'
            have : (D ops.length).s.t.get d' = tL.get d' := by
              by_cases hex : ∃ (q : Nat) (oq : Oper), ops[q]? = some oq /\ oq.dst = some d'
              . obtain ⟨q, oq, q1, q2⟩ := hex; have := List.all_eq_true.1 hst _ (mem_zipIdx.2 q1); dsimp only at this
                rw [q2] at this; simp only [Bool.or_eq_true, Bool.not_eq_true'] at this; rcases this with h | h
                . simp at h
                . exact (di.done d' q oq q1 (hR q (inN_true.1 h)) q2).symm
              . rw [di.old d' fun q oq q1 _ q2 => hex ⟨q, oq, q1, q2⟩, (tr.slot fa (Nat.le_refl _) d').2 fun q oq _ q1 q2 => hex ⟨q, oq, q1, q2⟩]
            simp only [zrd]; rw [this]
          | _ => rfl
        have hop : zop E o.op o.type (D ops.length).s.t = zop E o.op o.type tL := zop_congr hsame
        have hmem : (D j).s.M ∈ ((D ops.length).hist.reverse.drop (winLo (reach ops []) (effIx ops) i)).take (winHi (reach ops []) (effIx ops) i + 1 - winLo (reach ops []) (effIx ops) i) := by
          refine List.mem_of_getElem? (i := cnt ops j - winLo (reach ops []) (effIx ops) i) ?_; rw [List.getElem?_take, if_pos (by omega), List.getElem?_drop, show winLo (reach ops []) (effIx ops) i + (cnt ops j - winLo (reach ops []) (effIx ops) i) = cnt ops j by omega]
          exact hj
        have hall := List.all_eq_true.1 hc1 _ hmem; rw [hop] at hall; split at hall
        . rename_i u Mu nu hu
          obtain ⟨r1, r2, r3⟩ := zop_read hrd _ _ _ _ _ hu; have := r3 (D j).s.n; rw [this, zveq_eq _ _ _ hall]
        . cases hall
      . cases hc1
    . cases hc1
  . rename_i hb
    have hb' : ¬ winLo (reach ops []) (effIx ops) i < winHi (reach ops []) (effIx ops) i := by
      rw [blt_iff] at hb; simpa using hb
    have hc' : cnt ops j = cnt ops i := by omega
    rw [hc'] at hj; rw [hii] at hj; have hM : (D i).s.M = (D j).s.M := Option.some.inj hj; rw [hcong, <- hM]; obtain ⟨r1, r2, r3⟩ := zop_read hrd _ _ _ _ _ hz; exact r3 _
end
end Go.Z
namespace Go.Z
open Go.Eng (TI TD DV DRep DRows DCells Snap nth upd slice' splice TabOk tiOk tdOk TFacts FW)
section
variable {P : Program} {E : Env} {cf yf : CF} {ops : List Oper} {D : Nat -> ZD} {S : Snap} {w0 wE w w' : World} {β0 β β' : Nat -> Loc} {n0 N : Nat} {M0 H : Tri ZO} {a0 a : Act} {L : Nat -> Prop} {j : Nat} {tL : Tri ZV}
theorem DI.congr {L' : Nat -> Prop} (h : ∀ k, k < ops.length -> (L k ↔ L' k)) (di : DI E ops D S w0 wE β0 n0 M0 a0 L a w j β tL) : DI E ops D S w0 wE β0 n0 M0 a0 L' a w j β tL := by
  have lt : ∀ (q : Nat) (o : Oper), ops[q]? = some o -> q < ops.length := fun q o h => (List.getElem?_eq_some_iff.1 h).1
  have ltn : ∀ (q κ : Nat) (ob : ZO), NewAt E ops D q κ ob -> q < ops.length := fun q κ ob ⟨o, _, _, _, h, _⟩ => lt q o h
  exact ⟨di.le, fun e o h1 h2 => (h e (lt e o h1)).symm.trans (di.stage e o h1 h2), di.post, di.nn, di.df, di.nt, di.tm, fun d q o h1 h2 h3 => di.done d q o h1 ((h q (lt q o h1)).2 h2) h3,
    fun d hd => di.old d fun q o h1 h2 => hd q o h1 ((h q (lt q o h1)).1 h2), fun p o h1 h2 h3 => di.free p o h1 h2 fun hl => h3 ((h p (lt p o h1)).1 hl),
    fun p κ ob h1 h2 h3 => di.pend p κ ob ((h p (ltn p κ ob h2)).2 h1) h2 h3,
    fun p κ ob p' κ' ob' h1 h2 h3 h4 h5 h6 h7 => di.two p κ ob p' κ' ob' ((h p (ltn p κ ob h2)).2 h1) h2 h3 ((h p' (ltn p' κ' ob' h5)).2 h4) h5 h6 h7⟩
theorem get_app {α : Type} {l l' : List α} {i : Nat} {a : α} (h : l[i]? = some a) : (l ++ l')[i]? = some a := by
  rw [List.getElem?_append_left (List.getElem?_eq_some_iff.1 h).1]; exact h
theorem zwanted_app {l l' : List Oper} {o : Oper} {t : Tri ZV} {b : Bool} (h : zwanted l o t = some b) : zwanted (l ++ l') o t = some b := by
  unfold zwanted at h ⊢; split at h
  . exact h
  . rename_i j want hg
    cases hj : l[j]? with
    | none => rw [hj] at h; cases h
    | some g =>
      rw [hj] at h; rw [get_app hj]; exact h
theorem DI.step (ok : EnvOk P E) (hc : CFok P cf) (hy : YFok P yf) (tr : Trace E cf yf ops D) (fa : DrawFacts ops) (hge : w0.heap.size <= wE.heap.size) (hp0 : (D 0).pend = []) (h0 : (D 0).s.n = (D 0).nk + (ops.filter fun o => isNew (kind o.op)).length) (hn0 : n0 <= (D 0).nk)
    (hh : (D 0).hist = [(D 0).s.M]) (hck : zcheck E ops (reach ops []) (effIx ops) (D ops.length) = true) {arr : Array Oper} {ex : List Oper} (harr : arr.toList = ops ++ ex) {i : Nat} {o : Oper} (ho : ops[i]? = some o) (hni : ¬ L i)
    (hcl : ∀ k, L k -> ∀ x ∈ Rof ops k, L x) (hR : ∀ x ∈ Rof ops i, L x) {ro : Option Nat} {nn : Nat} {QQ : Exit -> Act -> World -> Prop}
    (di : DI E ops D S w0 wE β0 n0 M0 a0 L a w j β tL) : wpOpIn (FW ro) nn P arr QQ i (fun a' w' => ∃ j β tL, DI E ops D S w0 wE β0 n0 M0 a0 (fun k => L k \/ k = i) a' w' j β tL) a w := by
  have hoa : arr[i]? = some o := by rw [<- Array.getElem?_toList, harr]; exact get_app ho
  obtain ⟨g1, g2⟩ := di.sees tr fa ho hni hcl hR; have hcong : zop E o.op o.type tL = zop E o.op o.type (D i).s.t := zop_congr g1
  have hwant : ∀ b, zwanted ops o (D i).s.t = some b -> Region.wanted o (yielded arr a.tmps) = b := fun b hb => by
    refine zwanted_sound di.tm ?_; rw [harr]; refine zwanted_app ?_; rw [g2]; exact hb
  have hnd := fa.nodefer i o ho; unfold wpOpIn; rw [hoa]; dsimp only
  cases tr i o ho with
  | skip h1 h2 h3 h4 h5 h6 =>
    rw [hwant false h1, if_neg (by simp)]
    refine ⟨fun _ _ => trivial, ?_⟩
    have hz : (D (i + 1)).s.t = setD (D i).s.t o.dst zundef := by rw [h2]
    by_cases he : isEff (kind o.op) = true
    . exact ⟨_, _, _, di.skipEff tr fa ho he hni hcl hR h1 (by rw [h2]) (by rw [h2]) hz h3⟩
    . refine ⟨_, _, _, di.keepStep tr fa h0 ho (by simpa using he) ?_ hz h3 (.refl di.post.mem) (by rw [zundef, VRel])⟩
      rintro κ ob ⟨o', _, _, _, k1, _, k2, _⟩; rw [ho] at k1; cases k1; rw [h1] at k2; cases k2
  | look v M1 n1 h1 h2 h3 h4 h5 h6 h7 h8 =>
    rw [hwant true h1, if_pos rfl]; have hz : (D (i + 1)).s.t = setD (D i).s.t o.dst v := by rw [h4]
    have hop : zop E o.op o.type tL (D j).s.M (D j).s.n = .ok v (D j).s.M (D j).s.n := by
      rcases h2 with h2 | h2
      . rw [hcong]; exact zop_pure h2 _ _ _ _ _ h3 _ _
      . exact di.readAt tr fa hh hck ho hni hcl hR h2 h1 h3 hz
    have he : isEff (kind o.op) = false := by
      rcases h2 with h2 | h2 <;> revert h2 <;> cases kind o.op <;> simp [isPure, isRead, isEff]
    have hn : isNew (kind o.op) = false := by
      rcases h2 with h2 | h2 <;> revert h2 <;> cases kind o.op <;> simp [isPure, isRead, isNew]
    refine zres_sound ok hc hy hnd di.post.mem di.tm (c := ⟨v, (D j).s.M, (D j).s.n⟩) (by rw [hop]; rfl) fun v' β' w' hv p => ⟨_, _, _, di.keepStep tr fa h0 ho he ?_ hz h5 p hv⟩
    rintro κ ob ⟨o', _, _, _, k1, k2, _⟩; rw [ho] at k1; cases k1; rw [hn] at k2; cases k2
  | new v M1 n1 ob h1 h2 h3 h4 h5 h6 h7 h8 h9 =>
    rw [hwant true h1, if_pos rfl]; have hz : (D (i + 1)).s.t = setD (D i).s.t o.dst v := by rw [h5]
    obtain ⟨sm, hrun, hnew⟩ := zop_new (w := w) ok h2 di.tm; rw [hcong] at hnew; obtain ⟨ob', v', x, len, k1, k2, k3, k4⟩ := hnew _ _ _ _ h3; rw [h4] at k1; cases k1; refine ⟨fun _ _ => trivial, ?_⟩
    rw [Oper.semAt_eq _ _ _ (fun d e => by rw [e] at hnd; cases hnd), hrun _ _ k3]
    obtain ⟨β', hd⟩ := di.newStep tr fa h0 hn0 ho hni h2 ⟨o, v, M1, n1, ho, h2, h1, rfl, h3, h4⟩ k2 hz h6 k4; exact ⟨_, _, _, hd⟩
  | eff M1 c h1 h2 h3 h4 h5 h6 h7 h8 =>
    rw [hwant true h1, if_pos rfl]; obtain ⟨e0, e1, e2, _⟩ := di.atEff tr fa ho h2 hni hcl hR; obtain ⟨pre, _⟩ := di.effPre tr fa hge hp0 ho h2 hni hcl hR h3; have htm : TRel S β (D i).s.n tL a.tmps := by rw [e2]; exact di.tm
    refine zres_sound ok hc hy hnd pre.mem htm (c := c) (by rw [hcong]; exact h4) fun v' β' w' hv p => ⟨_, _, _, di.effStep tr fa hge hp0 h0 ho h2 hni hcl hR h1 h3 (z := c.v) (by rw [h5]) h6 (by rw [h5]; exact p) (by rw [h5]; exact hv)⟩
end
end Go.Z
namespace Go.Z
open Go.Eng (TI TD DV DRep DRows DCells Snap nth upd slice' splice TabOk tiOk tdOk TFacts FW)
section
variable {P : Program} {E : Env} {cf yf : CF} {ops : List Oper} {D : Nat -> ZD} {S : Snap} {w0 wE w w' : World} {β0 β β' : Nat -> Loc} {n0 N : Nat} {M0 H : Tri ZO} {a0 a : Act} {L : Nat -> Prop} {j : Nat} {tL : Tri ZV}
theorem DI.finish (di : DI E ops D S w0 wE β0 n0 M0 a0 L a w j β tL) (tr : Trace E cf yf ops D) (fa : DrawFacts ops) (hge : w0.heap.size <= wE.heap.size) (hp0 : (D 0).pend = []) (hall : ∀ k, k < ops.length -> L k) :
    ZPost S w0 β0 n0 M0 wE β (D ops.length).s.n (flushAll (D ops.length).pend (D ops.length).s.M) w /\ TRel S β (D ops.length).s.n (D ops.length).s.t a.tmps := by
  obtain ⟨q1, q2⟩ := tr.quiet ops.length di.le (Nat.le_refl _) fun q o h1 h2 h3 => by
    cases he : isEff (kind o.op) with
    | false => rfl
    | true =>
      have := (di.stage q o h3 he).1 (hall q h2); omega
  have mem : ∀ x ∈ (D ops.length).pend, x.1 < ops.length /\ NewAt E ops D x.1 x.2.1 x.2.2 /\ Unfl ops D j x.1 := fun x hx => by
    obtain ⟨g1, g2, g3⟩ := tr.pend fa hp0 ops.length (Nat.le_refl _) x.1 x.2.1 x.2.2 hx; exact ⟨g1, g2, fun e oe h => g3 e oe (by have := di.le; omega)⟩
  have hf := flushAll_eq (ps := (D ops.length).pend.map (·.1)) (l := (D ops.length).pend) (M := (D ops.length).s.M) (fun x hx => List.mem_map.2 ⟨x, hx, rfl⟩)
  rw [q1] at hf ⊢; rw [q2]
  obtain ⟨r1, _⟩ := flush_post hge hf di.post (fun x hx _ => by
    obtain ⟨g1, g2, g3⟩ := mem x hx
    exact di.pend x.1 x.2.1 x.2.2 (hall _ g1) g2 g3) ((tr.pend_sorted fa hp0 ops.length (Nat.le_refl _)).imp_of_mem fun {x y} hx hy hlt _ _ => by
    obtain ⟨g1, g2, g3⟩ := mem x hx; obtain ⟨k1, k2, k3⟩ := mem y hy; exact di.two x.1 x.2.1 x.2.2 y.1 y.2.1 y.2.2 (hall _ g1) g2 g3 (hall _ k1) k2 k3 (by omega))
  refine ⟨r1, fun d => ?_⟩
  have : tL.get d = (D ops.length).s.t.get d := by
    by_cases hex : ∃ (q : Nat) (oq : Oper), ops[q]? = some oq /\ oq.dst = some d
    . obtain ⟨q, oq, h1, h2⟩ := hex; exact di.done d q oq h1 (hall q (List.getElem?_eq_some_iff.1 h1).1) h2
    . rw [di.old d fun q oq h1 _ h2 => hex ⟨q, oq, h1, h2⟩, (tr.slot fa (Nat.le_refl _) d).2 fun q oq _ h1 h2 => hex ⟨q, oq, h1, h2⟩]
  rw [<- this]; exact di.tm d
theorem draw_ok (ok : EnvOk P E) (hc : CFok P cf) (hy : YFok P yf) : DrawOK P E cf yf := by
  intro id arr s s' h; obtain ⟨ops, hops⟩ : ∃ ops, arr.toList = ops := ⟨_, rfl⟩; rw [hops] at h; unfold zdraw at h; split at h
  . rename_i hdraw
    split at h
    . rename_i De hl
      split at h
      . rename_i hck
        cases h; have fa := drawFacts hdraw; obtain ⟨D, d0, d1, d2⟩ := lfold_trace _ ops 0 _ _ hl; simp only [Nat.zero_add] at d1 d2; have tr : Trace E cf yf ops D := fun i o ho => zdstep_inv (d2 i o ho)
        have hn : (D 0).s.n = (D 0).nk + (ops.filter fun o => isNew (kind o.op)).length := by rw [d0]
        have hnk : (D 0).nk = s.n := by rw [d0]
        have hdf : De.s.df = s.df := by rw [<- d1, (tr.fix ops.length (Nat.le_refl _)).2, d0]
        have hnt : De.s.nt = s.nt := by rw [<- d1, (tr.fix ops.length (Nat.le_refl _)).1, d0]
        refine ⟨⟨[], hdf⟩, 0, fun S w0 B β a w ro nn QQ hR hro rel hq => ?_⟩
        have hsz : arr.size = ops.length := by rw [<- hops]; simp
        have pq : ZPost S w0 β s.n s.M w β s.n s.M { w with drawn := w.drawn + 1 } := ZPost.quiet rel.mem rfl rfl rfl (Nat.le_refl _) (fun _ _ => rfl)
        obtain ⟨β1, hβ1⟩ : ∃ β1 : Nat -> Loc, β1 = fun k => if k < s.n then β k else ⟨0, 0, 0, false⟩ := ⟨_, rfl⟩
        have hlt : ∀ k, k < s.n -> β1 k = β k := fun k hk => by rw [hβ1]; simp [hk]
        have hkey : ∀ k, Key β s.n k -> β1 k = β k := fun k hk => hlt k hk.1
        have hk0 : ∀ k o, s.M.get k = some o -> β1 k = β k := fun k o h => hkey k (pq.mem.key k o h).1
        have hN : s.n <= (D 0).s.n := by omega
        have m1 : ZPost S w0 β s.n s.M { w with drawn := w.drawn + 1 } β1 (D 0).s.n s.M { w with drawn := w.drawn + 1 } := by
          have m := pq.mem; refine ⟨⟨m.os, m.tape, m.output, m.size, m.old, m.sub, fun k o h => ?_, fun k o h hw => by rw [hk0 k o h]; exact m.own k o h hw, fun i k oi ok' hi hk' hw e => ?_, fun k T h d hh => by rw [hk0 k _ hh]; exact m.low k T h d hh⟩, hN, hlt, Nat.le_refl _, fun _ _ _ => rfl, fun k o h _ => h, fun k o h hw => .inl ⟨k, o, h, hw, by rw [hk0 k o h]⟩⟩
          . obtain ⟨g1, g2, g3⟩ := m.key k o h; rw [hk0 k o h]; exact ⟨g1.mono hkey hN, g2, g3.mono hkey hN rfl⟩
          . rw [hk0 i oi hi, hk0 k ok' hk'] at e; exact m.inj i k oi ok' hi hk' hw e
        refine wpIn_region_any ok.tab.mix (any_inv (fun L a' w' => ∃ j β' tL, DI E ops D S w0 { w with drawn := w.drawn + 1 } β s.n s.M a L a' w' j β' tL) ?_ ?_ ?_ ?_ arr.size (Array.replicate arr.size false) a _ (by simp) ?_ ?_ ?_)
        . rintro L L' a' w' hLL ⟨j, β', tL, di⟩; exact ⟨j, β', tL, di.congr fun k hk => hLL k (by omega)⟩
        . intro i o ho e he hb; have ho' : ops[i]? = some o := by rw [<- hops, Array.getElem?_toList]; exact ho
          exact fa.below i e.on ((Rof_spec ho').1 _ (mem_binds.2 ⟨e, he, hb, rfl⟩))
        . rintro L i o a' w' ho hni hpre hcl ⟨j, β', tL, di⟩; have ho' : ops[i]? = some o := by rw [<- hops, Array.getElem?_toList]; exact ho
          have hcl' : ∀ k ok', ops[k]? = some ok' -> L k -> ∀ x ∈ binds ok', L x := fun k ok' hk hLk x hx => by
            obtain ⟨e, he, hb, rfl⟩ := mem_binds.1 hx; exact hcl k ok' (by rw [<- Array.getElem?_toList, hops]; exact hk) hLk e he hb
          have hclR : ∀ k, L k -> ∀ x ∈ Rof ops k, L x := fun k hk x hx => by
            cases hok : ops[k]? with
            | none =>
              have hlen := (reach_get ops []).2.1
              have : Rof ops k = [] := by
                unfold Rof; rw [List.getElem?_eq_none (by rw [hlen]; have := List.getElem?_eq_none_iff.1 hok; simpa using this)]
                rfl
              rw [this] at hx; cases hx
            | some ok' => exact closed_Rof fa hcl' k ok' hok (hcl' k ok' hok hk) x hx
          have hR' : ∀ x ∈ Rof ops i, L x := closed_Rof fa hcl' i o ho' fun x hx => by
            obtain ⟨e, he, hb, rfl⟩ := mem_binds.1 hx; exact hpre e he hb
          exact di.step ok hc hy tr fa pq.mem.size (by rw [d0]) hn (by omega) (by rw [d0]) (by rw [d1]; exact hck) (ex := []) (by rw [List.append_nil]; exact hops) ho' hni hclR hR'
        . rintro L a' w' hall ⟨j, β', tL, di⟩; obtain ⟨p1, t1⟩ := di.finish tr fa pq.mem.size (by rw [d0]) fun k hk => hall k (by omega)
          rw [d1] at p1 t1; have pall := pq.trans p1; refine hq β' a' w' ⟨p1.mem, t1, ?_, ?_, Nat.le_trans rel.lo pall.size⟩ pall
          . rw [di.nt, d0]; exact hnt.symm
          . rw [di.df]; show DRel S B β' De.s.n _ w' De.s.df a.defers; rw [hdf]; exact rel.df.post pall
        . simp only [Array.getD_eq_getD_getElem?]
          rw [List.filter_eq_self.2 (fun k hk => by
            have := List.mem_range.1 hk; rw [Array.getElem?_replicate, if_pos this]; rfl)]
          simp
        . intro k ok' hk hkl; have := (Array.getElem?_eq_some_iff.1 hk).1; rw [Array.getD_eq_getD_getElem?, Array.getElem?_replicate, if_pos this] at hkl; cases hkl
        . have none : ∀ k, ¬ ((Array.replicate arr.size false).getD k false = true) := by
            intro k hk; rw [Array.getD_eq_getD_getElem?, Array.getElem?_replicate] at hk; split at hk <;> cases hk
          refine ⟨0, β1, s.t, ⟨Nat.zero_le _, fun e o _ _ => ⟨fun h => absurd h (none e), fun h => by omega⟩, ?_, Nat.le_refl _, rfl, ?_, ?_, fun d q o _ h => absurd h (none q), fun d _ => by rw [d0], fun p o ho hnw _ => ?_, fun p κ ob h => absurd h (none p), fun p κ ob p' κ' ob' h => absurd h (none p)⟩⟩
          . have : (D 0).s.M = s.M := by rw [d0]
            rw [this]; exact m1
          . rw [rel.nt, d0]
          . exact rel.tm.mono hkey hN
          . have := (tr.reserved hn ho hnw).1; rw [hβ1]; simp only; rw [if_neg (by omega)]
      . cases h
    . cases h
  . cases h
end
end Go.Z
