/- The concrete evaluator: a region's last operation apart; slots that nobody writes; values of lower keys. The concrete evaluator: lemmas about the rounds of a range over a map. The concrete evaluator: a run beside a greater memory. The concrete evaluator: what stands in a map while its rounds are under way. -/
import Derived.Test.YtkgiopdkhhinoaaGreatDoorZi
set_option linter.all false
namespace Go.Z
open Go.Eng (TI TD DV DRep DRows DCells Snap nth upd slice' splice TabOk tiOk tdOk TFacts FW)
section
variable {P : Program} {E : Env} {cf yf : CF}
theorem zops_then (ok : EnvOk P E) (hc : CFok P cf) (hy : YFok P yf) {ops : Array Oper} {os2 : List Oper} : ∀ (os : List Oper) (s s' : ZS), lfold (zstep E cf yf ops.toList) os s = some s' -> (∃ l, s'.df = l ++ s.df) /\
    ∀ (S : Snap) (w0 : World) (B : Nat) (β : Nat -> Loc) (a : Act) (w : World) (ro : Option Nat) (nn : Nat) (QQ : Exit -> Act -> World -> Prop), (ro = none \/ s'.df = []) -> ZRel S w0 B β s a w ->
      (∀ β' a' w', ZRel S w0 B β' s' a' w' -> ZPost S w0 β s.n s.M w β' s'.n s'.M w' -> wpListIn (FW ro) nn P ops QQ os2 a' w') -> wpListIn (FW ro) nn P ops QQ (os ++ os2) a w
  | [], s, s', h => by
    rw [lfold_nil] at h; cases h; exact ⟨⟨[], rfl⟩, fun S w0 B β a w ro nn QQ _ rel hq => hq β a w rel (.refl rel.mem)⟩
  | o :: os, s, s', h => by
    rw [lfold_cons] at h; split at h
    . rename_i s1 h1
      obtain ⟨⟨l2, d2⟩, ih⟩ := zops_then ok hc hy os s1 s' h; unfold zstep at h1; split at h1
      . rename_i hw
        obtain ⟨⟨l1, d1⟩, _, g⟩ := zfin_sound ok hc hy h1; refine ⟨⟨l2 ++ l1, by rw [d2, d1, List.append_assoc]⟩, fun S w0 B β a w ro nn QQ hro rel hq => ?_⟩
        rw [List.cons_append, wpListIn, zwanted_sound rel.tm hw, if_pos rfl]; refine g S w0 B β a w ro nn _ QQ ?_ rel ?_
        . rcases hro with hro | hro
          . exact .inl hro
          . rw [hro] at d2; exact .inr (List.append_eq_nil_iff.1 d2.symm).2
        . intro β' a' w' rel' p; exact ih S w0 B β' a' w' ro nn QQ hro rel' fun β'' a'' w'' rel'' p' => hq β'' a'' w'' rel'' (p.trans p')
      . rename_i hw
        obtain ⟨d1, e2, e3, e4, g⟩ := zput_sound h1; refine ⟨⟨l2, by rw [d2, d1]⟩, fun S w0 B β a w ro nn QQ hro rel hq => ?_⟩
        rw [List.cons_append, wpListIn, zwanted_sound rel.tm hw, if_neg (by simp)]
        refine ⟨fun _ _ => trivial, ?_⟩
        have rel' := g S w0 B β β a w w undef rel (.refl rel.mem) (by rw [zundef, VRel])
        have p : ZPost S w0 β s.n s.M w β s1.n s1.M w := by rw [e2, e3]; exact .refl rel.mem
        exact ih S w0 B β _ w ro nn QQ hro rel' fun β'' a'' w'' rel'' p' => hq β'' a'' w'' rel'' (p.trans p')
      . cases h1
    . cases h
theorem draw_pre (ok : EnvOk P E) (hc : CFok P cf) (hy : YFok P yf) {id : Nat} {arr : Array Oper} {ops : List Oper} {lo : Oper} (hops : arr.toList = ops ++ [lo]) (hg : lo.guard = none) (hlast : lastBinds arr.toList ops.length = true) {s s' : ZS} (h : zdraw E cf yf ops s = some s') :
    s'.df = s.df /\ ∀ (S : Snap) (w0 : World) (B : Nat) (β : Nat -> Loc) (a : Act) (w : World) (ro : Option Nat) (nn : Nat) (QQ : Exit -> Act -> World -> Prop), ZRel S w0 B β s a w ->
      (∀ β' a' w', ZRel S w0 B β' s' a' w' -> ZPost S w0 β s.n s.M w β' s'.n s'.M w' -> lo.wpIn (FW ro) nn P a' w' (QQ .normal) QQ) -> (Code.region id arr true).wpIn (FW ro) nn P QQ a w := by
  unfold zdraw at h; split at h
  . rename_i hdraw
    split at h
    . rename_i De hl
      split at h
      . rename_i hck
        cases h; have fa := drawFacts hdraw; obtain ⟨D, d0, d1, d2⟩ := lfold_trace _ ops 0 _ _ hl; simp only [Nat.zero_add] at d1 d2; have tr : Trace E cf yf ops D := fun i o ho => zdstep_inv (d2 i o ho)
        have hn : (D 0).s.n = (D 0).nk + (ops.filter fun o => isNew (kind o.op)).length := by rw [d0]
        have hnk : (D 0).nk = s.n := by rw [d0]
        have hdf : De.s.df = s.df := by rw [<- d1, (tr.fix ops.length (Nat.le_refl _)).2, d0]
        have hnt : De.s.nt = s.nt := by rw [<- d1, (tr.fix ops.length (Nat.le_refl _)).1, d0]
        refine ⟨hdf, fun S w0 B β a w ro nn QQ rel hq => ?_⟩
        have hsz : arr.size = ops.length + 1 := by rw [<- Array.length_toList, hops]; simp
        have hal : arr[ops.length]? = some lo := by rw [<- Array.getElem?_toList, hops]; simp
        have hin : ∀ i o, arr[i]? = some o -> i < ops.length -> ops[i]? = some o := fun i o ho hi => by
          rw [<- Array.getElem?_toList, hops, List.getElem?_append_left hi] at ho; exact ho
        unfold lastBinds at hlast; rw [Array.getElem?_toList, hal] at hlast; dsimp only at hlast
        rw [Bool.and_eq_true, List.all_eq_true, List.all_eq_true] at hlast
        have hlb : ∀ k, k < ops.length -> ∃ e ∈ lo.after, Region.binds .any e = true /\ e.on = k := fun k hk => by
          have := hlast.1 k (List.mem_range.2 hk); exact mem_binds.1 (inN_true.1 this)
        have hlb2 : ∀ e ∈ lo.after, Region.binds .any e = true -> e.on < ops.length := fun e he hb => blt_true (hlast.2 _ (mem_binds.2 ⟨e, he, hb, rfl⟩))
        have pq : ZPost S w0 β s.n s.M w β s.n s.M { w with drawn := w.drawn + 1 } := ZPost.quiet rel.mem rfl rfl rfl (Nat.le_refl _) (fun _ _ => rfl)
        obtain ⟨β1, hβ1⟩ : ∃ β1 : Nat -> Loc, β1 = fun k => if k < s.n then β k else ⟨0, 0, 0, false⟩ := ⟨_, rfl⟩
        have hlt : ∀ k, k < s.n -> β1 k = β k := fun k hk => by rw [hβ1]; simp [hk]
        have hkey : ∀ k, Key β s.n k -> β1 k = β k := fun k hk => hlt k hk.1
        have hk0 : ∀ k o, s.M.get k = some o -> β1 k = β k := fun k o h => hkey k (pq.mem.key k o h).1
        have hN : s.n <= (D 0).s.n := by omega
        have m1 : ZPost S w0 β s.n s.M { w with drawn := w.drawn + 1 } β1 (D 0).s.n s.M { w with drawn := w.drawn + 1 } := by
          have m := pq.mem; refine ⟨⟨m.os, m.tape, m.output, m.size, m.old, m.sub, fun k o h => ?_, fun k o h hw => by rw [hk0 k o h]; exact m.own k o h hw, fun i k oi ok' hi hk' hw e => ?_, fun k T h d hh => by rw [hk0 k _ hh]; exact m.low k T h d hh⟩, hN, hlt, Nat.le_refl _, fun _ _ _ => rfl, fun k o h _ => h, fun k o h hw => .inl ⟨k, o, h, hw, by rw [hk0 k o h]⟩⟩
          . obtain ⟨g1, g2, g3⟩ := m.key k o h; rw [hk0 k o h]; exact ⟨g1.mono hkey hN, g2, g3.mono hkey hN rfl⟩
          . rw [hk0 i oi hi, hk0 k ok' hk'] at e; exact m.inj i k oi ok' hi hk' hw e
        refine wpIn_region_any ok.tab.mix (any_inv (fun L a' w' => (L ops.length -> QQ .normal a' w') /\ (¬ L ops.length -> ∃ j β' tL, DI E ops D S w0 { w with drawn := w.drawn + 1 } β s.n s.M a L a' w' j β' tL)) ?_ ?_ ?_ ?_ arr.size (Array.replicate arr.size false) a _ (by simp) ?_ ?_ ?_)
        . rintro L L' a' w' hLL ⟨hi1, hi2⟩; have hll := hLL ops.length (by omega)
          refine ⟨fun h => hi1 (hll.2 h), fun h => ?_⟩
          obtain ⟨j, β', tL, di⟩ := hi2 fun h' => h (hll.1 h')
          exact ⟨j, β', tL, di.congr fun k hk => hLL k (by omega)⟩
        . intro i o ho e he hb; by_cases hi : i < ops.length
          . have ho' := hin i o ho hi; exact fa.below i e.on ((Rof_spec ho').1 _ (mem_binds.2 ⟨e, he, hb, rfl⟩))
          . have hi' : i < arr.size := (Array.getElem?_eq_some_iff.1 ho).1; have : i = ops.length := by omega
            subst this; rw [hal] at ho; cases ho; exact hlb2 e he hb
        . rintro L i o a' w' ho hni hpre hcl ⟨hi1, hi2⟩; have hi' : i < arr.size := (Array.getElem?_eq_some_iff.1 ho).1; by_cases hi : i < ops.length
          . have ho' := hin i o ho hi
            have hnl : ¬ L ops.length := fun h => by
              obtain ⟨e, he, hb, hon⟩ := hlb i hi; have := hcl ops.length lo hal h e he hb; rw [hon] at this; exact hni this
            obtain ⟨j, β', tL, di⟩ := hi2 hnl
            have hcl' : ∀ k ok', ops[k]? = some ok' -> L k -> ∀ x ∈ binds ok', L x := fun k ok' hk hLk x hx => by
              obtain ⟨e, he, hb, rfl⟩ := mem_binds.1 hx; exact hcl k ok' (by rw [<- Array.getElem?_toList, hops]; exact get_app hk) hLk e he hb
            have hclR : ∀ k, L k -> ∀ x ∈ Rof ops k, L x := fun k hk x hx => by
              cases hok : ops[k]? with
              | none =>
                have hlen := (reach_get ops []).2.1
                have : Rof ops k = [] := by
                  unfold Rof; rw [List.getElem?_eq_none (by rw [hlen]; have := List.getElem?_eq_none_iff.1 hok; simpa using this)]
                  rfl
                rw [this] at hx; cases hx
              | some ok' => exact closed_Rof fa hcl' k ok' hok (hcl' k ok' hok hk) x hx
            have hR' : ∀ x ∈ Rof ops i, L x := closed_Rof fa hcl' i o ho' fun x hx => by
              obtain ⟨e, he, hb, rfl⟩ := mem_binds.1 hx; exact hpre e he hb
            have st := di.step ok hc hy tr fa pq.mem.size (by rw [d0]) hn (by omega) (by rw [d0]) (by rw [d1]; exact hck) hops ho' hni hclR hR' (ro := ro) (nn := nn) (QQ := QQ)
            have hmono : ∀ (K K' : Act -> World -> Prop), (∀ a w, K a w -> K' a w) -> wpOpIn (FW ro) nn P arr QQ i K a' w' -> wpOpIn (FW ro) nn P arr QQ i K' a' w' := by
              intro K K' hK h; unfold wpOpIn at h ⊢; rw [ho] at h ⊢; dsimp only at h ⊢
              split at h
              . rename_i hw; rw [if_pos hw]; exact Oper.wpIn_mono hK h
              . rename_i hw; rw [if_neg hw]; exact ⟨h.1, hK _ _ h.2⟩
            refine hmono _ _ (fun a'' w'' hd => ⟨fun h => ?_, fun _ => hd⟩) st
            rcases h with h | h
            . exact absurd h hnl
            . omega
          . have : i = ops.length := by omega
            subst this; rw [hal] at ho; cases ho; obtain ⟨j, β', tL, di⟩ := hi2 hni
            have hall : ∀ k, k < ops.length -> L k := fun k hk => by
              obtain ⟨e, he, hb, hon⟩ := hlb k hk; have := hpre e he hb; rw [hon] at this; exact this
            obtain ⟨p1, t1⟩ := di.finish tr fa pq.mem.size (by rw [d0]) hall
            rw [d1] at p1 t1; have pall := pq.trans p1; unfold wpOpIn; rw [hal]; dsimp only
            rw [if_pos (by unfold Region.wanted; rw [hg])]
            refine Oper.wpIn_mono (fun a'' w'' hK => ⟨fun _ => hK, fun h => absurd (.inr rfl) h⟩) (hq β' a' w' ⟨p1.mem, t1, ?_, ?_, Nat.le_trans rel.lo pall.size⟩ pall)
            . rw [di.nt, d0]; exact hnt.symm
            . rw [di.df]; show DRel S B β' De.s.n _ w' De.s.df a.defers; rw [hdf]; exact rel.df.post pall
        . rintro L a' w' hall ⟨hi1, _⟩; exact hi1 (hall _ (by omega))
        . simp only [Array.getD_eq_getD_getElem?]
          rw [List.filter_eq_self.2 (fun k hk => by
            have := List.mem_range.1 hk; rw [Array.getElem?_replicate, if_pos this]; rfl)]
          simp
        . intro k ok' hk hkl; have := (Array.getElem?_eq_some_iff.1 hk).1; rw [Array.getD_eq_getD_getElem?, Array.getElem?_replicate, if_pos this] at hkl; cases hkl
        . have none : ∀ k, ¬ ((Array.replicate arr.size false).getD k false = true) := by
            intro k hk; rw [Array.getD_eq_getD_getElem?, Array.getElem?_replicate] at hk; split at hk <;> cases hk
          refine ⟨fun h => absurd h (none _), fun _ => ⟨0, β1, s.t, ⟨Nat.zero_le _, fun e o _ _ => ⟨fun h => absurd h (none e), fun h => by omega⟩, ?_, Nat.le_refl _, rfl, ?_, ?_, fun d q o _ h => absurd h (none q), fun d _ => by rw [d0], fun p o ho hnw _ => ?_, fun p κ ob h => absurd h (none p), fun p κ ob p' κ' ob' h => absurd h (none p)⟩⟩⟩
          . have : (D 0).s.M = s.M := by rw [d0]
            rw [this]; exact m1
          . rw [rel.nt, d0]
          . exact rel.tm.mono hkey hN
          . have := (tr.reserved hn ho hnw).1; rw [hβ1]; simp only; rw [if_neg (by omega)]
      . cases h
    . cases h
  . cases h
end
end Go.Z
namespace Go.Z
open Go.Eng (TI TD DV DRep DRows DCells Snap nth upd slice' splice TabOk tiOk tdOk TFacts FW)
theorem roP_get (p : Pa) : ∀ (t : Tri ZO), getP p t.roT = (getP p t).bind roO := by
  induction p with
  | h =>
    intro t
    cases t with
    | e => rfl
    | n v => cases v <;> rfl
  | d0 p ih => intro t; cases t with
    | e => rfl
    | n v => exact ih _
  | d1 p ih => intro t; cases t with
    | e => rfl
    | n v => exact ih _
  | d2 p ih => intro t; cases t with
    | e => rfl
    | n v => exact ih _
  | d3 p ih => intro t; cases t with
    | e => rfl
    | n v => exact ih _
  | d4 p ih => intro t; cases t with
    | e => rfl
    | n v => exact ih _
  | d5 p ih => intro t; cases t with
    | e => rfl
    | n v => exact ih _
  | d6 p ih => intro t; cases t with
    | e => rfl
    | n v => exact ih _
  | d7 p ih => intro t; cases t with
    | e => rfl
    | n v => exact ih _
theorem Tri.roT_get (t : Tri ZO) (j : Nat) : t.roT.get j = (t.get j).bind roO := roP_get _ t
section
variable {S : Snap} {β β0 β' : Nat -> Loc} {n n0 N n' : Nat}
theorem Key.down {j : Nat} (h0 : Key β0 n0 j) (h : Key β N j) : Key β n0 j := ⟨h0.1, h.2⟩
mutual
theorem VRel_down : ∀ (z : ZV) (v0 v : Value), VRel S β0 n0 z v0 -> VRel S β N z v -> VRel S β n0 z v
  | .int _ _, _, v, _, r => by simpa [VRel] using r
  | .bool _, _, v, _, r => by simpa [VRel] using r
  | .str _ _, _, v, _, r => by simpa [VRel] using r
  | .raw _, _, v, _, r => by simpa [VRel] using r
  | .dsl _ _, _, v, _, r => by rw [VRel] at r ⊢; exact r
  | .dpt _ _ _ _, _, v, _, r => by rw [VRel] at r ⊢; exact r
  | .any, _, v, _, r => by rw [VRel]; exact True.intro
  | .ptr j _, _, v, r0, r => by
    rw [VRel] at r0 r ⊢; exact ⟨r0.1.down r.1, r.2⟩
  | .sl _ j _ _ _, _, v, r0, r => by
    rw [VRel] at r0 r ⊢; exact ⟨r0.1.down r.1, r.2⟩
  | .mp j, _, v, r0, r => by
    rw [VRel] at r0 r ⊢; exact ⟨r0.1.down r.1, r.2⟩
  | .yl j, _, v, r0, r => by
    rw [VRel] at r0 r ⊢; exact ⟨r0.1.down r.1, r.2⟩
  | .fn _ fs caps, _, v, r0, r => by
    rw [VRel] at r0 r ⊢; obtain ⟨a0, b0, _, k2, k3⟩ := r0; obtain ⟨a, b, h1, h2, h3⟩ := r; exact ⟨a, b, h1, VRels_down fs _ _ k2 h2, VRels_down caps _ _ k3 h3⟩
  | .ifc _ z, _, v, r0, r => by
    rw [VRel] at r0 r ⊢; obtain ⟨u0, _, k2⟩ := r0; obtain ⟨u, h1, h2⟩ := r; exact ⟨u, h1, VRel_down z _ _ k2 h2⟩
  | .agg l, _, v, r0, r => by
    rw [VRel] at r0 r ⊢; obtain ⟨u0, _, k2⟩ := r0; obtain ⟨u, h1, h2⟩ := r; exact ⟨u, h1, VRels_down l _ _ k2 h2⟩
  | .tup l, _, v, r0, r => by
    rw [VRel] at r0 r ⊢; obtain ⟨u0, _, k2⟩ := r0; obtain ⟨u, h1, h2⟩ := r; exact ⟨u, h1, VRels_down l _ _ k2 h2⟩
theorem VRels_down : ∀ (z : List ZV) (v0 v : List Value), VRels S β0 n0 z v0 -> VRels S β N z v -> VRels S β n0 z v
  | [], _, v, _, r => by rw [VRels] at r ⊢; exact r
  | z :: zs, _, v, r0, r => by
    rw [VRels] at r0 r ⊢; obtain ⟨a0, as0, _, k2, k3⟩ := r0; obtain ⟨a, as, h1, h2, h3⟩ := r; exact ⟨a, as, h1, VRel_down z _ _ k2 h2, VRels_down zs _ _ k3 h3⟩
end
end
section
variable {E : Env} {cf yf : CF}
theorem zfin_slots {o : Oper} {s s' : ZS} {r : ZR} (h : zfin cf yf o s r = some s') : s'.nt = s.nt /\ ∀ d, o.dst ≠ some d -> s'.t.get d = s.t.get d := by
  have key : ∀ {s0 s' : ZS} {v : ZV} {M : Tri ZO} {n : Nat}, zput s0 o.dst v M n = some s' -> s'.nt = s0.nt /\ ∀ d, o.dst ≠ some d -> s'.t.get d = s0.t.get d := by
    intro s0 s' v M n h; obtain ⟨rfl, _⟩ := zput_eq h; exact ⟨rfl, fun d hd => by show (setD s0.t o.dst v).get d = _; rw [setD_get, if_neg hd]⟩
  cases r with
  | ok v M n => exact key h
  | call f args =>
    simp only [zfin] at h; split at h
    . exact key h
    . cases h
  | yld f args =>
    simp only [zfin] at h; split at h
    . exact key h
    . cases h
  | dfr f args => exact key (s0 := ⟨s.t, s.nt, s.M, s.n, (f, args) :: s.df⟩) h
  | rcv => cases h
  | bad k => cases h
theorem zops_slots {all : List Oper} : ∀ (os : List Oper) (s s' : ZS), lfold (zstep E cf yf all) os s = some s' -> s'.nt = s.nt /\ ∀ d, d ∉ dsts os -> s'.t.get d = s.t.get d
  | [], s, s', h => by cases h; exact ⟨rfl, fun _ _ => rfl⟩
  | o :: os, s, s', h => by
    rw [lfold_cons] at h; split at h
    . rename_i s1 h1
      obtain ⟨g1, g2⟩ := zops_slots os s1 s' h
      have h2 : s1.nt = s.nt /\ ∀ d, o.dst ≠ some d -> s1.t.get d = s.t.get d := by
        unfold zstep at h1; split at h1
        . exact zfin_slots h1
        . obtain ⟨rfl, _⟩ := zput_eq h1; exact ⟨rfl, fun d hd => by show (setD s.t o.dst zundef).get d = _; rw [setD_get, if_neg hd]⟩
        . cases h1
      refine ⟨g1.trans h2.1, fun d hd => ?_⟩
      have e1 : o.dst ≠ some d := fun e => hd (by unfold dsts; rw [List.filterMap_cons, e]; simp)
      have e2 : d ∉ dsts os := fun h' => hd (by
        unfold dsts at h' ⊢; rw [List.filterMap_cons]; split
        . exact h'
        . exact List.mem_cons_of_mem _ h')
      rw [g2 d e2, h2.2 d e1]
    . cases h
theorem zdraw_slots {ops : List Oper} {s s' : ZS} (h : zdraw E cf yf ops s = some s') : s'.nt = s.nt /\ ∀ d, d ∉ dsts ops -> s'.t.get d = s.t.get d := by
  unfold zdraw at h; split at h
  . split at h
    . rename_i De hl
      split at h
      . cases h; obtain ⟨D, d0, d1, d2⟩ := lfold_trace _ ops 0 _ _ hl; simp only [Nat.zero_add] at d1 d2; have tr : Trace E cf yf ops D := fun i o ho => zdstep_inv (d2 i o ho)
        refine ⟨by show De.s.nt = _; rw [<- d1, (tr.fix ops.length (Nat.le_refl _)).1, d0], fun d hd => ?_⟩
        show De.s.t.get d = _; rw [<- d1, tr.still ops.length (Nat.zero_le _) (Nat.le_refl _) (fun q o _ _ ho e => hd ?_), d0]
        exact List.mem_filterMap.2 ⟨o, List.mem_of_getElem? ho, e⟩
      . cases h
    . cases h
  . cases h
end
theorem anys_get : ∀ (l : List Nat) (t : Tri ZV) (d : Nat), (anys l t).get d = if d ∈ l then some .any else t.get d
  | [], t, d => by simp [anys]
  | i :: l, t, d => by
    show (anys l (t.set i (some .any))).get d = _; rw [anys_get l, Tri.get_set]; by_cases h : d ∈ l
    . simp [h]
    . by_cases e : i = d
      . subst e; simp
      . have e' : ¬ d = i := fun h' => e h'.symm
        simp [h, e, e']
theorem addR_get (M' : Tri ZO) : ∀ (k lo : Nat) (A : Tri ZO) (j : Nat), (addR M' k lo A).get j = if lo <= j /\ j < lo + k then M'.get j else A.get j
  | 0, lo, A, j => by rw [addR, if_neg (by omega)]
  | k + 1, lo, A, j => by
    rw [addR, addR_get M' k, Tri.get_set]; by_cases h : lo = j
    . subst h; rw [if_neg (by omega), if_pos rfl, if_pos (by omega)]
    . rw [if_neg h]; by_cases h2 : Nat.succ lo <= j /\ j < Nat.succ lo + k
      . rw [if_pos h2, if_pos (by omega)]
      . rw [if_neg h2, if_neg (by omega)]
inductive Rngs : Nat -> List RR -> Nat -> Prop
  | nil {n : Nat} : Rngs n [] n
  | cons {r : RR} {l : List RR} {n : Nat} : r.lo <= r.hi -> Rngs r.hi l n -> Rngs r.lo (r :: l) n
theorem Rngs.le {a b : Nat} {l : List RR} (h : Rngs a l b) : a <= b := by
  induction h with
  | nil => exact Nat.le_refl _
  | cons h _ ih => omega
theorem Rngs.at {a b : Nat} {l : List RR} (h : Rngs a l b) : ∀ (i : Nat) (r : RR), l[i]? = some r -> a <= r.lo /\ r.lo <= r.hi /\ r.hi <= b := by
  induction h with
  | nil => intro i r hr; simp at hr
  | cons h g ih =>
    intro i r hr
    cases i with
    | zero =>
      simp at hr; subst hr; exact ⟨Nat.le_refl _, h, g.le⟩
    | succ i =>
      obtain ⟨h1, h2, h3⟩ := ih i r (by simpa using hr)
      exact ⟨by omega, h2, h3⟩
theorem Rngs.apart {a b : Nat} {l : List RR} (h : Rngs a l b) : ∀ (i k : Nat) (r q : RR) (j : Nat), l[i]? = some r -> l[k]? = some q -> r.lo <= j -> j < r.hi -> q.lo <= j -> j < q.hi -> i = k := by
  induction h with
  | nil => intro i k r q j hr; simp at hr
  | cons h g ih =>
    intro i k r q j hr hq h1 h2 h3 h4
    cases i with
    | zero =>
      cases k with
      | zero => rfl
      | succ k =>
        simp at hr; subst hr; have := (g.at k q (by simpa using hq)).1
        omega
    | succ i =>
      cases k with
      | zero =>
        simp at hq; subst hq; have := (g.at i r (by simpa using hr)).1
        omega
      | succ k => rw [ih i k r q j (by simpa using hr) (by simpa using hq) h1 h2 h3 h4]
theorem addRs_get : ∀ (l : List RR) (a b : Nat) (A : Tri ZO) (j : Nat), Rngs a l b -> ((∀ (i : Nat) (r : RR), l[i]? = some r -> r.lo <= j -> j < r.hi -> (addRs l A).get j = r.M.get j) /\ ((∀ (i : Nat) (r : RR), l[i]? = some r -> ¬ (r.lo <= j /\ j < r.hi)) -> (addRs l A).get j = A.get j))
  | [], a, b, A, j, h => ⟨fun i r hr => by simp at hr, fun _ => rfl⟩
  | r :: l, a, b, A, j, h => by
    cases h with
    | cons h g =>
      obtain ⟨ih1, ih2⟩ := addRs_get l _ _ (addR r.M (r.hi - r.lo) r.lo A) j g; refine ⟨fun i q hq h1 h2 => ?_, fun hn => ?_⟩
      . cases i with
        | zero =>
          simp at hq; subst hq; show (addRs l (addR r.M (r.hi - r.lo) r.lo A)).get j = _; rw [ih2 fun i q hq hh => by have := (g.at i q hq).1; omega, addR_get, if_pos (by omega)]
        | succ i => exact ih1 i q (by simpa using hq) h1 h2
      . show (addRs l (addR r.M (r.hi - r.lo) r.lo A)).get j = _; rw [ih2 fun i q hq hh => hn (i + 1) q (by simpa using hq) hh, addR_get, if_neg (fun hh => hn 0 r rfl ⟨hh.1, by omega⟩)]
theorem distinctB_sound : ∀ {es : List ZEnt}, distinctB es = true -> distinct es
  | [], _ => trivial
  | e :: es, h => by
    rw [distinctB, Bool.and_eq_true, List.all_eq_true] at h; refine ⟨fun x hx => ?_, distinctB_sound h.2⟩
    have := h.1 x hx; split at this
    . assumption
    . cases this
theorem zfind_at {k : ZV} : ∀ {es : List ZEnt} {i p : Nat} {e : ZEnt}, distinct es -> es[i]? = some e -> e.key = k -> zkeyEq k k = some true -> zfind k es p = some (some (p + i, e))
  | [], i, p, e, _, h, _, _ => by simp at h
  | x :: es, 0, p, e, _, h, hk, hh => by
    simp at h; subst h; simp only [zfind, hk, hh, Nat.add_zero]
  | x :: es, i + 1, p, e, hd, h, hk, hh => by
    have h : es[i]? = some e := by simpa using h
    have h1 := zkeyEq_comm (hd.1 e (List.mem_of_getElem? h)); rw [hk] at h1; simp only [zfind, h1]; rw [zfind_at hd.2 h hk hh]; congr 3; omega
theorem zfind_no {k : ZV} : ∀ {es : List ZEnt} {p : Nat}, (∀ x ∈ es, zkeyEq k x.key = some false) -> zfind k es p = some none
  | [], _, _ => rfl
  | x :: es, p, h => by
    simp only [zfind, h x (by simp)]
    exact zfind_no fun y hy => h y (by simp [hy])
theorem zmapPut_of {E : Env} {U X : Nat} {k v : ZV} {M1 M2 : Tri ZO} {n1 n2 : Nat} {r : ZV} (h : zmapPut E U (.mp X) k v M1 n1 = .ok r M2 n2) {M : Tri ZO} {n : Nat} {o o' : ZO} (hM : M.get X = some o) (ho : zmapSet k v o = some o') : zmapPut E U (.mp X) k v M n = .ok zundef (M.set X (some o')) n := by
  unfold zmapPut zmap at h ⊢
  cases hT : (E.tab U).d with
  | map kt e =>
    simp only [hT] at h ⊢
    cases h1 : zbadT (E.tab e).d with
    | true => simp only [h1] at h; cases h
    | false =>
      simp only [h1] at h ⊢
      cases h2 : zbadT (E.tab kt).d with
      | true => simp only [h2] at h; cases h
      | false =>
        simp only [h2] at h ⊢
        cases h3 : zkeyOk (E.tab kt).d k with
        | true => simp only [zwhen, hM, ho]
        | false => rw [h3] at h; cases h
  | _ => simp only [hT] at h; cases h
end Go.Z
namespace Go.Z
open Go.Eng (TI TD DV DRep DRows DCells Snap nth upd slice' splice TabOk tiOk tdOk TFacts FW)
section
variable {P : Program} {S : Snap} {w0 wS w w' w2 : World} {β0 β β' β2 : Nat -> Loc} {n0 n n' n2 N : Nat} {M0 M M' M2 : Tri ZO}
theorem ZMem.stay (m : ZMem S w0 β n M w) (m2 : ZMem S w0 β2 n2 M2 w') (hsz : w.heap.size <= w'.heap.size) (hn : n <= n') (hβ : ∀ j, Key β n j -> β' j = β j) (hh : ∀ k o, M.get k = some o -> w'.heap[(β k).b]? = w.heap[(β k).b]?) : ZMem S w0 β' n' M w' := by
  have hk : ∀ k o, M.get k = some o -> β' k = β k := fun k o h => hβ k (m.key k o h).1
  refine ⟨m2.os, m2.tape, m2.output, m2.size, m2.old, m.sub, fun k o h => ?_, fun k o h hw => by rw [hk k o h]; exact m.own k o h hw, fun i k oi ok' hi hk' hw e => ?_, fun k T h d hh => by rw [hk k _ hh]; exact m.low k T h d hh⟩
  . obtain ⟨g1, g2, g3⟩ := m.key k o h; rw [hk k o h]; exact ⟨g1.mono hβ hn, Nat.lt_of_lt_of_le g2 hsz, g3.mono hβ hn (hh k o h)⟩
  . rw [hk i oi hi, hk k ok' hk'] at e; exact m.inj i k oi ok' hi hk' hw e
theorem ZPost.raise (m : ZMem S w0 β n M w) (hN : n <= N) (hβ : ∀ k, k < n -> β' k = β k) : ZPost S w0 β n M w β' N M w := by
  have hkey : ∀ k, Key β n k -> β' k = β k := fun k hk => hβ k hk.1
  have hk : ∀ k o, M.get k = some o -> β' k = β k := fun k o h => hkey k (m.key k o h).1
  exact ⟨m.stay m (Nat.le_refl _) hN hkey fun _ _ _ => rfl, hN, hβ, Nat.le_refl _, fun _ _ _ => rfl, fun k o h _ => h, fun k o h hw => .inl ⟨k, o, h, hw, by rw [hk k o h]⟩⟩
theorem ZPost.poke (tot : ZPost S w0 β0 n0 M0 wS β N M w) (hS : w0.heap.size <= wS.heap.size) {x : Nat} (hx : wS.heap.size <= x) (hne : ∀ k o, M.get k = some o -> (β k).b ≠ x) (hos : w2.os = w.os) (htp : w2.tape = w.tape) (hout : w2.output = w.output) (hsz : w2.heap.size = w.heap.size) (hh : ∀ b, b ≠ x -> w2.heap[b]? = w.heap[b]?) :
    ZPost S w0 β0 n0 M0 wS β N M w2 := by
  have m := tot.mem; refine ⟨⟨hos.trans m.os, htp.trans m.tape, hout.trans m.output, by rw [hsz]; exact m.size, fun b hb => (hh b (by omega)).trans (m.old b hb), m.sub, fun k o h => ?_, m.own, m.inj, m.low⟩, tot.nn, tot.keep0, by rw [hsz]; exact tot.size, fun b hb h => (hh b (by omega)).trans (tot.frame b hb h), tot.rd, tot.wr⟩
  obtain ⟨g1, g2, g3⟩ := m.key k o h; exact ⟨g1, by omega, g3.mono (fun _ _ => rfl) (Nat.le_refl _) (hh _ (hne k o h))⟩
theorem merge_run (tot : ZPost S w0 β0 n0 M0 wS β N M w) {lo hi : Nat} {Mr Mr' : Tri ZO} (p : ZPost S w0 β lo Mr w β' hi Mr' w') (mr : ZMem S w0 β lo Mr w) (hro : ∀ k o, Mr.get k = some o -> isW o = false) (hlo : n0 <= lo) (hhi : hi <= N) (hres : ∀ k, lo <= k -> k < hi -> (β k).k = false)
    {M'' : Tri ZO} (hM : ∀ k, M''.get k = if lo <= k /\ k < hi then Mr'.get k else M.get k) :
    ∃ β'', (∀ k, β'' k = if lo <= k /\ k < hi then β' k else β k) /\ ZPost S w0 β0 n0 M0 wS β'' N M'' w' /\ (∀ b, b < w.heap.size -> w'.heap[b]? = w.heap[b]?) /\ (∀ k, Key β N k -> β'' k = β k) /\ (∀ k, Key β' hi k -> β'' k = β' k) /\ ∀ k o, lo <= k -> k < hi -> Mr'.get k = some o -> w.heap.size <= (β' k).b := by
  have hfr : ∀ b, b < w.heap.size -> w'.heap[b]? = w.heap[b]? := fun b hb => p.frame b hb fun k o h hw => by rw [hro k o h] at hw; cases hw
  obtain ⟨β'', hβ⟩ : ∃ β'' : Nat -> Loc, ∀ k, β'' k = if lo <= k /\ k < hi then β' k else β k := ⟨fun k => if lo <= k /\ k < hi then β' k else β k, fun _ => rfl⟩
  have hold : ∀ k, Key β N k -> β'' k = β k := fun k hk => by
    rw [hβ]; by_cases h : lo <= k /\ k < hi
    . exact absurd hk.2 (by rw [hres k h.1 h.2]; simp)
    . rw [if_neg h]
  have hnew : ∀ k, Key β' hi k -> β'' k = β' k := fun k hk => by
    rw [hβ]; by_cases h : lo <= k
    . rw [if_pos ⟨h, hk.1⟩]
    . rw [if_neg (fun h' => h h'.1), p.keep0 k (by omega)]
  have hW : ∀ k o, lo <= k -> Mr'.get k = some o -> isW o = true /\ w.heap.size <= (β' k).b := fun k o hk h => by
    cases hw : isW o with
    | false =>
      have := (mr.key k o (p.rd k o h hw)).1.1; omega
    | true =>
      refine ⟨rfl, ?_⟩; rcases p.wr k o h hw with ⟨i, oi, g1, g2, _⟩ | g
      . rw [hro i oi g1] at g2; cases g2
      . exact g
  have cases_ : ∀ k o, M''.get k = some o -> (lo <= k /\ k < hi /\ Mr'.get k = some o) \/ (¬ (lo <= k /\ k < hi) /\ M.get k = some o) := fun k o h => by
    rw [hM] at h; by_cases hk : lo <= k /\ k < hi
    . rw [if_pos hk] at h; exact .inl ⟨hk.1, hk.2, h⟩
    . rw [if_neg hk] at h; exact .inr ⟨hk, h⟩
  have m := tot.mem; refine ⟨β'', hβ, ⟨⟨p.mem.os, p.mem.tape, p.mem.output, p.mem.size, p.mem.old, m.sub, fun k o h => ?_, fun k o h hw => ?_, fun i k oi ok' hi' hk' hw e => ?_, fun k T h d hg => ?_⟩, tot.nn, fun k hk => ?_, Nat.le_trans tot.size p.size, fun b hb h => ?_, fun k o h hw => ?_, fun k o h hw => ?_⟩, hfr, hold, hnew, fun k o h1 _ h => (hW k o h1 h).2⟩
  . rcases cases_ k o h with ⟨h1, h2, h3⟩ | ⟨h1, h2⟩
    . obtain ⟨g1, g2, g3⟩ := p.mem.key k o h3; rw [hnew k g1]; exact ⟨g1.mono hnew hhi, g2, g3.mono hnew hhi rfl⟩
    . obtain ⟨g1, g2, g3⟩ := m.key k o h2; rw [hold k g1]; exact ⟨g1.mono hold (Nat.le_refl _), Nat.lt_of_lt_of_le g2 p.size, g3.mono hold (Nat.le_refl _) (hfr _ g2)⟩
  . rcases cases_ k o h with ⟨h1, h2, h3⟩ | ⟨h1, h2⟩
    . rw [hnew k (p.mem.key k o h3).1]; exact p.mem.own k o h3 hw
    . rw [hold k (m.key k o h2).1]; exact m.own k o h2 hw
  . rcases cases_ i oi hi' with ⟨h1, h2, h3⟩ | ⟨h1, h2⟩
    . rw [hnew i (p.mem.key i oi h3).1] at e; rcases cases_ k ok' hk' with ⟨k1, k2, k3⟩ | ⟨k1, k2⟩
      . rw [hnew k (p.mem.key k ok' k3).1] at e; exact p.mem.inj i k oi ok' h3 k3 hw e
      . rw [hold k (m.key k ok' k2).1] at e; have := (hW i oi h1 h3).2; have := (m.key k ok' k2).2.1; omega
    . rw [hold i (m.key i oi h2).1] at e; rcases cases_ k ok' hk' with ⟨k1, k2, k3⟩ | ⟨k1, k2⟩
      . rw [hnew k (p.mem.key k ok' k3).1] at e; have := (hW k ok' k1 k3).2; have := (m.key i oi h2).2.1; omega
      . rw [hold k (m.key k ok' k2).1] at e; exact m.inj i k oi ok' h2 k2 hw e
  . rcases cases_ k _ hg with ⟨h1, h2, h3⟩ | ⟨h1, h2⟩
    . rw [hnew k (p.mem.key k _ h3).1]; exact p.mem.low k T h d h3
    . rw [hold k (m.key k _ h2).1]; exact m.low k T h d h2
  . rw [hβ, if_neg (by omega)]; exact tot.keep0 k hk
  . exact (hfr b (Nat.lt_of_lt_of_le hb tot.size)).trans (tot.frame b hb h)
  . rcases cases_ k o h with ⟨h1, h2, h3⟩ | ⟨h1, h2⟩
    . rw [(hW k o h1 h3).1] at hw; cases hw
    . exact tot.rd k o h2 hw
  . rcases cases_ k o h with ⟨h1, h2, h3⟩ | ⟨h1, h2⟩
    . right
      rw [hnew k (p.mem.key k o h3).1]; exact Nat.le_trans tot.size (hW k o h1 h3).2
    . rw [hold k (m.key k o h2).1]; exact tot.wr k o h2 hw
theorem DRel.marks {B : Nat} {ds : List Deferred} (h : DRel S B β n M w [] ds) (m : ZMem S w0 β' n' M' w) : DRel S B β' n' M' w [] ds := by
  generalize hd : ([] : List (Nat × List ZV)) = df at h
  induction h with
  | nil => exact .nil
  | mark h1 h0 h2 h3 h4 h5 _ ih =>
    subst hd; refine .mark h1 h0 h2 h3 (fun k o hk hw e => ?_) h5 (ih rfl)
    obtain ⟨_, _, g⟩ := m.key k o hk; rw [<- e] at h3
    cases o with
    | cells T lo hh d => obtain ⟨_, g, _⟩ := g; rw [g] at h3; cases h3
    | ro T lo hh d => cases hw
    | map c es => obtain ⟨_, g, _⟩ := g; rw [g] at h3; cases h3
    | umap es => obtain ⟨_, _, _, g, _⟩ := g; rw [g] at h3; cases h3
    | siter a b c => rw [g.2] at h3; cases h3
    | miter k => obtain ⟨_, _, _, _, _, g⟩ := g; rw [g] at h3; cases h3
    | loop p t nt ps a b => obtain ⟨_, g, _⟩ := g; rw [g] at h3; cases h3
  | one => cases hd
end
end Go.Z
namespace Go.Z
open Go.Eng (TI TD DV DRep DRows DCells Snap nth upd slice' splice TabOk tiOk tdOk TFacts FW)
def valAt (l : List RR) (i : Nat) (e : ZEnt) : ZV := match l[i]? with
  | some r => r.v
  | none => e.val
def esD (l : List RR) (D : List Nat) (es : List ZEnt) : List ZEnt := es.zipIdx.map fun p => if p.2 ∈ D then ⟨p.1.key, valAt l p.2 p.1, p.1.born⟩ else p.1
def newE (l : List RR) (es : List ZEnt) (i : Nat) : Option ZEnt := es[i]?.map fun e => ⟨e.key, valAt l i e, 0⟩
def conO (cl : Bool) (c : Nat) (es : List ZEnt) (l : List RR) (D : List Nat) : ZO := match cl with
  | true => .umap (D.filterMap (newE l es))
  | false => .map c (esD l D es)
section
variable {l : List RR} {D : List Nat} {es : List ZEnt} {c : Nat}
theorem esD_get (i : Nat) : (esD l D es)[i]? = es[i]?.map fun e => if i ∈ D then ⟨e.key, valAt l i e, e.born⟩ else e := by
  unfold esD; rw [List.getElem?_map, List.getElem?_zipIdx]; cases es[i]? <;> simp
theorem esD_keys : (esD l D es).map (·.key) = es.map (·.key) := by
  refine List.ext_getElem? fun i => ?_
  rw [List.getElem?_map, List.getElem?_map, esD_get]
  cases es[i]? with
  | none => rfl
  | some e => simp only [Option.map_some]; split <;> rfl
theorem esD_borns : (esD l D es).map (·.born) = es.map (·.born) := by
  refine List.ext_getElem? fun i => ?_
  rw [List.getElem?_map, List.getElem?_map, esD_get]
  cases es[i]? with
  | none => rfl
  | some e => simp only [Option.map_some]; split <;> rfl
theorem distinct_at : ∀ {es : List ZEnt} {i k : Nat} {e x : ZEnt}, distinct es -> es[i]? = some e -> es[k]? = some x -> i ≠ k -> zkeyEq e.key x.key = some false
  | [], i, k, e, x, _, h, _, _ => by simp at h
  | a :: es, 0, 0, e, x, _, _, _, h => absurd rfl h
  | a :: es, 0, k + 1, e, x, hd, h1, h2, _ => by
    simp at h1; subst h1; exact hd.1 x (List.mem_of_getElem? (by simpa using h2))
  | a :: es, i + 1, 0, e, x, hd, h1, h2, _ => by
    simp at h2; subst h2; exact zkeyEq_comm (hd.1 e (List.mem_of_getElem? (by simpa using h1)))
  | a :: es, i + 1, k + 1, e, x, hd, h1, h2, hn => distinct_at hd.2 (by simpa using h1) (by simpa using h2) (by omega)
theorem conO_step {cl : Bool} {i : Nat} {e : ZEnt} {r : RR} (hd : distinct es) (he : es[i]? = some e) (hr : l[i]? = some r) (hi : i ∉ D) (hk : zkeyEq e.key e.key = some true) : zmapSet e.key r.v (conO cl c es l D) = some (conO cl c es l (i :: D)) := by
  cases cl with
  | false =>
    have h1 : zfind e.key (esD l D es) 0 = some (some (i, e)) := by
      have := zfind_at (p := 0) (distinct_keys esD_keys.symm hd) (show (esD l D es)[i]? = some e by rw [esD_get, he]; simp [hi]) rfl hk
      rw [Nat.zero_add] at this; exact this
    simp only [conO, zmapSet, h1]; congr 2; refine List.ext_getElem? fun k => ?_
    rw [List.getElem?_set, esD_get, esD_get]; by_cases e1 : i = k
    . subst e1; rw [if_pos rfl, he]
      have hl : i < (esD l D es).length := by
        unfold esD; simp; exact (List.getElem?_eq_some_iff.1 he).1
      rw [if_pos hl]; simp [valAt, hr]
    . rw [if_neg e1]
      cases es[k]? with
      | none => rfl
      | some x => simp [show ¬ k = i from fun h => e1 h.symm]
  | true =>
    have h1 : zfind e.key (D.filterMap (newE l es)) 0 = some none := by
      refine zfind_no fun x hx => ?_
      obtain ⟨k, hk1, hk2⟩ := List.mem_filterMap.1 hx; unfold newE at hk2
      cases hk3 : es[k]? with
      | none => rw [hk3] at hk2; cases hk2
      | some y =>
        rw [hk3] at hk2; simp at hk2; subst hk2; have hne := distinct_at hd he hk3 (fun e1 => hi (e1 ▸ hk1))
        exact hne
    have h2 : newE l es i = some ⟨e.key, r.v, 0⟩ := by unfold newE; rw [he]; simp [valAt, hr]
    simp only [conO, zmapSet, h1, List.filterMap_cons, h2]
theorem withVals_get : ∀ (es : List ZEnt) (l : List RR) (i : Nat), (withVals es l)[i]? = es[i]?.bind fun e => l[i]?.map fun r => ⟨e.key, r.v, e.born⟩
  | [], l, i => by simp [withVals]
  | e :: es, [], i => by cases i <;> simp [withVals]
  | e :: es, r :: l, 0 => by simp [withVals]
  | e :: es, r :: l, i + 1 => by simp [withVals, withVals_get es l i]
theorem esD_full (hl : l.length = es.length) (h : ∀ i, i < es.length -> i ∈ D) : esD l D es = withVals es l := by
  refine List.ext_getElem? fun i => ?_
  rw [esD_get, withVals_get]
  cases he : es[i]? with
  | none => rfl
  | some e =>
    have hi := (List.getElem?_eq_some_iff.1 he).1; obtain ⟨r, hr⟩ : ∃ r, l[i]? = some r := ⟨_, List.getElem?_eq_getElem (by omega)⟩
    simp [h i hi, hr, valAt]
theorem asNew_eq : ∀ (es pe : List ZEnt) (l pl : List RR), pl.length = pe.length -> l.length = es.length -> (List.range' pe.length es.length).filterMap (newE (pl ++ l) (pe ++ es)) = asNew es l
  | [], pe, l, pl, _, _ => by cases l <;> simp [asNew]
  | e :: es, pe, [], pl, _, h => by simp at h
  | e :: es, pe, r :: l, pl, h, h2 => by
    have ih := asNew_eq es (pe ++ [e]) l (pl ++ [r]) (by simp [h]) (by simpa using h2)
    have h1 : newE (pl ++ r :: l) (pe ++ e :: es) pe.length = some ⟨e.key, r.v, 0⟩ := by
      unfold newE; simp [valAt, <- h]
    rw [List.length_cons, List.range'_succ, List.filterMap_cons, h1]; simp only [List.append_assoc, List.singleton_append, List.length_append, List.length_cons, List.length_nil] at ih; simp only [asNew]; rw [ih]
theorem newD_full (hl : l.length = es.length) (hn : D.Nodup) (hlt : ∀ i ∈ D, i < es.length) (h : ∀ i, i < es.length -> i ∈ D) : (D.filterMap (newE l es)).Perm (asNew es l) := by
  have := asNew_eq es [] l [] rfl hl; simp only [List.nil_append, List.length_nil] at this; rw [<- this]; refine List.Perm.filterMap _ ?_; rw [<- List.range_eq_range']; exact (List.perm_ext_iff_of_nodup hn List.nodup_range).2 fun i => ⟨fun hi => List.mem_range.2 (hlt i hi), fun hi => h i (List.mem_range.1 hi)⟩
end
section
variable {S : Snap} {β : Nat -> Loc} {n : Nat} {w : World} {L : Loc}
theorem ERels_perm {ex : Bool} {es1 es2 : List ZEnt} (h : es1.Perm es2) : ∀ {l1 : List MapEntry}, ERels S β n ex es1 l1 -> ∃ l2, l1.Perm l2 /\ ERels S β n ex es2 l2 := by
  induction h with
  | nil => intro l1 h; exact ⟨l1, .refl _, h⟩
  | cons a _ ih =>
    intro l1 h; rw [ERels] at h; obtain ⟨x, xs, rfl, h1, h2, h3, h4⟩ := h; obtain ⟨l2, g1, g2⟩ := ih h4; exact ⟨x :: l2, .cons _ g1, by rw [ERels]; exact ⟨x, l2, rfl, h1, h2, h3, g2⟩⟩
  | swap a b l =>
    intro l1 h; rw [ERels] at h; obtain ⟨x, xs, rfl, h1, h2, h3, h4⟩ := h; rw [ERels] at h4; obtain ⟨y, ys, rfl, k1, k2, k3, k4⟩ := h4; refine ⟨y :: x :: ys, .swap _ _ _, ?_⟩; rw [ERels]; refine ⟨y, _, rfl, k1, k2, k3, ?_⟩; rw [ERels]; exact ⟨x, ys, rfl, h1, h2, h3, k4⟩
  | trans _ _ ih1 ih2 =>
    intro l1 h; obtain ⟨l2, g1, g2⟩ := ih1 h; obtain ⟨l3, k1, k2⟩ := ih2 g2; exact ⟨l3, g1.trans k1, k2⟩
theorem distinct_perm {es1 es2 : List ZEnt} (h : es1.Perm es2) : distinct es1 -> distinct es2 := by
  induction h with
  | nil => exact id
  | cons a h ih => exact fun hd => ⟨fun x hx => hd.1 x (h.mem_iff.2 hx), ih hd.2⟩
  | swap a b l =>
    rintro ⟨h1, h2, h3⟩; refine ⟨fun x hx => ?_, fun x hx => h1 x (List.mem_cons_of_mem _ hx), h3⟩
    rcases List.mem_cons.1 hx with rfl | hx
    . exact zkeyEq_comm (h1 a (by simp))
    . exact h2 x hx
  | trans _ _ ih1 ih2 => exact fun h => ih2 (ih1 h)
theorem ORel_perm {es1 es2 : List ZEnt} (hp : es1.Perm es2) (h : ORel S β n w L (.umap es1)) : ORel S β n w L (.umap es2) := by
  obtain ⟨a, c, l, h1, h2, h3, h4, h5⟩ := h; obtain ⟨l2, g1, g2⟩ := ERels_perm hp h3; exact ⟨a, c, l2, h1, g1.symm.trans h2, g2, distinct_perm hp h4, h5⟩
theorem ORel_empty {c : Nat} (h : ORel S β n w L (.map c [])) : ORel S β n w L (.umap []) := by
  obtain ⟨a, h1, h2⟩ := h; rw [ERels] at h2; exact ⟨a, c, [], h1, by rw [h2], by rw [ERels], trivial, by rw [h2]; exact ⟨by simp, fun x hx => by simp at hx⟩⟩
theorem ERels_len {ex : Bool} : ∀ {es : List ZEnt} {l : List MapEntry}, ERels S β n ex es l -> l.length = es.length
  | [], l, h => by rw [ERels] at h; rw [h]; rfl
  | e :: es, l, h => by
    rw [ERels] at h; obtain ⟨x, xs, rfl, _, _, _, h⟩ := h; simp [ERels_len h]
theorem ERels_get {ex : Bool} : ∀ {es : List ZEnt} {l : List MapEntry} {i : Nat} {e : ZEnt} {x : MapEntry}, ERels S β n ex es l -> es[i]? = some e -> l[i]? = some x -> VRel S β n e.key x.key /\ VRel S β n e.val x.val /\ (ex = true -> x.born = e.born)
  | [], l, i, e, x, _, h, _ => by simp at h
  | e0 :: es, l, i, e, x, h, h1, h2 => by
    rw [ERels] at h; obtain ⟨x0, xs, rfl, k1, k2, k3, h⟩ := h
    cases i with
    | zero => simp at h1 h2; subst h1 h2; exact ⟨k1, k2, k3⟩
    | succ i => exact ERels_get h (by simpa using h1) (by simpa using h2)
theorem ERels_borns : ∀ {es : List ZEnt} {l : List MapEntry}, ERels S β n true es l -> l.map (·.born) = es.map (·.born)
  | [], l, h => by rw [ERels] at h; rw [h]; rfl
  | e :: es, l, h => by
    rw [ERels] at h; obtain ⟨x, xs, rfl, _, _, h3, h⟩ := h; simp [ERels_borns h, h3 rfl]
end
end Go.Z
