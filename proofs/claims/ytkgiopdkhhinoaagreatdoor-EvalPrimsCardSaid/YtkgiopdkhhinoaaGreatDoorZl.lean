/- The concrete evaluator: results read out; contracts by the evaluator. The tables of a program, as the concrete evaluator wants them. -/
import Derived.Test.YtkgiopdkhhinoaaGreatDoorZk
import Derived.Test.YtkgiopdkhhinoaaGreatDoorXc
import Derived.Lib.Bytealg
set_option linter.all false
namespace Go.Z
open Go.Eng (TI TD DV DRep DRows DCells Snap nth upd slice' splice TabOk tiOk tdOk TFacts FW SV SRep SReps Pure Spec Mem blocksOf Sub lookB blkOf KBs)
noncomputable section
def dall (f : ZV -> Option DV) : List ZV -> Option (List DV)
  | [] => some []
  | z :: zs => match f z, dall f zs with
    | some d, some l => some (d :: l)
    | _, _ => none
def rowsOf (sz : Nat) : Nat -> List DV -> List (List DV)
  | 0, _ => []
  | n + 1, l => l.take sz :: rowsOf sz n (l.drop sz)
def zdeep : Nat -> Tri ZO -> ZV -> Option DV
  | 0, _, _ => none
  | f + 1, M, z => match z with
    | .int k n => some (.int k n)
    | .bool b => some (.bool b)
    | .str l n => some (.str (zbytes l n))
    | .raw v => match v.oneCell' with
      | true => some (.raw v)
      | false => none
    | .dsl sz l => some (.sl sz l)
    | .sl sz j o m _ => match m with
      | 0 => some (.sl sz [])
      | m + 1 => match M.get j with
        | some (.cells _ lo h d) => match Nat.ble lo o, Nat.ble (o + (m + 1) * sz) h, cellsGo d o ((m + 1) * sz) with
          | true, true, some l => match dall (zdeep f M) l with
            | some ds => some (.sl sz (rowsOf sz (m + 1) ds))
            | none => none
          | _, _, _ => none
        | _ => none
    | _ => none
inductive SD where
  | one (d : DV)
  | agg (l : List DV)
def zsd (M : Tri ZO) (z : ZV) : Option SD :=
  match z with
  | .agg l => match dall (zdeep 1000 M) l with
    | some l => some (.agg l)
    | none => none
  | z => match zdeep 1000 M z with
    | some d => some (.one d)
    | none => none
def zsds (M : Tri ZO) : List ZV -> Option (List SD)
  | [] => some []
  | z :: zs => match zsd M z, zsds M zs with
    | some d, some l => some (d :: l)
    | _, _ => none
def zseal (c : Option ZC) : Option (List SD) :=
  match c with
  | some c => match c.v with
    | .tup l => match l with
      | [_] => none
      | l => zsds c.M l
    | z => zsds c.M [z]
  | none => none
def SD.sv : SD -> SV
  | .one d => d.toSV
  | .agg l => .agg (l.map DV.toSV)
def sdsV : List SD -> SV
  | [d] => d.sv
  | l => .tup (l.map SD.sv)
def SD.zv : SD -> ZV
  | .one d => DV.toZV d
  | .agg l => .agg (l.map DV.toZV)
end
section
variable {P : Program} {S : Snap} {w0 w : World} {β : Nat -> Loc} {n : Nat} {M : Tri ZO}
noncomputable def snapN (S : Snap) (w0 w : World) : Snap := fun b => if b < w0.heap.size then S b else w.heap[b]?
theorem dall_sound {f : ZV -> Option DV} {S' : Snap} (hf : ∀ z d v, f z = some d -> VRel S β n z v -> v.oneCell' = true \/ True -> DRep S' d v) : ∀ {zs : List ZV} {ds : List DV} {vs : List Value}, dall f zs = some ds -> VRels S β n zs vs -> DCells S' ds vs /\ ds.length = zs.length
  | [], ds, vs, h, hv => by
    simp only [dall] at h; cases h; rw [VRels] at hv; subst hv; exact ⟨by rw [DCells], rfl⟩
  | z :: zs, ds, vs, h, hv => by
    simp only [dall] at h; split at h
    . rename_i d l h1 h2
      cases h; rw [VRels] at hv; obtain ⟨v, vs', rfl, g1, g2⟩ := hv; obtain ⟨i1, i2⟩ := dall_sound hf h2 g2; exact ⟨by rw [DCells]; exact ⟨v, vs', rfl, hf z d v h1 g1 (.inr True.intro), i1⟩, by simp [i2]⟩
    . cases h
theorem DCells_split {S' : Snap} : ∀ {ds : List DV} {vs : List Value} (k : Nat), DCells S' ds vs -> DCells S' (ds.take k) (vs.take k) /\ DCells S' (ds.drop k) (vs.drop k)
  | [], vs, k, h => by
    rw [DCells] at h; subst h; simp [DCells]
  | d :: ds, vs, 0, h => by simp [h, DCells]
  | d :: ds, vs, k + 1, h => by
    rw [DCells] at h; obtain ⟨v, vs', rfl, h1, h2⟩ := h; obtain ⟨g1, g2⟩ := DCells_split k h2; exact ⟨by rw [List.take_succ_cons, List.take_succ_cons, DCells]; exact ⟨v, _, rfl, h1, g1⟩, by simpa using g2⟩
theorem rows_sound {S' : Snap} {sz : Nat} : ∀ {m : Nat} {ds : List DV} {vs : List Value}, DCells S' ds vs -> ds.length = m * sz -> vs.length = m * sz -> DRows S' sz (rowsOf sz m ds) vs /\ (rowsOf sz m ds).length = m
  | 0, ds, vs, h, h1, h2 => by
    have : vs = [] := List.eq_nil_of_length_eq_zero (by omega)
    subst this; exact ⟨by rw [rowsOf, DRows], rfl⟩
  | m + 1, ds, vs, h, h1, h2 => by
    obtain ⟨g1, g2⟩ := DCells_split sz h; rw [Nat.succ_mul] at h1 h2; obtain ⟨i1, i2⟩ := rows_sound (sz := sz) (m := m) g2 (by rw [List.length_drop, h1]; omega) (by rw [List.length_drop, h2]; omega)
    refine ⟨?_, by simp [rowsOf, i2]⟩
    rw [rowsOf, DRows]; exact ⟨_, _, (List.take_append_drop sz vs).symm, by rw [List.length_take]; omega, g1, i1⟩
theorem VRels_len : ∀ {zs : List ZV} {vs : List Value}, VRels S β n zs vs -> vs.length = zs.length
  | [], vs, h => by rw [VRels] at h; rw [h]; rfl
  | z :: zs, vs, h => by
    rw [VRels] at h; obtain ⟨v, vs', rfl, _, h⟩ := h; simp [VRels_len h]
theorem cellsL {L : Loc} {lo h : Nat} {d : Tri ZV} {cur : Array Value} (r : CRel S β n L lo h d cur) {o k : Nat} {l : List ZV} (h1 : lo <= o) (h2 : o + k <= h) (hl : cellsGo d o k = some l) (hk : 0 < k) :
    ∃ q : Nat, (q : Int) = L.o + o /\ VRels S β n l ((cur.toList.drop q).take k) := by
  obtain ⟨q, hq, hs, vs, v1, v2, v3, _⟩ := r.cells h1 h2 hl; refine ⟨q, by omega, ?_⟩
  have : (cur.toList.drop q).take k = vs := by
    refine List.ext_getElem? fun i => ?_
    rw [List.getElem?_take]; by_cases hi : i < k
    . rw [if_pos hi, List.getElem?_drop, Array.getElem?_toList]; obtain ⟨v, hv⟩ : ∃ v, vs[i]? = some v := ⟨_, List.getElem?_eq_getElem (by omega)⟩
      rw [v3 i v hv, hv]
    . rw [if_neg hi, List.getElem?_eq_none (by omega)]
  rw [this]; exact v2
theorem zdeep_sound (m : ZMem S w0 β n M w) : ∀ (f : Nat) (z : ZV) (d : DV) (v : Value), zdeep f M z = some d -> VRel S β n z v -> DRep (snapN S w0 w) d v
  | 0, z, d, v, h, _ => by cases h
  | f + 1, z, d, v, h, hv => by
    have ih := zdeep_sound m f; unfold zdeep at h
    cases z with
    | int k a => cases h; rw [VRel] at hv; rw [DRep]; exact hv
    | bool b => cases h; rw [VRel] at hv; rw [DRep]; exact hv
    | str l b => cases h; rw [VRel] at hv; rw [DRep]; exact hv
    | raw u =>
      dsimp only at h
      split at h
      . rename_i hu
        cases h; rw [VRel] at hv; rw [DRep]; exact ⟨hv, hu⟩
      . cases h
    | dsl sz l =>
      cases h; rw [VRel] at hv; refine Go.Eng.DRep_mono (fun b o hb => ?_) _ _ hv
      unfold snapN; rw [if_pos (Array.getElem?_eq_some_iff.1 (m.sub b o hb)).1]; exact hb
    | sl sz j o k c =>
      dsimp only at h
      rw [VRel] at hv; obtain ⟨hk, hsz, p, q, rfl, hq, hp, _⟩ := hv
      cases k with
      | zero =>
        cases h; rw [DRep]; exact .inl ⟨rfl, _, _, rfl, fun e => by cases e⟩
      | succ k =>
        dsimp only at h
        split at h
        . rename_i T lo hh dd hM
          split at h
          . rename_i l h1 h2 h3
            split at h
            . rename_i ds hds
              cases h; obtain ⟨_, hb, cur, g1, g2⟩ := m.key j _ hM; have hw := m.own j _ hM rfl; obtain ⟨p', c2, c1⟩ := cellsL g2 (Nat.le_of_ble_eq_true h1) (Nat.le_of_ble_eq_true h2) h3 (Nat.mul_pos (Nat.succ_pos _) hsz); have hpo := hp (by omega)
              have e1 : p' = p := by omega
              subst e1; obtain ⟨d1, d2⟩ := dall_sound (S' := snapN S w0 w) (fun z d v a b _ => ih z d v a b) hds c1
              obtain ⟨r1, r2⟩ := rows_sound (sz := sz) (m := k + 1) d1 (by rw [d2]; exact (cellsGo_get h3).1) (by rw [VRels_len c1]; exact (cellsGo_get h3).1)
              rw [DRep]; refine .inr ⟨(β j).b, p', q, cur, T, (0, 0), by rw [r2], by rw [r2]; exact hq, ?_, by rw [r2]; exact r1⟩
              unfold snapN; rw [if_neg (by omega)]
              exact g1
            . cases h
          . cases h
        . cases h
    | _ => cases h
theorem toSV_rep {S : Snap} {β : Nat -> Value} {d : DV} {v : Value} (h : DRep S d v) : SRep β S d.toSV v := by
  cases d with
  | raw u => rw [DRep] at h; rw [DV.toSV, SRep]; exact h.1
  | sl sz l => rw [DV.toSV, SRep]; exact h
  | _ => rw [DRep] at h; rw [DV.toSV, SRep]; exact h
theorem toSVs_rep {S : Snap} {β : Nat -> Value} : ∀ {ds : List DV} {vs : List Value}, DCells S ds vs -> SReps β S (ds.map DV.toSV) vs
  | [], vs, h => by rw [DCells] at h; rw [List.map_nil, SReps]; exact h
  | d :: ds, vs, h => by
    rw [DCells] at h; obtain ⟨v, vs', rfl, h1, h2⟩ := h; rw [List.map_cons, SReps]; exact ⟨v, vs', rfl, toSV_rep h1, toSVs_rep h2⟩
theorem dv_rel {S : Snap} {γ : Nat -> Value} {d : DV} {v : Value} (h : SRep γ S d.toSV v) : VRel S β n (DV.toZV d) v := by
  cases d with
  | raw u => rw [DV.toSV, SRep] at h; rw [DV.toZV, VRel]; exact h
  | sl sz l => rw [DV.toSV, SRep] at h; rw [DV.toZV, VRel]; exact h
  | str s => rw [DV.toSV, SRep] at h; rw [DV.toZV, zofS, VRel, zbytes_ofS]; exact h
  | int k a => rw [DV.toSV, SRep] at h; rw [DV.toZV, VRel]; exact h
  | bool b => rw [DV.toSV, SRep] at h; rw [DV.toZV, VRel]; exact h
theorem dvs_rel {S : Snap} {γ : Nat -> Value} : ∀ {ds : List DV} {vs : List Value}, SReps γ S (ds.map DV.toSV) vs -> VRels S β n (ds.map DV.toZV) vs
  | [], vs, h => by rw [List.map_nil, SReps] at h; rw [List.map_nil, VRels]; exact h
  | d :: ds, vs, h => by
    rw [List.map_cons, SReps] at h; obtain ⟨v, vs', rfl, h1, h2⟩ := h; rw [List.map_cons, VRels]; exact ⟨v, vs', rfl, dv_rel h1, dvs_rel h2⟩
theorem sds_rel {S : Snap} {γ : Nat -> Value} : ∀ {ds : List SD} {vs : List Value}, SReps γ S (ds.map SD.sv) vs -> VRels S β n (ds.map SD.zv) vs
  | [], vs, h => by rw [List.map_nil, SReps] at h; rw [List.map_nil, VRels]; exact h
  | d :: ds, vs, h => by
    rw [List.map_cons, SReps] at h; obtain ⟨v, vs', rfl, h1, h2⟩ := h; rw [List.map_cons, VRels]; refine ⟨v, vs', rfl, ?_, sds_rel h2⟩
    cases d with
    | one d => exact dv_rel h1
    | agg l =>
      rw [SD.sv, SRep] at h1; obtain ⟨cs, rfl, h1⟩ := h1; rw [SD.zv, VRel]; exact ⟨cs, rfl, dvs_rel h1⟩
theorem zsd_sound (m : ZMem S w0 β n M w) {γ : Nat -> Value} {z : ZV} {d : SD} {v : Value} (h : zsd M z = some d) (hv : VRel S β n z v) : SRep γ (snapN S w0 w) d.sv v := by
  unfold zsd at h; split at h
  . rename_i l
    split at h
    . rename_i ds hds
      cases h; rw [VRel] at hv; obtain ⟨cs, rfl, hv⟩ := hv; rw [SD.sv, SRep]; exact ⟨cs, rfl, toSVs_rep (dall_sound (S' := snapN S w0 w) (fun z d v a b _ => zdeep_sound m _ z d v a b) hds hv).1⟩
    . cases h
  . split at h
    . rename_i d hd
      cases h; exact toSV_rep (zdeep_sound m _ _ _ _ hd hv)
    . cases h
theorem zsds_sound (m : ZMem S w0 β n M w) {γ : Nat -> Value} : ∀ {zs : List ZV} {ds : List SD} {vs : List Value}, zsds M zs = some ds -> VRels S β n zs vs -> SReps γ (snapN S w0 w) (ds.map SD.sv) vs /\ ds.length = zs.length
  | [], ds, vs, h, hv => by
    simp only [zsds] at h; cases h; rw [VRels] at hv; exact ⟨by rw [List.map_nil, SReps]; exact hv, rfl⟩
  | z :: zs, ds, vs, h, hv => by
    simp only [zsds] at h; split at h
    . rename_i d l h1 h2
      cases h; rw [VRels] at hv; obtain ⟨v, vs', rfl, g1, g2⟩ := hv; obtain ⟨i1, i2⟩ := zsds_sound m h2 g2; refine ⟨?_, by simp [i2]⟩
      rw [List.map_cons, SReps]; exact ⟨v, vs', rfl, zsd_sound m h1 g1, i1⟩
    . cases h
theorem zpureO {E : Env} (ok : EnvOk P E) {oc : Nat -> Option CF} (hoc : OcOK P oc) {fuel g : Nat} {args res : List SD} (h : zseal (zcall E oc (zN E oc fuel) g (args.map SD.zv) .e 0) = some res) : Pure P g (args.map SD.sv) (sdsV res) := by
  unfold zseal at h; split at h
  . rename_i c hc
    obtain ⟨hcl, hrun⟩ := zsound ok hoc fuel g _ _ _ c hc; refine ⟨hcl, fun w β S vals hv _ _ mem => ?_⟩
    have hg : ∀ k, (Tri.e : Tri ZO).get k = none := Tri.get_e
    have m0 : ZMem S w (fun _ => ⟨0, 0, 0, false⟩) 0 .e w :=
      ⟨rfl, rfl, rfl, Nat.le_refl _, fun _ _ => rfl, mem.sat, fun j o h => (nomatch (hg j).symm.trans h), fun j o h => (nomatch (hg j).symm.trans h), fun i j oi oj h => (nomatch (hg i).symm.trans h), fun j T hh d h => (nomatch (hg j).symm.trans h)⟩
    refine (hrun S w _ w vals.toArray m0 (by rw [List.toList_toArray]; exact sds_rel hv)).mono ?_
    rintro e w' ⟨v, β', rfl, hvv, p⟩
    have key : SRep (fun _ => undef) (snapN S w w') (sdsV res) v := by
      split at h
      . rename_i l hcv
        rw [hcv, VRel] at hvv; obtain ⟨cs, rfl, hvv⟩ := hvv; split at h
        . cases h
        . rename_i hne
          obtain ⟨g1, g2⟩ := zsds_sound (γ := fun _ => undef) p.mem h hvv
          have hl1 : l.length ≠ 1 := fun e => by
            obtain ⟨x, hx⟩ := List.length_eq_one_iff.1 e; exact hne x hx
          have : sdsV res = .tup (res.map SD.sv) := by
            cases res with
            | nil => rfl
            | cons a t => cases t with
              | nil => exact absurd g2.symm hl1
              | cons b t => rfl
          rw [this, SRep]; exact ⟨cs, rfl, g1⟩
      . simp only [zsds] at h; split at h
        . rename_i d l h1 h2
          cases h2; cases h; exact zsd_sound p.mem h1 hvv
        . cases h
    refine ⟨v, rfl, (), fun _ => undef, snapN S w w', trivial, fun j hj => absurd hj (Nat.not_lt_zero _), key, ?_⟩
    have hsub : ∀ b o, S b = some o -> b < w.heap.size := fun b o h => (Array.getElem?_eq_some_iff.1 (mem.sat b o h)).1
    refine ⟨p.mem.os, p.mem.tape, p.mem.output, p.mem.size, fun b hb _ => p.mem.old b hb, fun b o h => ?_, fun b o h h2 => ?_, fun b o h => ?_, fun j b h => (by simp [lookB] at h), fun i j bi bj x h => (by simp [lookB] at h), fun j b x h => (by simp [lookB] at h), fun j b x h => (by simp [lookB] at h)⟩
    . unfold snapN; rw [if_pos (hsub b o h)]; exact h
    . unfold snapN at h; by_cases hb : b < w.heap.size
      . rw [if_pos hb, h2] at h; cases h
      . exact .inr (by omega)
    . unfold snapN at h; by_cases hb : b < w.heap.size
      . rw [if_pos hb] at h; exact (p.mem.old b hb).trans (mem.sat b o h)
      . rw [if_neg hb] at h; exact h
  . cases h
theorem noOc : OcOK P (fun _ => none) := fun g h e => by cases e
theorem zpure {E : Env} (ok : EnvOk P E) {fuel g : Nat} {args res : List SD} (h : zseal (zcall E (fun _ => none) (zN E (fun _ => none) fuel) g (args.map SD.zv) .e 0) = some res) : Pure P g (args.map SD.sv) (sdsV res) := zpureO ok noOc h
def flatZ : Nat -> ZV -> Bool
  | 0, _ => false
  | f + 1, z => match z with
    | .int _ _ => true
    | .bool _ => true
    | .str _ _ => true
    | .raw _ => true
    | .dsl _ _ => true
    | .agg l => l.all (flatZ f)
    | _ => false
theorem flat_list {f : Nat} {β' : Nat -> Loc} {n' : Nat} (h : ∀ (z : ZV) (v : Value), flatZ f z = true -> VRel S β n z v -> VRel S β' n' z v) : ∀ (l : List ZV) (vs : List Value), l.all (flatZ f) = true -> VRels S β n l vs -> VRels S β' n' l vs
  | [], vs, _, r => by rw [VRels] at r ⊢; exact r
  | z :: l, vs, ha, r => by
    rw [List.all_cons, Bool.and_eq_true] at ha; rw [VRels] at r ⊢; obtain ⟨v, vs', rfl, h1, h2⟩ := r; exact ⟨v, vs', rfl, h z v ha.1 h1, flat_list h l vs' ha.2 h2⟩
theorem flat_rel {β' : Nat -> Loc} {n' : Nat} : ∀ (f : Nat) (z : ZV) (v : Value), flatZ f z = true -> VRel S β n z v -> VRel S β' n' z v
  | 0, _, _, h, _ => by cases h
  | f + 1, z, v, h, r => by
    unfold flatZ at h
    cases z with
    | agg l =>
      rw [VRel] at r ⊢; obtain ⟨cs, rfl, r⟩ := r; exact ⟨cs, rfl, flat_list (flat_rel f) l _ h r⟩
    | int => rw [VRel] at r ⊢; exact r
    | bool => rw [VRel] at r ⊢; exact r
    | str => rw [VRel] at r ⊢; exact r
    | raw => rw [VRel] at r ⊢; exact r
    | dsl => rw [VRel] at r ⊢; exact r
    | _ => cases h
noncomputable def ocT (as : List ZV) (b : Bool) : CF := fun _ args M n => match zveq 1000 (.tup args) (.tup as) with
  | true => some ⟨.bool b, M, n⟩
  | false => none
noncomputable def ocOne (g : Nat) (as : List ZV) (b : Bool) (g' : Nat) : Option CF := bif Nat.beq g' g then some (ocT as b) else none
def isB (b : Bool) : Option ZC -> Bool
  | some c => match c.v with
    | .bool x => x == b
    | _ => false
  | none => false
theorem ocOne_ok {E : Env} (ok : EnvOk P E) {oc : Nat -> Option CF} (hoc : OcOK P oc) {fuel g : Nat} {as : List ZV} {b : Bool} (hf : as.all (flatZ 100) = true) (h : isB b (zcall E oc (zN E oc fuel) g as .e 0) = true) : OcOK P (ocOne g as b) := by
  intro g' h' e k args M n c hc; unfold ocOne at e
  cases hb : Nat.beq g' g with
  | false => rw [hb] at e; cases e
  | true =>
    rw [hb] at e; have hg := Nat.eq_of_beq_eq_true hb; subst hg; simp only [cond_true, Option.some.injEq] at e; subst e; unfold ocT at hc; split at hc
    . rename_i hz
      cases hc; have ha := zveq_eq _ _ _ hz; cases ha; unfold isB at h; split at h
      . rename_i c hc
        split at h
        . rename_i x hx
          have hxb : x = b := by simpa using h
          obtain ⟨hcl, hrun⟩ := zsound ok hoc fuel g' _ _ _ c hc; refine ⟨hcl, fun S w0 β w vals m hv => ?_⟩
          have m0 : ZMem S w0 β n .e w := ZMem.less m fun j o h => (nomatch (Tri.get_e j).symm.trans h)
          have m1 : ZMem S w0 (fun _ => ⟨0, 0, 0, false⟩) 0 .e w :=
            ⟨m.os, m.tape, m.output, m.size, m.old, m.sub, fun j o h => (nomatch (Tri.get_e j).symm.trans h), fun j o h => (nomatch (Tri.get_e j).symm.trans h), fun i j oi oj h => (nomatch (Tri.get_e i).symm.trans h), fun j T hh d h => (nomatch (Tri.get_e j).symm.trans h)⟩
          refine (hrun S w0 _ w vals m1 ?_).mono ?_
          . exact flat_list (flat_rel 100) _ _ hf hv
          . rintro e w' ⟨v, β', rfl, hvv, p⟩; refine ⟨v, β, rfl, ?_, ZPost.quiet m (p.mem.os.trans m.os.symm) (p.mem.tape.trans m.tape.symm) (p.mem.output.trans m.output.symm) p.size fun b hb => p.frame b hb fun j o h => (nomatch (Tri.get_e j).symm.trans h)⟩
            rw [hx, VRel] at hvv; rw [VRel, hvv, hxb]
        . cases h
      . cases h
    . cases hc
end
end Go.Z
namespace Go.Z
open Go.Eng (TI TD badT tiOf TabOk tabOk_of tiOk tdOk nth)
noncomputable section
def collect {α : Type} (f : Nat -> α) : Nat -> Nat -> List α
  | 0, _ => []
  | k + 1, i => f i :: collect f k (i + 1)
theorem collect_get {α : Type} (f : Nat -> α) : ∀ (n i j : Nat), j < n -> (collect f n i)[j]? = some (f (i + j))
  | 0, _, _, h => absurd h (Nat.not_lt_zero _)
  | n + 1, i, 0, _ => rfl
  | n + 1, i, j + 1, h => by
    rw [collect, List.getElem?_cons_succ, collect_get f n (i + 1) j (by omega)]
    congr 2; omega
def tabT (n : Nat) (t : Tri TI) (i : Nat) : TI := bif Nat.blt i n then (match t.get i with | some v => v | none => badT) else badT
theorem blt_eq (a b : Nat) : Nat.blt a b = decide (a < b) := by
  unfold Nat.blt; cases h : Nat.ble (a + 1) b
  . symm; simp; exact Nat.not_lt.1 fun h' => by rw [Nat.ble_eq_true_of_le h'] at h; cases h
  . symm; rw [decide_eq_true_eq]; exact Nat.le_of_ble_eq_true h
theorem tabT_eq {P : Program} {n : Nat} {t : Tri TI} (h : collect t.get n 0 = (List.range n).map fun i => some (tiOf P i)) (i : Nat) : tabT n t i = if i < n then tiOf P i else badT := by
  unfold tabT; rw [blt_eq]; by_cases hi : i < n
  . have h1 := collect_get t.get n 0 i hi; rw [h] at h1; simp [hi] at h1; simp [hi, <- h1]
  . simp [hi]
theorem tabT_ok {P : Program} {n : Nat} {t : Tri TI} (hm : P.follows .mixedOrders = true) (h : collect t.get n 0 = (List.range n).map fun i => some (tiOf P i)) : TabOk P (tabT n t) := by
  have hn : ∀ (l : List TI) (t : Nat), nth badT l t = (l[t]?).getD badT := by
    intro l
    induction l with
    | nil => intro t; cases t <;> rfl
    | cons a l ih => intro t; cases t with
      | zero => rfl
      | succ t => simpa [nth] using ih t
  have : tabT n t = nth badT ((List.range n).map (tiOf P)) := by
    funext i
    rw [tabT_eq h, hn]; by_cases hi : i < n <;> simp [hi]
  rw [this]; exact tabOk_of hm (by simp)
def kdD : TypeDesc -> Nat
  | .interface _ => 1
  | .func _ _ _ => 2
  | .unsafePointer => 3
  | _ => 4
def kdOf (P : Program) (t : Nat) : Nat := match P.underlying t with
  | some d => kdD d
  | none => 0
def fldOf (P : Program) (t : Nat) : List Nat := match P.underlying t with
  | some (.struct fs) => fs.toList.map (·.type)
  | _ => []
def eqNs : List Nat -> List Nat -> Bool
  | [], [] => true
  | a :: l, b :: m => Nat.beq a b && eqNs l m
  | _, _ => false
theorem eqNs_eq : ∀ {l m : List Nat}, eqNs l m = true -> l = m
  | [], [], _ => rfl
  | [], _ :: _, h => by cases h
  | _ :: _, [], h => by cases h
  | a :: l, b :: m, h => by
    rw [eqNs, Bool.and_eq_true] at h; rw [Nat.eq_of_beq_eq_true h.1, eqNs_eq h.2]
structure TX where
  kd : Nat
  fl : List Nat
def txChk (P : Program) (n : Nat) (tx : Tri TX) (t : Tri TI) : Bool := (List.range n).all fun i =>
  (match tx.get i with
  | some x => Nat.beq x.kd (kdOf P i) && eqNs x.fl (fldOf P i)
  | none => false) &&
  (match zaggD (tabT n t i).d, P.info? i with
  | true, some info => match info.zero with
    | some (.agg _) => true
    | some _ => false
    | none => true
  | _, _ => true)
def kdT (n : Nat) (tx : Tri TX) (i : Nat) : Nat := bif Nat.blt i n then (match tx.get i with | some x => x.kd | none => 0) else 0
def ftyT (P : Program) (n : Nat) (tx : Tri TX) (T f : Nat) : Nat := bif Nat.blt T n then (match tx.get T with | some x => nth 0 x.fl f | none => 0) else nth 0 (fldOf P T) f
section
variable {P : Program} {n : Nat} {tx : Tri TX} {t : Tri TI}
theorem txChk_at (h : txChk P n tx t = true) {i : Nat} (hi : i < n) : (∃ x, tx.get i = some x /\ x.kd = kdOf P i /\ x.fl = fldOf P i) /\ (zaggD (tabT n t i).d = true -> ∀ info z, P.info? i = some info -> info.zero = some z -> ∃ cs, z = .agg cs) := by
  unfold txChk at h; rw [List.all_eq_true] at h; have h := h i (List.mem_range.2 hi); rw [Bool.and_eq_true] at h; obtain ⟨h1, h2⟩ := h; constructor
  . split at h1
    . rename_i x hx
      rw [Bool.and_eq_true] at h1; exact ⟨x, hx, Nat.eq_of_beq_eq_true h1.1, eqNs_eq h1.2⟩
    . cases h1
  . intro hz info z hi hzz; rw [hz, hi] at h2; simp only [hzz] at h2; cases z <;> first | exact ⟨_, rfl⟩ | (simp at h2)
theorem kdT_eq (h : txChk P n tx t = true) {i : Nat} (hk : kdT n tx i ≠ 0) : kdT n tx i = kdOf P i := by
  unfold kdT at hk ⊢; rw [blt_eq] at hk ⊢; by_cases hi : i < n
  . obtain ⟨x, h1, h2, _⟩ := (txChk_at h hi).1; simp [hi, h1, h2]
  . simp [hi] at hk
theorem kd_of {d k : Nat} (h : kdOf P d = k) (hk : k ≠ 0) : ∃ D, P.underlying d = some D /\ kdD D = k := by
  unfold kdOf at h; split at h
  . rename_i D hD
    exact ⟨D, hD, h⟩
  . exact absurd h.symm hk
theorem ftyT_ok (h : txChk P n tx t = true) (T f : Nat) (fs : Array Field) (fd : Field) (h1 : P.underlying T = some (.struct fs)) (h2 : fs[f]? = some fd) : fd.type = ftyT P n tx T f := by
  have h3 : nth 0 (fldOf P T) f = fd.type := by
    have hn : ∀ (l : List Nat) (t : Nat), nth 0 l t = (l[t]?).getD 0 := by
      intro l
      induction l with
      | nil => intro t; cases t <;> rfl
      | cons a l ih => intro t; cases t with
        | zero => rfl
        | succ t => simpa [nth] using ih t
    unfold fldOf; rw [h1, hn]; simp [h2]
  unfold ftyT; rw [blt_eq]; by_cases hi : T < n
  . obtain ⟨x, g1, _, g2⟩ := (txChk_at h hi).1; simp [hi, g1, g2, h3]
  . simp [hi, h3]
end
def fnOf (fn : Func) : Option FI := match fn.body, fn.name == "runtime.NumGoroutine" with
  | some c, false => some ⟨c, fn.results.toList, fn.ntmps⟩
  | _, _ => none
def fnT (n : Nat) (t : Tri FI) (i : Nat) : Option FI := bif Nat.blt i n then t.get i else none
theorem fnT_ok {P : Program} {n : Nat} {t : Tri FI} (h : collect t.get n 0 = P.funcs.toList.map fnOf) (g : Nat) (fi : FI) (hg : fnT n t g = some fi) :
    ∃ fn, P.funcs[g]? = some fn ∧ fn.body = some fi.code ∧ fn.results.toList = fi.res ∧ fn.ntmps = fi.nt ∧ (fn.name == "runtime.NumGoroutine") = false := by
  unfold fnT at hg; rw [blt_eq] at hg; by_cases hi : g < n
  . simp [hi] at hg; have h1 := collect_get t.get n 0 g hi; rw [h, Nat.zero_add, hg] at h1; rw [List.getElem?_map] at h1
    cases hf : P.funcs.toList[g]? with
    | none => rw [hf] at h1; cases h1
    | some fn =>
      rw [hf] at h1; simp at h1; unfold fnOf at h1; split at h1
      . rename_i c hc hn
        cases h1; refine ⟨fn, by simpa using hf, hc, rfl, rfl, hn⟩
      . cases h1
  . simp [hi] at hg
theorem sameLayout_self {P : Program} {d t : Nat} : sameLayout P (d + 1) t t = true := by
  unfold sameLayout; simp
theorem lies_of {P : Program} {T c o k : Nat} (h0 : 0 < P.cellsOf T) (h1 : o % P.cellsOf T = 0) (h2 : o / P.cellsOf T + k <= c) : liesAt P P.depth T c o T k = true := by
  have hd : P.depth = (P.depth - 1) + 1 := by unfold Program.depth; omega
  rw [hd]; unfold liesAt; rw [Bool.or_eq_true]; refine .inl ?_; have hd2 : P.depth = (P.depth - 1) + 1 := by unfold Program.depth; omega
  rw [hd2]; unfold rowAt; simp only [Nat.ne_of_gt h0, if_false]; rw [Bool.or_eq_true]; refine .inl ?_; simp only [Bool.and_eq_true, beq_iff_eq, decide_eq_true_eq]; exact ⟨⟨h1, h2⟩, sameLayout_self⟩
def liesT (tab : Nat -> TI) (T c o u : Nat) : Bool := Nat.beq T u && !zbadT (tab T).d && Nat.blt 0 (tab T).size && Nat.beq (Nat.mod o (tab T).size) 0 && Nat.blt (Nat.div o (tab T).size) (Nat.div c (tab T).size)
theorem rowAt_mono {P : Program} {fits : TypeId -> Bool} {d e c c' o k : Nat} (hc : c <= c') (h : rowAt P fits d e c o k = true) : rowAt P fits d e c' o k = true := by
  cases d with
  | zero => cases h
  | succ d =>
    unfold rowAt at h ⊢; by_cases h0 : P.cellsOf e = 0
    . simp [h0] at h
    . simp only [h0, if_false] at h ⊢; simp only [Bool.or_eq_true, Bool.and_eq_true, decide_eq_true_eq] at h ⊢; rcases h with h | h
      . exact .inl ⟨⟨h.1.1, Nat.le_trans h.1.2 hc⟩, h.2⟩
      . exact .inr ⟨Nat.lt_of_lt_of_le h.1 hc, h.2⟩
theorem liesAt_mono {P : Program} : ∀ {d e c c' o u k : Nat}, c <= c' -> liesAt P d e c o u k = true -> liesAt P d e c' o u k = true
  | 0, _, _, _, _, _, _, _, h => by cases h
  | d + 1, e, c, c', o, u, k, hc, h => by
    unfold liesAt at h ⊢; rw [Bool.or_eq_true] at h ⊢; rcases h with h | h
    . exact .inl (rowAt_mono hc h)
    . refine .inr ?_; split at h
      . exact liesAt_mono hc h
      . cases h
def eq3 (p : Nat × Nat × Nat) (T o u : Nat) : Bool := Nat.beq p.1 T && Nat.beq p.2.1 o && Nat.beq p.2.2 u
def liesL (L : List (Nat × Nat × Nat)) (tab : Nat -> TI) (T c o u : Nat) : Bool := liesT tab T c o u || (L.any (fun p => eq3 p T o u) && !zbadT (tab T).d && !zbadT (tab u).d && Nat.blt 0 (tab T).size && Nat.ble (tab T).size c)
def lChk (P : Program) (L : List (Nat × Nat × Nat)) : Bool := L.all fun p => liesAt P P.depth p.1 1 p.2.1 p.2.2 1
def row8T (tab : Nat -> TI) (pt T : Nat) : Bool := match (tab pt).d, (tab T).d with
  | .ptr u, .int .u8 => Nat.beq u T && Nat.beq (tab T).size 1
  | _, _ => false
theorem cells_of {P : Program} {tab : Nat -> TI} (ok : TabOk P tab) {T : Nat} (h : zbadT (tab T).d = false) : P.cellsOf T = (tab T).size /\ ∃ i, P.info? T = some i := by
  rcases ok.ty T with e | ⟨info, d, z, h1, _, h3, _⟩
  . rw [e] at h; cases h
  . refine ⟨?_, info, h1⟩; unfold Program.cellsOf; rw [h1]; exact h3
theorem liesT_ok {P : Program} {tab : Nat -> TI} (ok : TabOk P tab) (T c o u : Nat) (h : liesT tab T c o u = true) : (∀ c', c <= c' -> liesAt P P.depth T (c' / P.cellsOf T) o u 1 = true) /\ ∃ i, P.info? u = some i := by
  unfold liesT at h; simp only [Bool.and_eq_true, Bool.not_eq_true'] at h; obtain ⟨⟨⟨⟨h1, h2⟩, h3⟩, h4⟩, h5⟩ := h; have h1 := Nat.eq_of_beq_eq_true h1; subst h1; obtain ⟨g1, g2⟩ := cells_of ok h2; rw [blt_eq, decide_eq_true_eq] at h3 h5; have h4 := Nat.eq_of_beq_eq_true h4; refine ⟨fun c' hc => ?_, g2⟩
  have := Nat.div_le_div_right (c := (tab T).size) hc; refine lies_of (by rw [g1]; exact h3) (by rw [g1]; exact h4) ?_
  rw [g1]; exact Nat.le_trans h5 this
theorem liesL_ok {P : Program} {tab : Nat -> TI} (ok : TabOk P tab) {L : List (Nat × Nat × Nat)} (hL : lChk P L = true) (T c o u : Nat) (h : liesL L tab T c o u = true) : (∀ c', c <= c' -> liesAt P P.depth T (c' / P.cellsOf T) o u 1 = true) /\ ∃ i, P.info? u = some i := by
  unfold liesL at h; rw [Bool.or_eq_true] at h; rcases h with h | h
  . exact liesT_ok ok T c o u h
  . simp only [Bool.and_eq_true, Bool.not_eq_true', List.any_eq_true] at h; obtain ⟨⟨⟨⟨⟨p, hp, h1⟩, h2⟩, h3⟩, h4⟩, h5⟩ := h; unfold eq3 at h1; simp only [Bool.and_eq_true] at h1; have e1 := Nat.eq_of_beq_eq_true h1.1.1; have e2 := Nat.eq_of_beq_eq_true h1.1.2; have e3 := Nat.eq_of_beq_eq_true h1.2; obtain ⟨g1, _⟩ := cells_of ok h2; refine ⟨fun c' hc => ?_, (cells_of ok h3).2⟩
    have := (List.all_eq_true.1 hL) p hp; rw [e1, e2, e3] at this; refine liesAt_mono ?_ this; rw [blt_eq, decide_eq_true_eq] at h4; have h5 := Nat.le_of_ble_eq_true h5; rw [g1]; exact (Nat.le_div_iff_mul_le h4).2 (by omega)
theorem row8T_ok {P : Program} {tab : Nat -> TI} (ok : TabOk P tab) (pt T : Nat) (h : row8T tab pt T = true) : ∃ u, P.underlying pt = some (.pointer u) /\ ∀ c o k, o + k <= c -> liesAt P P.depth T (c / P.cellsOf T) o u k = true := by
  unfold row8T at h; split at h
  . rename_i u hu hT
    rw [Bool.and_eq_true] at h; have e1 := Nat.eq_of_beq_eq_true h.1; have e2 := Nat.eq_of_beq_eq_true h.2; subst e1; obtain ⟨g1, _⟩ := cells_of (T := u) ok (by rw [hT]; rfl)
    rcases ok.ty pt with e | ⟨info, d, z, _, h2, _, _, _, _, h7⟩
    . rw [hu] at e; cases e
    . rw [hu] at h7; have h7 : d = .pointer u := h7; refine ⟨u, by rw [h2, h7], fun c o k hk => lies_of (by rw [g1, e2]; decide) (by rw [g1, e2, Nat.mod_one]) (by rw [g1, e2, Nat.div_one, Nat.div_one]; exact hk)⟩
  . cases h
theorem cmpB_eq : ∀ (a b : List UInt8), Lib.compareBytes a b = if Op.bytesLess a b then -1 else if Op.bytesLess b a then 1 else 0
  | [], [] => rfl
  | [], _ :: _ => rfl
  | _ :: _, [] => rfl
  | a :: as, b :: bs => by
    rw [Lib.compareBytes, cmpB_eq as bs]; simp only [Op.bytesLess, Bool.or_eq_true, Bool.and_eq_true, decide_eq_true_eq, beq_iff_eq]; rcases Nat.lt_trichotomy a.toNat b.toNat with h | h | h
    . have h1 : a < b := h; simp [h1]
    . have h1 : a = b := UInt8.toNat_inj.1 h; subst h1; simp [UInt8.lt_irrefl]
    . have h1 : b < a := h; have h2 : ¬ a < b := fun h' => by have : a.toNat < b.toNat := h'; omega
      have h3 : a ≠ b := fun e => by subst e; exact h2 h1
      simp [h1, h2, h3]
theorem cmp_run {P : Program} (x y : ByteArray) (w : World) : (Extern.BytealgCompare.compare #[.string x, .string y]).run P w = .ok (.int .i64 (if Op.bytesLess x.toList y.toList then -1 else if Op.bytesLess y.toList x.toList then 1 else 0)) w := by
  rw [Lib.run_compareString, cmpB_eq, ByteArray.toList_eq, ByteArray.toList_eq]
def extT (a b g : Nat) : Nat := bif Nat.beq g a then 1 else bif Nat.beq g b then 2 else 0
def noIK (k : Nat) : Bool := match k with
  | 0 => false
  | 1 => false
  | _ => true
def envT (P : Program) (n : Nat) (t : Tri TI) (tx : Tri TX) (m : Nat) (f : Tri FI) (a b : Nat) (L : List (Nat × Nat × Nat)) : Env where
  tab := tabT n t
  fnT := fnT m f
  noI T := noIK (kdT n tx T)
  isI T := Nat.beq (kdT n tx T) 1
  isF T := Nat.beq (kdT n tx T) 2
  ups T := Nat.beq (kdT n tx T) 3
  lies := liesL L (tabT n t)
  row8 := row8T (tabT n t)
  ext := extT a b
  fty := ftyT P n tx
theorem envT_ok {P : Program} {n : Nat} {t : Tri TI} {tx : Tri TX} {m : Nat} {f : Tri FI} {a b : Nat} {L : List (Nat × Nat × Nat)} (hL : lChk P L = true) (hm : P.follows .mixedOrders = true) (ht : collect t.get n 0 = (List.range n).map fun i => some (tiOf P i)) (hx : txChk P n tx t = true) (hf : collect f.get m 0 = P.funcs.toList.map fnOf)
    (h1 : ∀ x w, (callFunc a #[x]).run P w = .ok (.value x) w)
    (h2 : ∀ x y w, (callFunc b #[.string x, .string y]).run P w = .ok (.value (.int .i64 (if Op.bytesLess x.toList y.toList then -1 else if Op.bytesLess y.toList x.toList then 1 else 0))) w) : EnvOk P (envT P n t tx m f a b L) := by
  have tab := tabT_ok hm ht; refine ⟨tab, ?_, fnT_ok hf, ?_, ?_, ?_, ?_, liesL_ok tab hL, row8T_ok tab, ftyT_ok hx, ?_, ?_⟩
  . intro T info z h g1 g2; by_cases hi : T < n
    . exact (txChk_at hx hi).2 h info z g1 g2
    . have h : zaggD (tabT n t T).d = true := h; rw [tabT_eq ht, if_neg hi] at h; cases h
  . intro T h; have h : noIK (kdT n tx T) = true := h; have h0 : kdT n tx T ≠ 0 := fun e => by rw [e] at h; cases h
    have h1 : kdT n tx T ≠ 1 := fun e => by rw [e] at h; cases h
    obtain ⟨D, e1, e2⟩ := kd_of (kdT_eq hx h0).symm h0; refine ⟨D, e1, ?_⟩; cases D <;> first | rfl | exact absurd e2.symm h1
  . intro T h; have e := Nat.eq_of_beq_eq_true h; obtain ⟨D, e1, e2⟩ := kd_of ((kdT_eq hx (by rw [e]; decide)).symm.trans e) (by decide)
    cases D <;> first | exact ⟨_, e1⟩ | cases e2
  . intro T h; have e := Nat.eq_of_beq_eq_true h; obtain ⟨D, e1, e2⟩ := kd_of ((kdT_eq hx (by rw [e]; decide)).symm.trans e) (by decide)
    cases D <;> first | exact ⟨_, _, _, e1⟩ | cases e2
  . intro T h; have e := Nat.eq_of_beq_eq_true h; obtain ⟨D, e1, e2⟩ := kd_of ((kdT_eq hx (by rw [e]; decide)).symm.trans e) (by decide)
    cases D <;> first | exact e1 | cases e2
  . intro g hg x w; have hg : extT a b g = 1 := hg; unfold extT at hg; cases e : Nat.beq g a
    . rw [e] at hg; cases e2 : Nat.beq g b <;> rw [e2] at hg <;> cases hg
    . rw [Nat.eq_of_beq_eq_true e]; exact h1 x w
  . intro g hg x y w; have hg : extT a b g = 2 := hg; unfold extT at hg; cases e : Nat.beq g a
    . rw [e] at hg; cases e2 : Nat.beq g b
      . rw [e2] at hg; cases hg
      . rw [Nat.eq_of_beq_eq_true e2]; exact h2 x y w
    . rw [e] at hg; cases hg
end
end Go.Z
