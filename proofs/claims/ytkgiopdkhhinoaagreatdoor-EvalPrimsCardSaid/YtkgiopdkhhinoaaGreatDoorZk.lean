/- The concrete evaluator: the rounds of a range over a map, in whatever order. The concrete evaluator: the rounds of a range over a map: the invariant and its step. The concrete evaluator: ranges over maps are sound. The concrete evaluator: ranges over maps, whole; the evaluator is sound. -/
import Derived.Test.YtkgiopdkhhinoaaGreatDoorZj
import Derived.Maps.RangeRun
set_option linter.all false
namespace Go.Z
open Go.Eng (TI TD DV DRep DRows DCells Snap nth upd slice' splice TabOk tiOk tdOk TFacts FW)
theorem nextAt_inv {l : List Oper} {it i e : Nat} (h : nextAt l = some (it, i, e)) : ∃ o p, l = [o, p] /\ o.op = .next (.tmp it) false /\ o.dst = some i /\ o.guard = none /\ p.op = .extract (.tmp i) 0 /\ p.dst = some e /\ p.guard = none := by
  unfold nextAt at h; split at h
  . rename_i o p
    split at h
    . rename_i h1 h2 h3 h4 h5 h6
      split at h
      . rename_i hb
        have hb := Nat.eq_of_beq_eq_true hb; cases h; exact ⟨o, p, rfl, h1, h2, h3, by rw [h4, hb], h5, h6⟩
      . cases h
    . cases h
  . cases h
theorem entAt_inv {l os : List Oper} {it en : Nat} (h : entAt l = some (it, en, os)) : ∃ o, l = o :: os /\ o.op = .entry (.tmp it) /\ o.dst = some en /\ o.guard = none := by
  unfold entAt at h; split at h
  . rename_i o l'
    split at h
    . rename_i h1 h2 h3
      cases h; exact ⟨o, rfl, h1, h2, h3⟩
    . cases h
  . cases h
theorem lastUpd_inv : ∀ {l p : List Oper} {U : Nat} {m k v : Operand}, lastUpd l = some (p, U, m, k, v) -> ∃ o, l = p ++ [o] /\ o.op = .mapUpdate U m k v /\ o.dst = none /\ o.guard = none
  | [], _, _, _, _, _, h => by cases h
  | [o], p, U, m, k, v, h => by
    simp only [lastUpd] at h; split at h
    . rename_i r hr
      cases h; unfold updOp at hr; split at hr
      . rename_i h1 h2 h3
        cases hr; exact ⟨o, rfl, h1, h2, h3⟩
      . cases hr
    . cases h
  | o :: o2 :: l, p, U, m, k, v, h => by
    simp only [lastUpd] at h; split at h
    . rename_i q r hr
      cases h; obtain ⟨x, h1, h2⟩ := lastUpd_inv (l := o2 :: l) hr; exact ⟨x, by rw [h1]; rfl, h2⟩
    . cases h
theorem lastRange_inv : ∀ {l p : List Oper} {it T : Nat} {x : Operand}, lastRange l = some (p, it, T, x) -> ∃ o, l = p ++ [o] /\ o.op = .range T x /\ o.dst = some it /\ o.guard = none
  | [], _, _, _, _, h => by cases h
  | [o], p, it, T, x, h => by
    simp only [lastRange] at h; split at h
    . rename_i r hr
      cases h; unfold rangeOp at hr; split at hr
      . rename_i h1 h2 h3
        cases hr; exact ⟨o, rfl, h1, h2, h3⟩
      . cases hr
    . cases h
  | o :: o2 :: l, p, it, T, x, h => by
    simp only [lastRange] at h; split at h
    . rename_i q r hr
      cases h; obtain ⟨y, h1, h2⟩ := lastRange_inv (l := o2 :: l) hr; exact ⟨y, by rw [h1]; rfl, h2⟩
    . cases h
section
variable {P : Program} {E : Env} {cf yf : CF}
theorem oper_run {o : Oper} {ro : Option Nat} {nn : Nat} {a : Act} {w w' : World} {v : Value} {K : Act -> World -> Prop} {QQ : Exit -> Act -> World -> Prop} (hnd : ∀ c, o.op ≠ .defer c) (hr : (execOp a.eval o).run P w = .ok (.value v) w') (hK : K (a.put o.dst v) w') : o.wpIn (FW ro) nn P a w K QQ :=
  ⟨fun _ _ => trivial, by rw [Oper.semAt_eq _ _ _ hnd, hr]; exact hK⟩
theorem wanted_none {o : Oper} {y : Nat -> Option Bool} (h : o.guard = none) : Region.wanted o y = true := by unfold Region.wanted; rw [h]
theorem TRel.anyput {S : Snap} {β : Nat -> Loc} {n : Nat} {t : Tri ZV} {tm : Array Value} {d : Nat} (h : t.get d = some .any) (r : TRel S β n t tm) (v : Value) : TRel S β n t (tm.setIfInBounds d v) := by
  intro i; by_cases e : d = i
  . subst e; rw [h, Option.getD_some, VRel]; exact True.intro
  . have := r i; simpa [Array.getD_eq_getD_getElem?, Array.getElem?_setIfInBounds_ne e] using this
structure MFacts (E : Env) (cf yf : CF) (f : MFor) (s1 : ZS) (X : Nat) (es : List ZEnt) (tb : Tri ZV) (l : List RR) (N : Nat) : Prop where
  rnd : ∀ (i : Nat) (e : ZEnt) (r : RR), es[i]? = some e -> l[i]? = some r -> ∃ s2 s3, lfold (zstep E cf yf f.ops4) f.os4 ⟨tb.set f.en (some (.tup [e.key, e.val])), s1.nt, s1.M.roT, r.lo, []⟩ = some s2 /\
    (match f.d with
      | true => zdraw E cf yf f.pre5 s2
      | false => lfold (zstep E cf yf f.ops5) f.pre5 s2) = some s3 /\ s3.df = [] /\ zrd s3.t f.m = .mp X /\ zkeyEq e.key (zrd s3.t f.k) = some true /\ zrd s3.t f.v = r.v /\ s3.M = r.M /\ s3.n = r.hi /\ ∃ a b c, zmapPut E f.U (.mp X) e.key r.v (Tri.e.set X (some (.umap []))) 0 = .ok a b c
  len : l.length = es.length
  rng : Rngs (Nat.succ s1.n) l N
theorem zmRounds_inv {f : MFor} {s1 : ZS} {X : Nat} {tb : Tri ZV} : ∀ {es : List ZEnt} {n N : Nat} {l : List RR}, zmRounds E cf yf f tb s1.nt s1.M.roT X es n = some (l, N) -> l.length = es.length /\ Rngs n l N /\ ∀ (i : Nat) (e : ZEnt) (r : RR), es[i]? = some e -> l[i]? = some r -> ∃ s2 s3, lfold (zstep E cf yf f.ops4) f.os4 ⟨tb.set f.en (some (.tup [e.key, e.val])), s1.nt, s1.M.roT, r.lo, []⟩ = some s2 /\
    (match f.d with
      | true => zdraw E cf yf f.pre5 s2
      | false => lfold (zstep E cf yf f.ops5) f.pre5 s2) = some s3 /\ s3.df = [] /\ zrd s3.t f.m = .mp X /\ zkeyEq e.key (zrd s3.t f.k) = some true /\ zrd s3.t f.v = r.v /\ s3.M = r.M /\ s3.n = r.hi /\ ∃ a b c, zmapPut E f.U (.mp X) e.key r.v (Tri.e.set X (some (.umap []))) 0 = .ok a b c
  | [], n, N, l, h => by
    simp only [zmRounds] at h; cases h; exact ⟨rfl, .nil, fun i e r h => by simp at h⟩
  | en :: es, n, N, l, h => by
    simp only [zmRounds] at h; split at h
    . rename_i X' v M' n' hE
      split at h
      . rename_i a b c l2 n'' hb hp hr
        cases h; rw [Bool.and_eq_true] at hb; have hX := Nat.eq_of_beq_eq_true hb.1; have hn := Nat.le_of_ble_eq_true hb.2; obtain ⟨i1, i2, i3⟩ := zmRounds_inv hr; refine ⟨by simp [i1], .cons (r := ⟨v, M', n, n'⟩) hn i2, fun i e r he hr => ?_⟩
        cases i with
        | succ i => exact i3 i e r (by simpa using he) (by simpa using hr)
        | zero =>
          simp at he hr; subst he hr; unfold zmEval at hE; split at hE
          . rename_i s2 h2
            split at hE
            . rename_i s3 h3
              split at hE
              . rename_i X2 g1 g2 g3
                cases hE; exact ⟨s2, s3, h2, h3, g1, by rw [g2, hX], g3, rfl, rfl, rfl, _, _, _, hp⟩
              . cases hE
            . cases hE
          . cases hE
      . cases h
    . cases h
end
end Go.Z
namespace Go.Z
open Go.Eng (TI TD DV DRep DRows DCells Snap nth upd slice' splice TabOk tiOk tdOk TFacts FW)
open Go.ChangeMaps (setBlock)
def JF (S : Snap) (n1 j since : Nat) (es : List ZEnt) (Bs : List Nat) (D : List Nat) (β : Nat -> Loc) (w : World) : Prop :=
  ∃ (aJ : Array MapEntry) (cJ : Nat) (lJ : List MapEntry), w.heap[(β j).b]? = some (.map aJ cJ) /\ lJ.Perm aJ.toList /\ lJ.map (·.born) = Bs /\ since <= cJ /\
    ∀ (i : Nat) (e : ZEnt) (x : MapEntry), es[i]? = some e -> lJ[i]? = some x -> VRel S β n1 e.key x.key /\ (i ∉ D -> VRel S β n1 e.val x.val)
structure Inv (S : Snap) (w0 wS : World) (B : Nat) (βS : Nat -> Loc) (s1 : ZS) (X j : Nat) (cl : Bool) (c : Nat) (es : List ZEnt) (l : List RR) (N : Nat) (tb : Tri ZV) (Bs : List Nat) (r since : Nat) (D : List Nat) (a : Act) (w : World) (β : Nat -> Loc) (M : Tri ZO) (seen : Array Nat) (c0 : Nat) : Prop where
  tot : ZPost S w0 βS s1.n s1.M wS β N M w
  getX : M.get X = some (conO cl c es l D)
  getO : ∀ k, k ≠ X -> k < Nat.succ s1.n -> M.get k = s1.M.get k
  getN : ∀ (i : Nat) (q : RR), l[i]? = some q -> ∀ k, q.lo <= k -> k < q.hi -> M.get k = if i ∈ D then q.M.get k else none
  res : ∀ (i : Nat) (q : RR), l[i]? = some q -> i ∉ D -> ∀ k, q.lo <= k -> k < q.hi -> (β k).k = false
  rom : ZMem S w0 β (Nat.succ s1.n) s1.M.roT w
  tm : TRel S β (Nat.succ s1.n) tb a.tmps
  nt : a.tmps.size = s1.nt
  df : DRel S B β N M w [] a.defers
  lo : B <= w.heap.size
  jf : JF S (Nat.succ s1.n) j since es Bs D β w
  it : w.heap[r]? = some (.mapIter (some (β j).b) since seen c0)
  sc : since <= c0
  βit : (β s1.n).b = r /\ (β s1.n).o = 0 /\ (β s1.n).k = true
  priv : ∀ k o, M.get k = some o -> (β k).b ≠ r
  rge : wS.heap.size <= r
  seenD : ∀ (i b : Nat), Bs[i]? = some b -> (b ∈ seen.toList ↔ i ∈ D)
  Dlt : ∀ i ∈ D, i < es.length
  Dnd : D.Nodup
section
variable {P : Program} {E : Env} {cf yf : CF} {S : Snap} {w0 wS w : World} {B : Nat} {βS β : Nat -> Loc} {s1 : ZS} {X j : Nat} {cl : Bool} {c : Nat} {es : List ZEnt} {l : List RR} {N : Nat} {tb : Tri ZV} {Bs : List Nat} {r since : Nat} {D : List Nat} {a : Act} {M : Tri ZO} {seen : Array Nat} {c0 : Nat} {f : MFor}
theorem heap_setBlock {x : Nat} {o : Obj} (h : x < w.heap.size) : (setBlock w x o).heap[x]? = some o /\ (∀ b, b ≠ x -> (setBlock w x o).heap[b]? = w.heap[b]?) /\ (setBlock w x o).heap.size = w.heap.size := by
  unfold setBlock; refine ⟨by simp [h], fun b hb => ?_, by simp⟩
  show (w.heap.setIfInBounds x o)[b]? = _; rw [Array.getElem?_setIfInBounds_ne (fun e => hb e.symm)]
theorem Inv.step (iv : Inv S w0 wS B βS s1 X j cl c es l N tb Bs r since D a w β M seen c0) (hS : w0.heap.size <= wS.heap.size) {w1 : World} (hw1 : w1 = w \/ w1 = w.drew) {seen' : Array Nat} {c0' : Nat} :
    ZPost S w0 βS s1.n s1.M wS β N M (setBlock w1 r (.mapIter (some (β j).b) since seen' c0')) /\ ZMem S w0 β (Nat.succ s1.n) s1.M.roT (setBlock w1 r (.mapIter (some (β j).b) since seen' c0')) /\
      DRel S B β N M (setBlock w1 r (.mapIter (some (β j).b) since seen' c0')) [] a.defers /\ (∀ b, b ≠ r -> (setBlock w1 r (.mapIter (some (β j).b) since seen' c0')).heap[b]? = w.heap[b]?) /\
      (setBlock w1 r (.mapIter (some (β j).b) since seen' c0')).heap[r]? = some (.mapIter (some (β j).b) since seen' c0') /\ (setBlock w1 r (.mapIter (some (β j).b) since seen' c0')).heap.size = w.heap.size := by
  have hlt : r < w.heap.size := (Array.getElem?_eq_some_iff.1 iv.it).1; have e1 : w1.heap = w.heap /\ w1.os = w.os /\ w1.tape = w.tape /\ w1.output = w.output := by rcases hw1 with rfl | rfl <;> exact ⟨rfl, rfl, rfl, rfl⟩
  obtain ⟨h1, h2, h3⟩ := heap_setBlock (w := w1) (x := r) (o := .mapIter (some (β j).b) since seen' c0') (by rw [e1.1]; exact hlt)
  have h2' : ∀ b, b ≠ r -> (setBlock w1 r (.mapIter (some (β j).b) since seen' c0')).heap[b]? = w.heap[b]? := fun b hb => by rw [h2 b hb, e1.1]
  have h3' : (setBlock w1 r (.mapIter (some (β j).b) since seen' c0')).heap.size = w.heap.size := by rw [h3, e1.1]
  have t := iv.tot.poke hS iv.rge iv.priv (w2 := setBlock w1 r (.mapIter (some (β j).b) since seen' c0')) e1.2.1 e1.2.2.1 e1.2.2.2 h3' h2'
  have hro : ∀ k o, s1.M.roT.get k = some o -> (β k).b ≠ r := fun k o hk e => by
    obtain ⟨_, _, g⟩ := iv.rom.key k o hk; rw [Tri.roT_get] at hk
    cases hm : s1.M.get k with
    | none => rw [hm] at hk; cases hk
    | some o' =>
      rw [hm] at hk; cases o' <;> simp [roO] at hk <;> subst hk
      . obtain ⟨_, _, g, _⟩ := g; rw [e, iv.it] at g; cases g
      . obtain ⟨_, _, g, _⟩ := g; rw [e, iv.it] at g; cases g
  have rm := iv.rom.stay t.mem (by rw [h3']; exact Nat.le_refl _) (Nat.le_refl _) (fun _ _ => rfl) (fun k o hk => h2' _ (hro k o hk))
  refine ⟨t, rm, ?_, h2', h1, h3'⟩
  have key : ∀ (ds : List Deferred), DRel S B β N M w [] ds -> DRel S B β N M (setBlock w1 r (.mapIter (some (β j).b) since seen' c0')) [] ds := by
    intro ds h; generalize hd : ([] : List (Nat × List ZV)) = df at h
    induction h with
    | nil => exact .nil
    | mark g1 g0 g2 g3 g4 g5 _ ih =>
      rename_i x _
      subst hd; refine .mark g1 g0 (by rw [h3']; exact g2) ?_ g4 g5 (ih rfl)
      rw [h2' x fun e => by rw [e, iv.it] at g3; cases g3]
      exact g3
    | one => cases hd
  exact key _ iv.df
theorem ZMem.up {n n' : Nat} {M : Tri ZO} (m : ZMem S w0 β n M w) (h : n <= n') : ZMem S w0 β n' M w := m.stay m (Nat.le_refl _) h (fun _ _ => rfl) fun _ _ _ => rfl
theorem ro_isW {k : Nat} {o : ZO} (h : s1.M.roT.get k = some o) : isW o = false := by
  rw [Tri.roT_get] at h
  cases hm : s1.M.get k with
  | none => rw [hm] at h; cases h
  | some o' =>
    rw [hm] at h; cases o' <;> simp [roO] at h <;> subst h <;> rfl
theorem ro_src {k : Nat} {o : ZO} (h : s1.M.roT.get k = some o) : ∃ o', s1.M.get k = some o' /\ (∀ c es, o' ≠ .map c es) /\ ∀ es, o' ≠ .umap es := by
  rw [Tri.roT_get] at h
  cases hm : s1.M.get k with
  | none => rw [hm] at h; cases h
  | some o' =>
    rw [hm] at h; refine ⟨o', rfl, ?_, ?_⟩ <;> (intros; intro e; subst e; simp [roO] at h)
theorem Inv.round (ok : EnvOk P E) (hc : CFok P cf) (hy : YFok P yf) (iv : Inv S w0 wS B βS s1 X j cl c es l N tb Bs r since D a w β M seen c0) (hS : w0.heap.size <= wS.heap.size)
    (mf : MFacts E cf yf f s1 X es tb l N) (hdist : distinct es) (hX : X < s1.n) (hj : j < s1.n) (hjX : cl = false -> j = X) (hcl : cl = true -> j ≠ X)
    {ops4 ops5 : Array Oper} {o3 : Oper} (h4 : ops4.toList = o3 :: f.os4) (h4' : ops4.toList = f.ops4) (g4 : o3.op = .entry (.tmp f.it) /\ o3.dst = some f.en /\ o3.guard = none)
    (h5 : ops5.toList = f.ops5) {lo : Oper} (h5' : f.ops5 = f.pre5 ++ [lo]) (g5 : lo.op = .mapUpdate f.U f.m f.k f.v /\ lo.dst = none /\ lo.guard = none) (hlb : f.d = true -> lastBinds f.ops5 f.pre5.length = true)
    (hen : f.en < s1.nt) (hten : tb.get f.en = some .any) (htd : ∀ d, d ∈ dsts f.os4 ++ dsts f.pre5 -> tb.get d = some .any)
    (href : ∃ (ex : Bool) (v0 : List MapEntry), ERels S βS s1.n ex es v0) (hjo : ∃ o, s1.M.get j = some o)
    (hBs : cl = false -> Bs = es.map (·.born) /\ since <= c) (hBd : Bs.Nodup)
    {i : Nat} {e : ZEnt} {x : MapEntry} {aJ : Array MapEntry} {cJ : Nat} {lJ : List MapEntry} {a2 : Act} {w2 : World} {seen2 : Array Nat}
    (hei : es[i]? = some e) (hiD : i ∉ D) (hxi : lJ[i]? = some x) (hhJ : w2.heap[(β j).b]? = some (.map aJ cJ)) (hpJ : lJ.Perm aJ.toList) (hbJ : lJ.map (·.born) = Bs)
    (hvJ : ∀ (i : Nat) (e : ZEnt) (x : MapEntry), es[i]? = some e -> lJ[i]? = some x -> VRel S β (Nat.succ s1.n) e.key x.key /\ (i ∉ D -> VRel S β (Nat.succ s1.n) e.val x.val))
    (hs2 : seen2 = seen.push x.born) (hit2 : w2.heap[r]? = some (.mapIter (some (β j).b) since seen2 cJ)) (hsc2 : since <= cJ)
    (t : ZPost S w0 βS s1.n s1.M wS β N M w2) (rm : ZMem S w0 β (Nat.succ s1.n) s1.M.roT w2) (dr : DRel S B β N M w2 [] a2.defers) (tm2 : TRel S β (Nat.succ s1.n) tb a2.tmps) (hnt2 : a2.tmps.size = s1.nt) (hlo2 : B <= w2.heap.size)
    (hev : a2.eval (.tmp f.it) = .pointer (some ⟨r, 0, none⟩))
    {ro : Option Nat} {nn b2 r4 r5 : Nat} {Q : Exit -> Act -> World -> Prop}
    (hQ : ∀ a' w' β' M' seen' c0', Inv S w0 wS B βS s1 X j cl c es l N tb Bs r since (i :: D) a' w' β' M' seen' c0' -> Q .normal a' w') :
    (Code.block b2 (.seq (.region r4 ops4 false) (.region r5 ops5 f.d))).wpIn (FW ro) nn P Q a2 w2 := by
  obtain ⟨q, hq⟩ : ∃ q, l[i]? = some q := ⟨_, List.getElem?_eq_getElem (by rw [mf.len]; exact (List.getElem?_eq_some_iff.1 hei).1)⟩
  obtain ⟨s2, s3, e2, e3, edf, em, ek, ev, eM, en, za, zb, zc, ez⟩ := mf.rnd i e q hei hq; obtain ⟨q1, q2, q3⟩ := mf.rng.at i q hq; obtain ⟨hvk, hvv⟩ := hvJ i e x hei hxi; have hvv := hvv hiD; have hxa : x ∈ aJ.toList := hpJ.mem_iff.1 (List.mem_of_getElem? hxi); have hnd : (aJ.toList.map (·.born)).Nodup := (hpJ.map (·.born)).nodup_iff.1 (by rw [hbJ]; exact hBd)
  refine wpIn_block (wpIn_seq (wpIn_region_list ?_)); rw [h4, wpListIn, if_pos (wanted_none g4.2.2)]; refine oper_run (fun c h => by rw [g4.1] at h; cases h) (v := .tuple #[x.key, x.val]) (w' := w2) ?_ ?_
  . have := run_entry_at (P := P) w2 r (β j).b since seen aJ cJ x (by rw [hit2, hs2]) hhJ hxa hnd
    simp only [execOp, g4.1, hev, Sem.run_bind, this, Result.andThen_ok]; rfl
  rw [g4.2.1]
  have rel2 : ZRel S w0 B β ⟨tb.set f.en (some (.tup [e.key, e.val])), s1.nt, s1.M.roT, q.lo, []⟩ (a2.put (some f.en) (.tuple #[x.key, x.val])) w2 := by
    refine ⟨ZMem.up rm q1, ?_, (Array.size_setIfInBounds ..).trans hnt2, dr.marks rm |>.marks (ZMem.up rm q1), hlo2⟩
    refine (tm2.mono (fun _ _ => rfl) q1).put (by rw [hnt2]; exact hen) ?_
    rw [VRel]; exact ⟨_, rfl, by simp only [VRels]; exact ⟨_, _, rfl, VRel_mono (fun _ _ => rfl) q1 _ _ hvk, _, _, rfl, VRel_mono (fun _ _ => rfl) q1 _ _ hvv, rfl⟩⟩
  have e2' : lfold (zstep E cf yf ops4.toList) f.os4 ⟨tb.set f.en (some (.tup [e.key, e.val])), s1.nt, s1.M.roT, q.lo, []⟩ = some s2 := by rw [h4']; exact e2
  obtain ⟨⟨l2, hl2⟩, run4⟩ := zops_sound ok hc hy f.os4 _ s2 e2'
  have hdf3 : s2.df = [] /\ s3.nt = s2.nt /\ (∀ d, d ∉ dsts f.pre5 -> s3.t.get d = s2.t.get d) := by
    cases hd : f.d with
    | true =>
      rw [hd] at e3; have h5a : ops5.toList = f.pre5 ++ [lo] := by rw [h5, h5']
      obtain ⟨g1, _⟩ := draw_pre ok hc hy (id := 0) h5a g5.2.2 (by rw [h5]; exact hlb hd) e3
      exact ⟨by rw [<- g1]; exact edf, zdraw_slots e3⟩
    | false =>
      rw [hd] at e3; have e3' : lfold (zstep E cf yf ops5.toList) f.pre5 s2 = some s3 := by rw [h5]; exact e3
      obtain ⟨⟨l3, hl3⟩, _⟩ := zops_sound ok hc hy f.pre5 _ s3 e3'; rw [edf] at hl3; exact ⟨(List.append_eq_nil_iff.1 hl3.symm).2, zops_slots _ _ _ e3⟩
  obtain ⟨hs2nt, hs2t⟩ := zops_slots _ _ _ e2
  have last : ∀ (β3 : Nat -> Loc) (a4 : Act) (w4 : World), ZRel S w0 B β3 s3 a4 w4 -> ZPost S w0 β q.lo s1.M.roT w2 β3 s3.n s3.M w4 -> lo.wpIn (FW ro) nn P a4 w4 (Q .normal) (Exit.inBlock b2 Q) := by
    intro β3 a4 w4 rel4 p4; rw [en, eM] at p4
    have hget : ∀ k, (addR q.M (q.hi - q.lo) q.lo M).get k = if q.lo <= k /\ k < q.hi then q.M.get k else M.get k := fun k => by
      rw [addR_get]; by_cases h : q.lo <= k /\ k < q.hi
      . rw [if_pos h, if_pos (by omega)]
      . rw [if_neg h, if_neg (by omega)]
    obtain ⟨β5, b1, tot5, hfr, hold, hnew, hbig⟩ := merge_run t p4 (ZMem.up rm q1) (fun k o h => ro_isW h) (by omega) q3 (fun k h1 h2 => iv.res i q hq hiD k h1 h2) hget
    have hMX : (addR q.M (q.hi - q.lo) q.lo M).get X = some (conO cl c es l D) := by rw [hget, if_neg (by omega)]; exact iv.getX
    have hset := conO_step (cl := cl) (c := c) (D := D) hdist hei hq hiD (by rw [<- zkeyEq_true ek] at ek; exact ek)
    have hput := zmapPut_of ez (n := N) hMX hset; have tm5 : TRel S β5 N s3.t a4.tmps := rel4.tm.mono (fun k hk => hnew k (by rw [en] at hk; exact hk)) (by rw [en]; exact q3)
    have hrm : VRel S β5 N (.mp X) (a4.eval f.m) := by rw [<- em]; exact zrd_sound tm5 f.m
    have hrk : VRel S β5 N e.key (a4.eval f.k) := by rw [zkeyEq_true ek]; exact zrd_sound tm5 f.k
    have hrv : VRel S β5 N q.v (a4.eval f.v) := by rw [<- ev]; exact zrd_sound tm5 f.v
    obtain ⟨w5, u1, _, u3, u4⟩ := zmapPut_sound ok tot5.mem hrm hrk hrv _ _ _ hput; have u4 := u4 X rfl; refine ⟨fun _ _ => trivial, ?_⟩
    rw [Oper.semAt_eq _ _ _ (fun c h => by rw [g5.1] at h; cases h)]
    have hrun : (execOp a4.eval lo).run P w4 = .ok .skip w5 := by
      simp only [execOp, g5.1, Sem.run_bind, u1, Result.andThen_ok]; rfl
    rw [hrun, Oper.uponIn_skip, g5.2.1]; have hβX : β5 X = β X := by rw [b1, if_neg (by omega)]
    have hβj : β5 j = β j := by rw [b1, if_neg (by omega)]
    have hβn : β5 s1.n = β s1.n := by rw [b1, if_neg (by omega)]
    have totF : ZPost S w0 βS s1.n s1.M wS β5 N ((addR q.M (q.hi - q.lo) q.lo M).set X (some (conO cl c es l (i :: D)))) w5 := tot5.trans u3; have hlt : ∀ b, (∃ o, w2.heap[b]? = some o) -> b < w2.heap.size := fun b ⟨o, h⟩ => (Array.getElem?_eq_some_iff.1 h).1
    have hrX : r ≠ (β5 X).b := by rw [hβX]; exact fun h => iv.priv X _ iv.getX h.symm
    have hroX : ∀ k o, s1.M.roT.get k = some o -> (β k).b ≠ (β5 X).b := fun k o hk e1 => by
      rw [hβX] at e1; have hkn := (rm.key k o hk).1.1; obtain ⟨o', k1, k2, k3⟩ := ro_src hk
      have hkX : k ≠ X := fun h => by
        subst h; have hm := t.mem.key k _ iv.getX; obtain ⟨_, _, hm⟩ := hm; obtain ⟨_, _, g⟩ := rm.key k o hk; rw [Tri.roT_get, k1] at hk
        have hor : ∃ cur T fr, w2.heap[(β k).b]? = some (.cells cur T fr) := by
          cases o' <;> simp [roO] at hk <;> subst hk
          . obtain ⟨cur, fr, g, _⟩ := g; exact ⟨cur, _, fr, g⟩
          . obtain ⟨cur, fr, g, _⟩ := g; exact ⟨cur, _, fr, g⟩
        obtain ⟨cur, T, fr, g⟩ := hor
        cases cl with
        | true => obtain ⟨_, _, _, hm, _⟩ := hm; rw [hm] at g; cases g
        | false => obtain ⟨_, hm, _⟩ := hm; rw [hm] at g; cases g
      have hMk : M.get k = some o' := by rw [iv.getO k hkX hkn]; exact k1
      exact hkX (t.mem.inj X k _ _ iv.getX hMk (by cases cl <;> rfl) e1.symm).symm
    refine hQ _ w5 β5 _ seen2 cJ ⟨totF, by rw [Tri.get_set, if_pos rfl], fun k hk hkn => ?_, fun i2 p2 hi2 k hk1 hk2 => ?_, fun i2 p2 hi2 hn2 k hk1 hk2 => ?_, ?_, ?_, ?_, ?_, ?_, ?_, ?_, hsc2, ?_, fun k o hk => ?_, iv.rge, fun i2 b hb => ?_, fun i2 h => ?_, List.nodup_cons.2 ⟨hiD, iv.Dnd⟩⟩
    . rw [Tri.get_set, if_neg (fun h => hk h.symm), hget, if_neg (by omega)]
      exact iv.getO k hk hkn
    . have hp2 := mf.rng.at i2 p2 hi2; rw [Tri.get_set, if_neg (by omega), hget]
      by_cases h : i2 = i
      . subst h; rw [hq] at hi2; cases hi2; rw [if_pos ⟨hk1, hk2⟩, if_pos (by simp)]
      . rw [if_neg fun hh => h (mf.rng.apart i2 i p2 q k hi2 hq hk1 hk2 hh.1 hh.2), iv.getN i2 p2 hi2 k hk1 hk2]
        by_cases h2 : i2 ∈ D
        . rw [if_pos h2, if_pos (List.mem_cons_of_mem _ h2)]
        . rw [if_neg h2, if_neg (fun hh => by rcases List.mem_cons.1 hh with hh | hh; exact h hh; exact h2 hh)]
    . have hne : i2 ≠ i := fun h => hn2 (by simp [h])
      rw [b1, if_neg fun hh => hne (mf.rng.apart i2 i p2 q k hi2 hq hk1 hk2 hh.1 hh.2)]
      exact iv.res i2 p2 hi2 (fun h => hn2 (List.mem_cons_of_mem _ h)) k hk1 hk2
    . refine rm.stay totF.mem (by have := p4.size; have := u3.size; omega) (Nat.le_refl _) (fun k hk => ?_) fun k o hk => ?_
      . rw [b1, if_neg (by have := hk.1; omega)]
      . rw [u4 _ (hroX k o hk), hfr _ (rm.key k o hk).2.1]
    . -- the slots
      intro d; have h0 := tm2 d; have h1 := rel4.tm d; by_cases hd : tb.get d = some .any
      . rw [hd, Option.getD_some, VRel]; exact True.intro
      . have n1 : d ∉ dsts f.pre5 := fun h => hd (htd d (List.mem_append_right _ h))
        have n2 : d ∉ dsts f.os4 := fun h => hd (htd d (List.mem_append_left _ h))
        have n3 : f.en ≠ d := fun h => hd (h ▸ hten)
        have hs : s3.t.get d = tb.get d := by
          rw [hdf3.2.2 d n1, hs2t d n2]; show (tb.set f.en _).get d = _; rw [Tri.get_set, if_neg n3]
        rw [hs] at h1; refine VRel_down _ _ _ h0 (VRel_mono (n := s3.n) (n' := N) (fun k hk => hnew k (by rw [en] at hk; exact hk)) (by rw [en]; exact q3) _ _ h1)
    . show a4.tmps.size = s1.nt; rw [rel4.nt, hdf3.2.1, hs2nt]
    . have hd4 := rel4.df; rw [edf] at hd4; have hd5 : DRel S B β5 N (addR q.M (q.hi - q.lo) q.lo M) w4 [] a4.defers := hd4.marks tot5.mem; exact hd5.post u3
    . have := p4.size; have := u3.size; omega
    . -- the map that is ranged over
      cases hcl' : cl with
      | true =>
        have hne : (β5 j).b ≠ (β5 X).b := fun h => by
          rw [hβj, hβX] at h; obtain ⟨o, hj0⟩ := hjo; have hj1 : M.get j = some o := (iv.getO j (hcl hcl') (by omega)).trans hj0
          exact hcl hcl' (t.mem.inj X j _ o iv.getX hj1 (by cases cl <;> rfl) h.symm).symm
        refine ⟨aJ, cJ, lJ, ?_, hpJ, hbJ, hsc2, fun i3 e' x' h1 h2 => ?_⟩
        . rw [u4 _ hne, hβj, hfr _ (hlt _ ⟨_, hhJ⟩)]; exact hhJ
        . obtain ⟨k1, k2⟩ := hvJ i3 e' x' h1 h2; have hm : ∀ k, Key β (Nat.succ s1.n) k -> β5 k = β k := fun k hk => by rw [b1, if_neg (by have := hk.1; omega)]
          exact ⟨VRel_mono hm (Nat.le_refl _) _ _ k1, fun h => VRel_mono hm (Nat.le_refl _) _ _ (k2 fun h' => h (List.mem_cons_of_mem _ h'))⟩
      | false =>
        have hjX := hjX hcl'; subst hjX; obtain ⟨_, _, hor⟩ := totF.mem.key j _ (by rw [Tri.get_set, if_pos rfl])
        rw [hcl'] at hor; obtain ⟨a5, k1, k2⟩ := hor; refine ⟨a5, c, a5.toList, k1, .refl _, by rw [ERels_borns k2, esD_borns]; exact (hBs hcl').1.symm, (hBs hcl').2, fun i3 e' x' h1 h2 => ?_⟩
        have h3 : (esD l (i :: D) es)[i3]? = some (if i3 ∈ i :: D then ⟨e'.key, valAt l i3 e', e'.born⟩ else e') := by rw [esD_get, h1]; rfl
        obtain ⟨m1, m2, _⟩ := ERels_get k2 h3 h2; obtain ⟨ex, v0, hr0⟩ := href; obtain ⟨y, hy'⟩ : ∃ y, v0[i3]? = some y := ⟨_, List.getElem?_eq_getElem (by rw [ERels_len hr0]; exact (List.getElem?_eq_some_iff.1 h1).1)⟩
        obtain ⟨z1, z2, _⟩ := ERels_get hr0 h1 hy'; have up : ∀ {z : ZV} {v : Value}, VRel S β5 s1.n z v -> VRel S β5 (Nat.succ s1.n) z v := fun h => VRel_mono (fun _ _ => rfl) (Nat.le_succ _) _ _ h
        refine ⟨up (VRel_down (N := N) _ _ _ z1 ?_), fun h => up (VRel_down (N := N) _ _ _ z2 ?_)⟩
        . split at m1 <;> exact m1
        . rw [if_neg h] at m2; exact m2
    . rw [u4 _ hrX, hβj, hfr _ (hlt _ ⟨_, hit2⟩)]; exact hit2
    . rw [hβn]; exact iv.βit
    . -- the iterator's block
      rw [Tri.get_set] at hk; by_cases h : X = k
      . subst h; exact fun h => hrX h.symm
      . rw [if_neg h, hget] at hk; by_cases h2 : q.lo <= k /\ k < q.hi
        . rw [if_pos h2] at hk; have := hbig k o h2.1 h2.2 hk; rw [b1, if_pos h2]; have := hlt r ⟨_, hit2⟩; omega
        . rw [if_neg h2] at hk; rw [b1, if_neg h2]; exact iv.priv k o hk
    . rw [hs2, Array.toList_push, List.mem_append, List.mem_singleton, iv.seenD i2 b hb, List.mem_cons]; have hbx : Bs[i]? = some x.born := by rw [<- hbJ, List.getElem?_map, hxi]; rfl
      constructor
      . rintro (h | h)
        . exact .inr h
        . subst h; exact .inl ((List.getElem?_inj (List.getElem?_eq_some_iff.1 hb).1 hBd).1 (hb.trans hbx.symm))
      . rintro (h | h)
        . subst h; rw [hb] at hbx; cases hbx; exact .inr rfl
        . exact .inl h
    . rcases List.mem_cons.1 h with h | h
      . subst h; exact (List.getElem?_eq_some_iff.1 hei).1
      . exact iv.Dlt i2 h
  refine run4 S w0 B β _ w2 ro nn _ (.inr hdf3.1) rel2 fun β3 a4 w4 rel4 p4 => ?_
  show (Code.region r5 ops5 f.d).wpIn (FW ro) nn P (Exit.inBlock b2 Q) a4 w4
  cases hd : f.d with
  | true =>
    rw [hd] at e3; have h5a : ops5.toList = f.pre5 ++ [lo] := by rw [h5, h5']
    obtain ⟨_, run5⟩ := draw_pre ok hc hy (id := r5) h5a g5.2.2 (by rw [h5]; exact hlb hd) e3
    exact run5 S w0 B β3 a4 w4 ro nn _ rel4 fun β' a' w' rel' p' => last β' a' w' rel' (p4.trans p')
  | false =>
    rw [hd] at e3; have e3' : lfold (zstep E cf yf ops5.toList) f.pre5 s2 = some s3 := by rw [h5]; exact e3
    obtain ⟨_, run5⟩ := zops_then (os2 := [lo]) ok hc hy f.pre5 _ s3 e3'; refine wpIn_region_list ?_; rw [h5, h5']; refine run5 S w0 B β3 a4 w4 ro nn _ (.inr edf) rel4 fun β' a' w' rel' p' => ?_
    rw [wpListIn, if_pos (wanted_none g5.2.2)]; exact Oper.wpIn_mono (fun a w h => h) (last β' a' w' rel' (p4.trans p'))
end
end Go.Z
namespace Go.Z
open Go.Eng (TI TD DV DRep DRows DCells Snap nth upd slice' splice TabOk tiOk tdOk TFacts FW)
open Go.ChangeMaps (setBlock)
theorem Rngs.cover {a b : Nat} {l : List RR} (h : Rngs a l b) {k : Nat} (h1 : a <= k) (h2 : k < b) : ∃ (i : Nat) (r : RR), l[i]? = some r /\ r.lo <= k /\ k < r.hi := by
  induction h with
  | nil => omega
  | cons h g ih =>
    rename_i r l n
    by_cases hk : k < r.hi
    . exact ⟨0, r, rfl, h1, hk⟩
    . obtain ⟨i, q, g1, g2⟩ := ih (by omega) h2
      exact ⟨i + 1, q, by simpa using g1, g2⟩
section
variable {P : Program} {E : Env} {cf yf : CF} {S : Snap} {w0 wS w w' : World} {B : Nat} {βS β β' : Nat -> Loc} {s1 : ZS} {X j : Nat} {cl : Bool} {c n n' : Nat} {es : List ZEnt} {l : List RR} {N : Nat} {tb : Tri ZV} {Bs : List Nat} {r since : Nat} {D : List Nat} {a : Act} {M M' M2 : Tri ZO} {seen : Array Nat} {c0 : Nat} {f : MFor}
theorem ZPost.congr (p : ZPost S w0 β n M w β' n' M' w') (h : ∀ k, M2.get k = M'.get k) : ZPost S w0 β n M w β' n' M2 w' :=
  ⟨⟨p.mem.os, p.mem.tape, p.mem.output, p.mem.size, p.mem.old, p.mem.sub, fun k o g => p.mem.key k o ((h k).symm.trans g), fun k o g => p.mem.own k o ((h k).symm.trans g),
    fun i k oi ok gi gk => p.mem.inj i k oi ok ((h i).symm.trans gi) ((h k).symm.trans gk), fun k T hh d g => p.mem.low k T hh d ((h k).symm.trans g)⟩, p.nn, p.keep0, p.size, p.frame,
    fun k o g => p.rd k o ((h k).symm.trans g), fun k o g => p.wr k o ((h k).symm.trans g)⟩
theorem ZMem.roT (m : ZMem S w0 β n M w) : ZMem S w0 β n M.roT w := by
  have src : ∀ k o, M.roT.get k = some o -> ∃ T lo h d, o = .ro T lo h d /\ (M.get k = some (.cells T lo h d) \/ M.get k = some (.ro T lo h d)) := by
    intro k o h; rw [Tri.roT_get] at h
    cases hm : M.get k with
    | none => rw [hm] at h; cases h
    | some o' =>
      rw [hm] at h; cases o' <;> simp [roO] at h
      . exact ⟨_, _, _, _, h.symm, .inl rfl⟩
      . exact ⟨_, _, _, _, h.symm, .inr rfl⟩
  refine ⟨m.os, m.tape, m.output, m.size, m.old, m.sub, fun k o h => ?_, fun k o h hw => ?_, fun i k oi ok hi hk hw => ?_, fun k T h d hh => ?_⟩
  . obtain ⟨T, lo, h, d, rfl, g | g⟩ := src k o h
    . obtain ⟨g1, g2, cur, g3, g4⟩ := m.key k _ g; exact ⟨g1, g2, cur, _, g3, g4⟩
    . exact m.key k _ g
  . obtain ⟨T, lo, h, d, rfl, _⟩ := src k o h; cases hw
  . obtain ⟨T, lo, h, d, rfl, _⟩ := src i oi hi; cases hw
  . obtain ⟨T', lo, h', d', e, _⟩ := src k _ hh; cases e
theorem TRel.anys {t : Tri ZV} {tm : Array Value} (h : TRel S β n t tm) (l : List Nat) : TRel S β n (anys l t) tm := by
  intro d; rw [anys_get]; by_cases e : d ∈ l
  . rw [if_pos e, Option.getD_some, VRel]; exact True.intro
  . rw [if_neg e]; exact h d
theorem Inv.slots (iv : Inv S w0 wS B βS s1 X j cl c es l N tb Bs r since D a w β M seen c0) {a' : Act} (h1 : TRel S β (Nat.succ s1.n) tb a'.tmps) (h2 : a'.tmps.size = a.tmps.size) (h3 : a'.defers = a.defers) : Inv S w0 wS B βS s1 X j cl c es l N tb Bs r since D a' w β M seen c0 :=
  ⟨iv.tot, iv.getX, iv.getO, iv.getN, iv.res, iv.rom, h1, h2.trans iv.nt, by rw [h3]; exact iv.df, iv.lo, iv.jf, iv.it, iv.sc, iv.βit, iv.priv, iv.rge, iv.seenD, iv.Dlt, iv.Dnd⟩
theorem nodup_lt : ∀ (m : Nat) (D : List Nat), D.Nodup -> (∀ k ∈ D, k < m) -> D.length <= m
  | 0, [], _, _ => Nat.le_refl _
  | 0, d :: D, _, h => absurd (h d (by simp)) (Nat.not_lt_zero _)
  | m + 1, D, hd, h => by
    have ih := nodup_lt m (D.erase m) (hd.erase m) fun k hk => by
      have h1 := h k (List.mem_of_mem_erase hk); have h2 : k ≠ m := fun e => by subst e; exact (hd.not_mem_erase) hk
      omega
    by_cases hm : m ∈ D
    . rw [List.length_erase_of_mem hm] at ih; omega
    . rw [List.erase_of_not_mem hm] at ih; omega
theorem mloop (ok : EnvOk P E) (hc : CFok P cf) (hy : YFok P yf) (hS : w0.heap.size <= wS.heap.size) (mf : MFacts E cf yf f s1 X es tb l N) (hdist : distinct es) (hX : X < s1.n) (hj : j < s1.n) (hjX : cl = false -> j = X) (hcl : cl = true -> j ≠ X)
    {nops ops4 ops5 : Array Oper} (hn : nextAt nops.toList = some (f.it, f.i, f.e)) (h4 : entAt ops4.toList = some (f.it, f.en, f.os4)) (h4' : ops4.toList = f.ops4) (h5 : ops5.toList = f.ops5) (hu : lastUpd f.ops5 = some (f.pre5, f.U, f.m, f.k, f.v)) (hlb : f.d = true -> lastBinds f.ops5 f.pre5.length = true)
    (hie : f.i ≠ f.e) (hi : f.i < s1.nt) (he : f.e < s1.nt) (hen : f.en < s1.nt) (htb : ∀ d ∈ zmods f, tb.get d = some .any) (hit : tb.get f.it = some (.ptr s1.n 0))
    (href : ∃ (ex : Bool) (v0 : List MapEntry), ERels S βS s1.n ex es v0) (hjo : ∃ o, s1.M.get j = some o) (hBs : cl = false -> Bs = es.map (·.born) /\ since <= c) (hBd : Bs.Nodup) (hBl : Bs.length = es.length) (hBs2 : ∀ b ∈ Bs, b < since)
    {ro : Option Nat} {nn bl nid b2 r4 r5 : Nat} {QQ : Exit -> Act -> World -> Prop}
    (hfin : ∀ D a w β M seen c0, Inv S w0 wS B βS s1 X j cl c es l N tb Bs r since D a w β M seen c0 -> (∀ i, i < es.length -> i ∈ D) -> QQ .normal a w) :
    ∀ (k : Nat) (D : List Nat) (a : Act) (w : World) (β : Nat -> Loc) (M : Tri ZO) (seen : Array Nat) (c0 : Nat), Inv S w0 wS B βS s1 X j cl c es l N tb Bs r since D a w β M seen c0 -> es.length = D.length + k ->
      Code.roundsIn (FW ro) nn P (.seq (.region nid nops false) (.seq (.cond (.tmp f.e) .skip (.exit bl)) (.block b2 (.seq (.region r4 ops4 false) (.region r5 ops5 f.d))))) (Exit.inBlock bl QQ) (k + 1) a w := by
  obtain ⟨o, p, hnl, o1, o2, o3, p1, p2, p3⟩ := nextAt_inv hn; obtain ⟨oe, hel, g4⟩ := entAt_inv h4; obtain ⟨lo, h5', g5⟩ := lastUpd_inv hu; have ti : tb.get f.i = some .any := htb _ (by simp [zmods])
  have te : tb.get f.e = some .any := htb _ (by simp [zmods])
  have step : ∀ (k : Nat), (∀ k', k = k' + 1 -> ∀ (D : List Nat) (a : Act) (w : World) (β : Nat -> Loc) (M : Tri ZO) (seen : Array Nat) (c0 : Nat), Inv S w0 wS B βS s1 X j cl c es l N tb Bs r since D a w β M seen c0 -> es.length = D.length + k' ->
      Code.roundsIn (FW ro) nn P (.seq (.region nid nops false) (.seq (.cond (.tmp f.e) .skip (.exit bl)) (.block b2 (.seq (.region r4 ops4 false) (.region r5 ops5 f.d))))) (Exit.inBlock bl QQ) (k' + 1) a w) -> ∀ (D : List Nat) (a : Act) (w : World) (β : Nat -> Loc) (M : Tri ZO) (seen : Array Nat) (c0 : Nat), Inv S w0 wS B βS s1 X j cl c es l N tb Bs r since D a w β M seen c0 -> es.length = D.length + k ->
      Code.roundsIn (FW ro) nn P (.seq (.region nid nops false) (.seq (.cond (.tmp f.e) .skip (.exit bl)) (.block b2 (.seq (.region r4 ops4 false) (.region r5 ops5 f.d))))) (Exit.inBlock bl QQ) (k + 1) a w := by
    intro k ih D a w β M seen c0 iv hk; rw [roundsIn_succ]; refine wpIn_seq (wpIn_region_list ?_); obtain ⟨aJ, cJ, lJ, f1, f2, f3, fsc, f4⟩ := iv.jf; have hold : ∀ x ∈ aJ.toList, x.born < since := fun x hx => hBs2 _ (by rw [<- f3]; exact List.mem_map_of_mem (f2.mem_iff.2 hx))
    have hev : a.eval (.tmp f.it) = .pointer (some ⟨r, 0, none⟩) := by
      have := iv.tm f.it; rw [hit, Option.getD_some, VRel] at this; obtain ⟨_, k', e1, e2⟩ := this; rw [iv.βit.1] at e2; have : k' = 0 := by have := iv.βit.2.1; omega
      rw [this] at e2; exact e2
    rw [hnl, wpListIn, if_pos (wanted_none o3)]
    have put2 : ∀ (t b : Value), let a2 : Act := (a.put (some f.i) t).put (some f.e) b; TRel S β (Nat.succ s1.n) tb a2.tmps /\ a2.tmps.size = a.tmps.size /\ a2.defers = a.defers /\ a2.eval (.tmp f.e) = b := by
      intro t b; have hsz : f.e < (a.tmps.setIfInBounds f.i t).size := by rw [Array.size_setIfInBounds, iv.nt]; exact he
      refine ⟨TRel.anyput te (TRel.anyput ti iv.tm _) _, by simp [Act.put], rfl, ?_⟩
      show ((a.tmps.setIfInBounds f.i t).setIfInBounds f.e b).getD f.e undef = b; rw [Array.getD_eq_getD_getElem?, Array.getElem?_setIfInBounds_self_of_lt hsz]; rfl
    have hget1 : ∀ (t : Value), (a.put (some f.i) t).eval (.tmp f.i) = t := by
      intro t; show (a.tmps.setIfInBounds f.i t).getD f.i undef = t; rw [Array.getD_eq_getD_getElem?, Array.getElem?_setIfInBounds_self_of_lt (by rw [iv.nt]; exact hi)]
      rfl
    have hex : ∀ (cs : Array Value) (b : Value) (w' : World), cs[0]? = some b -> (execOp (a.put (some f.i) (.tuple cs)).eval p).run P w' = .ok (.value b) w' := by
      intro cs b w' hb; simp only [execOp, p1, hget1, Sem.run_bind, Instr.extract, hb, Sem.run_pure, Result.andThen_ok]
    rcases run_next_at (P := P) w o.type r (β j).b since c0 seen aJ cJ iv.it f1 hold iv.sc with ⟨hz, hrun⟩ | ⟨x, hx, w1, hw1, hrun⟩
    . -- nothing is left
      refine oper_run (fun c h => by rw [o1] at h; cases h) (v := .tuple #[.bool false]) (w' := w) (by simp only [execOp, o1, hev, Sem.run_bind, hrun, Result.andThen_ok]; rfl) ?_
      rw [o2, wpListIn, if_pos (wanted_none p3)]; refine oper_run (fun c h => by rw [p1] at h; cases h) (v := .bool false) (w' := w) (hex _ _ _ rfl) ?_
      rw [p2, wpListIn]; obtain ⟨t1, t2, t3, t4⟩ := put2 (.tuple #[.bool false]) (.bool false); show Code.wpIn _ _ _ _ _ _ _; refine wpIn_seq (wpIn_cond_false t4 (wpIn_exit ?_)); show (if bl = bl then QQ .normal _ w else QQ (.exit bl) _ w)
      rw [if_pos rfl]; refine hfin D _ w β M seen c0 (iv.slots t1 t2 t3) fun i hi => ?_
      obtain ⟨y, hy⟩ : ∃ y, lJ[i]? = some y := ⟨_, List.getElem?_eq_getElem (by rw [<- List.length_map (f := (·.born)), f3, hBl]; exact hi)⟩
      have hb : Bs[i]? = some y.born := by rw [<- f3, List.getElem?_map, hy]; rfl
      refine (iv.seenD i _ hb).1 (Classical.byContradiction fun hns => ?_)
      have hmem : y ∈ (leftOf aJ seen).toList := by
        unfold leftOf; simp only [Array.toList_filter, List.mem_filter]; exact ⟨f2.mem_iff.1 (List.mem_of_getElem? hy), by simpa using hns⟩
      have : (leftOf aJ seen).toList = [] := List.eq_nil_of_length_eq_zero (by rw [Array.length_toList]; exact hz)
      rw [this] at hmem; cases hmem
    . -- a round
      have hxa : x ∈ aJ.toList /\ x.born ∉ seen.toList := by
        unfold leftOf at hx; simp only [Array.toList_filter, List.mem_filter] at hx; exact ⟨hx.1, by simpa using hx.2⟩
      obtain ⟨i, hil, hxi⟩ := List.getElem_of_mem (f2.mem_iff.2 hxa.1); have hxi : lJ[i]? = some x := by rw [<- hxi]; exact List.getElem?_eq_getElem hil
      have hle : i < es.length := by rw [<- hBl, <- f3, List.length_map]; exact hil
      obtain ⟨e, hei⟩ : ∃ e, es[i]? = some e := ⟨_, List.getElem?_eq_getElem hle⟩; have hb : Bs[i]? = some x.born := by rw [<- f3, List.getElem?_map, hxi]; rfl
      have hiD : i ∉ D := fun h => hxa.2 ((iv.seenD i _ hb).2 h)
      have hlen : D.length < es.length := by
        have h1 : (i :: D).length <= es.length := by
          refine nodup_lt _ _ (List.nodup_cons.2 ⟨hiD, iv.Dnd⟩) fun k hk => ?_
          rcases List.mem_cons.1 hk with h | h
          . subst h; exact hle
          . exact iv.Dlt k h
        simpa [Nat.lt_iff_add_one_le] using h1
      obtain ⟨k', hk'⟩ : ∃ k', k = k' + 1 := ⟨k - 1, by omega⟩
      have ih := ih k' hk'; rw [hk']; obtain ⟨st1, st2, st3, st4, st5, st6⟩ := iv.step hS hw1 (seen' := seen.push x.born) (c0' := cJ); refine oper_run (fun c h => by rw [o1] at h; cases h) (v := .tuple #[.bool true, x.key, x.val]) (w' := setBlock w1 r (.mapIter (some (β j).b) since (seen.push x.born) cJ)) (by simp only [execOp, o1, hev, Sem.run_bind, hrun, Result.andThen_ok]; rfl) ?_
      rw [o2, wpListIn, if_pos (wanted_none p3)]; refine oper_run (fun c h => by rw [p1] at h; cases h) (v := .bool true) (hex _ _ _ rfl) ?_
      rw [p2, wpListIn]; obtain ⟨t1, t2, t3, t4⟩ := put2 (.tuple #[.bool true, x.key, x.val]) (.bool true); show Code.wpIn _ _ _ _ _ _ _; refine wpIn_seq (wpIn_cond_true t4 (wpIn_skip ?_)); show Code.wpIn _ _ _ _ _ _ _; have hrj : (β j).b ≠ r := fun h => by rw [h, iv.it] at f1; cases f1
      have hit' : f.it ≠ f.i /\ f.it ≠ f.e := by
        constructor <;> (intro h; rw [h] at hit; first | (rw [ti] at hit; cases hit) | (rw [te] at hit; cases hit))
      refine iv.round ok hc hy hS mf hdist hX hj hjX hcl hel h4' g4 h5 h5' g5 hlb hen (htb _ (by simp [zmods])) (fun d hd => htb d (by simp only [zmods, List.mem_cons]; exact .inr (.inr (.inr hd)))) href hjo hBs hBd hei hiD hxi (by rw [st4 _ hrj]; exact f1) f2 f3 f4 rfl st5 ?_ st1 st2 (by rw [t3]; exact st3) t1 (by rw [t2]; exact iv.nt) (by rw [st6]; exact iv.lo) ?_ ?_
      . exact fsc
      . show ((a.tmps.setIfInBounds f.i _).setIfInBounds f.e _).getD f.it undef = _; rw [Array.getD_eq_getD_getElem?, Array.getElem?_setIfInBounds_ne (fun h => hit'.2 h.symm), Array.getElem?_setIfInBounds_ne (fun h => hit'.1 h.symm), <- Array.getD_eq_getD_getElem?]
        exact hev
      . intro a' w' β' M' seen' c0' iv'; exact ih (i :: D) a' w' β' M' seen' c0' iv' (by simp only [List.length_cons]; omega)
  intro k
  induction k with
  | zero => exact step 0 (fun k' h => by cases h)
  | succ k ih => exact step (k + 1) (fun k' h => by cases h; exact ih)
end
end Go.Z
namespace Go.Z
open Go.Eng (TI TD DV DRep DRows DCells Snap nth upd slice' splice TabOk tiOk tdOk TFacts FW)
theorem rangeAt_inv {x y : Code} {f : MFor} (h : rangeAt x y = some f) : ∃ (xid : Nat) (xops : Array Oper) (bl : Nat) (nid : Nat) (nops ops4 ops5 : Array Oper) (b2 r4 r5 : Nat),
    x = .region xid xops false /\ y = .block bl (.loop (.seq (.region nid nops false) (.seq (.cond (.tmp f.e) .skip (.exit bl)) (.block b2 (.seq (.region r4 ops4 false) (.region r5 ops5 f.d)))))) /\
    lastRange xops.toList = some (f.pre, f.it, f.T, f.x) /\ xops.toList = f.ops /\ nextAt nops.toList = some (f.it, f.i, f.e) /\ entAt ops4.toList = some (f.it, f.en, f.os4) /\ ops4.toList = f.ops4 /\ ops5.toList = f.ops5 /\
    lastUpd f.ops5 = some (f.pre5, f.U, f.m, f.k, f.v) /\ f.i ≠ f.e /\ f.it ∉ zmods f /\ (f.d = true -> lastBinds f.ops5 f.pre5.length = true) := by
  unfold rangeAt at h; split at h
  . rename_i xid xops
    split at h
    . rename_i pre it T xo hl
      split at h
      . rename_i bl L
        split at h
        . rename_i it' i e ops4 it2 en os4 d ops5 hb
          split at h
          . rename_i pre5 U m k v hu
            split at h
            . rename_i hc
              cases h; simp only [Bool.and_eq_true, Bool.or_eq_true, Bool.not_eq_true'] at hc; obtain ⟨⟨⟨c1, c2⟩, c3⟩, c4⟩ := hc; have c1 := Nat.eq_of_beq_eq_true c1; subst c1; unfold bodyAt at hb; split at hb
              . rename_i nid nops c b' b2 r4 a4 r5 a5 d'
                split at hb
                . rename_i it3 i3 e3 it4 en4 os44 hn he
                  split at hb
                  . rename_i hbb
                    cases hb; simp only [Bool.and_eq_true] at hbb; obtain ⟨⟨k1, k2⟩, k3⟩ := hbb; have k1 := Nat.eq_of_beq_eq_true k1; have k2 := Nat.eq_of_beq_eq_true k2; have k3 := Nat.eq_of_beq_eq_true k3; subst k1 k2 k3; refine ⟨xid, xops, _, nid, nops, a4, a5, b2, r4, r5, rfl, rfl, hl, rfl, hn, he, rfl, rfl, hu, fun hh => ?_, fun hh => ?_, fun hd => ?_⟩
                    . have hh : i = _ := hh; rw [hh] at c2; simp at c2
                    . have := inN_true.2 hh; simp only [zmods] at this; rw [this] at c3; cases c3
                    . rcases c4 with c4 | c4
                      . have hd : d = true := hd; rw [hd] at c4; cases c4
                      . exact c4
                  . cases hb
                . cases hb
              . cases hb
            . cases h
          . cases h
        . cases h
      . cases h
    . cases h
  . cases h
theorem noTwo_nodup : ∀ {l : List Nat}, noTwo l = true -> l.Nodup
  | [], _ => List.nodup_nil
  | a :: l, h => by
    rw [noTwo, Bool.and_eq_true, Bool.not_eq_true'] at h; refine List.nodup_cons.2 ⟨fun hm => ?_, noTwo_nodup h.2⟩
    have := inN_true.2 hm; rw [this] at h; cases h.1
section
variable {P : Program} {E : Env} {cf yf : CF}
theorem esD_nil {l : List RR} {es : List ZEnt} : esD l [] es = es := by
  refine List.ext_getElem? fun i => ?_
  rw [esD_get]; cases es[i]? <;> simp
theorem map_ok (ok : EnvOk P E) (hc : CFok P cf) (hy : YFok P yf) : MapOK P E cf yf := by
  intro x y f s s' hr h; obtain ⟨xid, xops, bl, nid, nops, ops4, ops5, b2, r4, r5, rfl, rfl, hl, hxo, hn, h4, h4', h5, hu, hie, hitm, hlb⟩ := rangeAt_inv hr; obtain ⟨ro_, hro1, hro2, hro3, hro4⟩ := lastRange_inv hl; unfold zmf at h; split at h
  . rename_i s1 hs1
    split at h
    . rename_i kt vt j hdf hT hx
      split at h
      . rename_i o ho
        split at h
        . rename_i es hes
          split at h
          . rename_i hck
            simp only [Bool.and_eq_true] at hck; obtain ⟨⟨⟨⟨⟨ck1, ck2⟩, ck3⟩, ck4⟩, ck5⟩, ck6⟩ := hck; have ck3 := blt_true ck3; have ck4 := blt_true ck4; have ck5 := blt_true ck5; have ck6 := blt_true ck6; have hdist := distinctB_sound ck1; unfold zmf2 at h; split at h
            . cases h
            . rename_i _ en es'
              split at h
              . rename_i X v0 M0 n0 hE
                split at h
                . rename_i l N hR hXb
                  have hX := blt_true hXb; split at h
                  . rename_i o' hlast
                    cases h; obtain ⟨m1, m2, m3⟩ := zmRounds_inv hR; have mf : MFacts E cf yf f s1 X (en :: es') (anys (zmods f) (s1.t.set f.it (some (.ptr s1.n 0)))) l N := ⟨m3, m1, m2⟩; have hs1' : lfold (zstep E cf yf xops.toList) f.pre s = some s1 := by rw [hxo]; exact hs1
                    obtain ⟨⟨l1, d1⟩, run1⟩ := zops_then (os2 := [ro_]) ok hc hy f.pre s s1 hs1'; refine ⟨⟨l1, by rw [<- hdf]; exact d1⟩, fun S w0 B β a w ro nn QQ hR0 hro rel hq => ?_⟩
                    refine wpIn_region_list ?_; rw [hro1]; refine run1 S w0 B β a w ro nn _ (.inr hdf) rel fun β1 a1 w1 rel1 p1 => ?_
                    rw [wpListIn, if_pos (wanted_none hro4)]; have mem1 := rel1.mem; obtain ⟨hkj, hbj, horj⟩ := mem1.key j o ho; have hjlt : j < s1.n := hkj.1
                    have start : ∃ (aJ : Array MapEntry) (cJ : Nat) (lJ : List MapEntry) (ex : Bool), w1.heap[(β1 j).b]? = some (.map aJ cJ) /\ lJ.Perm aJ.toList /\ ERels S β1 s1.n ex (en :: es') lJ /\ BornsOK aJ.toList cJ /\ (∀ c es, o = .map c es -> cJ = c /\ lJ.map (·.born) = es.map (·.born)) := by
                      cases o with
                      | map c es2 =>
                        simp [zents] at hes; subst hes; obtain ⟨aJ, k1, k2⟩ := horj; have hbb := ERels_borns k2; simp only [bornsB, Bool.and_eq_true, List.all_eq_true] at ck2; refine ⟨aJ, c, aJ.toList, true, k1, .refl _, k2, ⟨by rw [hbb]; exact noTwo_nodup ck2.1, fun x hx => ?_⟩, fun c' es3 e => by cases e; exact ⟨rfl, hbb⟩⟩
                        have : x.born ∈ (en :: es').map (·.born) := by rw [<- hbb]; exact List.mem_map_of_mem hx
                        obtain ⟨e, he, e1⟩ := List.mem_map.1 this; rw [<- e1]; exact blt_true (ck2.2 e he)
                      | umap es2 =>
                        simp [zents] at hes; subst hes; obtain ⟨aJ, c, lJ, k1, k2, k3, _, k5⟩ := horj; exact ⟨aJ, c, lJ, false, k1, k2, k3, k5, fun c' es3 e => by cases e⟩
                      | _ => simp [zents] at hes
                    obtain ⟨aJ, cJ, lJ, ex, j1, j2, j3, j4, j5⟩ := start
                    have hTd : P.underlying f.T = some (.map kt vt) := by
                      rcases ok.tab.ty f.T with e | ⟨info, d, z, _, e2, _, _, _, _, e7⟩
                      . rw [hT] at e; cases e
                      . rw [hT] at e7; rw [e2]; exact congrArg some e7
                    have hxv : a1.eval f.x = .map (some (β1 j).b) := by
                      have := zrd_sound rel1.tm f.x; rw [hx, VRel] at this; exact this.2
                    have hrun := run_range_map (P := P) w1 f.T kt vt (β1 j).b aJ cJ hTd j1; refine oper_run (fun c h => by rw [hro2] at h; cases h) (v := .pointer (some ⟨w1.heap.size, 0, none⟩)) (w' := w1.alloc (.mapIter (some (β1 j).b) cJ #[] cJ)) (by simp only [execOp, hro2, hxv, Sem.run_bind, hrun, Result.andThen_ok]; rfl) ?_
                    rw [hro3, wpListIn]; show Code.wpIn _ _ _ _ _ _ _; refine wpIn_block (wpIn_loop_rounds ((en :: es').length + 1) ?_); obtain ⟨cl, hcl⟩ : ∃ cl : Bool, cl = !Nat.beq X j := ⟨_, rfl⟩
                    have hclF : cl = false -> j = X := fun e => by
                      rw [e] at hcl; have : Nat.beq X j = true := by cases hb : Nat.beq X j <;> simp [hb] at hcl ⊢
                      exact (Nat.eq_of_beq_eq_true this).symm
                    have hclT : cl = true -> j ≠ X := fun e hh => by
                      rw [e, hh] at hcl; have : Nat.beq X X = true := Nat.beq_refl X; rw [this] at hcl; cases hcl
                    unfold zmLast at hlast
                    have tgt : ∃ oX c, s1.M.get X = some oX /\ isW oX = true /\ (∀ T h d, oX ≠ .cells T 0 h d) /\ (∀ (β : Nat -> Loc) (n : Nat) (w : World) (L : Loc), ORel S β n w L oX -> ORel S β n w L (conO cl c (en :: es') l [])) /\ (cl = false -> o = .map c (en :: es')) /\
                        (∀ D : List Nat, D.Nodup -> (∀ i ∈ D, i < (en :: es').length) -> (∀ i, i < (en :: es').length -> i ∈ D) -> ∀ (β : Nat -> Loc) (n : Nat) (w : World) (L : Loc), ORel S β n w L (conO cl c (en :: es') l D) -> ORel S β n w L o') /\ isW o' = true /\ (∀ T h d, o' ≠ .cells T 0 h d) := by
                      cases hb : Nat.beq X j with
                      | true =>
                        have hXj := Nat.eq_of_beq_eq_true hb; rw [hb] at hlast hcl; have hcl : cl = false := hcl; subst hcl
                        cases o with
                        | map c es2 =>
                          simp [zents] at hes; subst hes; simp only [Option.some.injEq] at hlast; subst hlast; refine ⟨_, c, by rw [hXj]; exact ho, rfl, fun T h d e => (by cases e), fun β n w L g => ?_, fun _ => rfl, fun D h1 h2 h3 β n w L g => ?_, rfl, fun T h d e => (by cases e)⟩
                          . simp only [conO, esD_nil]; exact g
                          . simp only [conO, esD_full m1 h3] at g; exact g
                        | _ => cases hlast
                      | false =>
                        rw [hb] at hlast hcl; have hcl : cl = true := hcl; subst hcl
                        have fin : ∀ D : List Nat, D.Nodup -> (∀ i ∈ D, i < (en :: es').length) -> (∀ i, i < (en :: es').length -> i ∈ D) -> ∀ (β : Nat -> Loc) (n : Nat) (w : World) (L : Loc), ORel S β n w L (conO true 0 (en :: es') l D) -> ORel S β n w L (.umap (asNew (en :: es') l)) :=
                          fun D h1 h2 h3 β n w L g => ORel_perm (newD_full m1 h1 h2 h3) g
                        dsimp only at hlast
                        split at hlast
                        . rename_i c2 hM
                          cases hlast; exact ⟨_, 0, hM, rfl, fun T h d e => (by cases e), fun β n w L g => ORel_empty g, fun e => (by cases e), fin, rfl, fun T h d e => (by cases e)⟩
                        . rename_i hM
                          cases hlast; exact ⟨_, 0, hM, rfl, fun T h d e => (by cases e), fun β n w L g => g, fun e => (by cases e), fin, rfl, fun T h d e => (by cases e)⟩
                        . cases hlast
                    obtain ⟨oX, c, hMX, hWX, hnc, hini, hcF, hfinal, hWo, hnco⟩ := tgt; obtain ⟨r, hrr⟩ : ∃ r, r = w1.heap.size := ⟨_, rfl⟩; obtain ⟨β2, hβ2⟩ : ∃ β2 : Nat -> Loc, ∀ k, β2 k = if k < s1.n then β1 k else if k = s1.n then ⟨r, 0, 0, true⟩ else ⟨0, 0, 0, false⟩ := ⟨_, fun _ => rfl⟩
                    have hβlt : ∀ k, k < s1.n -> β2 k = β1 k := fun k hk => by rw [hβ2, if_pos hk]
                    have hnN : s1.n <= N := Nat.le_trans (Nat.le_succ _) m2.le
                    have pa : ZPost S w0 β1 s1.n s1.M w1 β1 s1.n (s1.M.set X (some (conO cl c (en :: es') l []))) w1 :=
                      ZPost.put mem1 hMX hWX (hini _ _ _ _ (mem1.key X oX hMX).2.2) (fun T h d e => by cases cl <;> cases e) rfl rfl rfl rfl (fun _ _ _ => rfl) (by cases cl <;> rfl)
                    have pb := pa.trans (ZPost.raise (N := N) (β' := β2) pa.mem hnN hβlt); have pc := pb.rekey (β' := β2) (fun _ _ => rfl) (fun k hk => rfl) (.mapIter (some (β1 j).b) cJ #[] cJ)
                    obtain ⟨w2, hw2⟩ : ∃ w2, w2 = w1.alloc (.mapIter (some (β1 j).b) cJ #[] cJ) := ⟨_, rfl⟩; rw [<- hw2] at pc ⊢; have hnew : w2.heap[r]? = some (.mapIter (some (β1 j).b) cJ #[] cJ) := by rw [hw2, hrr]; exact heap_alloc_new _ _
                    have hold : ∀ b, b < w1.heap.size -> w2.heap[b]? = w1.heap[b]? := fun b hb => by rw [hw2]; exact heap_alloc_old _ _ hb
                    have hsz : w1.heap.size <= w2.heap.size := pc.size; have hS : w0.heap.size <= w1.heap.size := mem1.size
                    have hj5 : cl = false -> lJ.map (·.born) = (en :: es').map (·.born) /\ cJ <= c := fun e => by
                      obtain ⟨e1, e2⟩ := j5 c _ (hcF e); exact ⟨e2, by omega⟩
                    have hBnd : (lJ.map (·.born)).Nodup := (j2.map (·.born)).nodup_iff.2 j4.1; have htb0 : ∀ d ∈ zmods f, (anys (zmods f) (s1.t.set f.it (some (.ptr s1.n 0)))).get d = some .any := fun d hd => by rw [anys_get, if_pos hd]
                    have hit0 : (anys (zmods f) (s1.t.set f.it (some (.ptr s1.n 0)))).get f.it = some (.ptr s1.n 0) := by rw [anys_get, if_neg hitm, Tri.get_set, if_pos rfl]
                    have hkm : ∀ k, Key β1 s1.n k -> β2 k = β1 k := fun k hk => hβlt k hk.1
                    have tmr : TRel S β2 (Nat.succ s1.n) (anys (zmods f) (s1.t.set f.it (some (.ptr s1.n 0)))) (a1.put (some f.it) (.pointer (some ⟨r, 0, none⟩))).tmps := by
                      refine TRel.anys ((rel1.tm.mono hkm (Nat.le_succ _)).put (by rw [rel1.nt]; exact ck3) ?_) _
                      rw [VRel]; have : β2 s1.n = ⟨r, 0, 0, true⟩ := by rw [hβ2, if_neg (Nat.lt_irrefl _), if_pos rfl]
                      exact ⟨⟨Nat.lt_succ_self _, by rw [this]⟩, 0, by rw [this]; rfl, by rw [this]⟩
                    have iv0 : Inv S w0 w1 B β1 s1 X j cl c (en :: es') l N (anys (zmods f) (s1.t.set f.it (some (.ptr s1.n 0)))) (lJ.map (·.born)) r cJ [] (a1.put (some f.it) (.pointer (some ⟨r, 0, none⟩))) w2 β2 (s1.M.set X (some (conO cl c (en :: es') l []))) #[] cJ := by
                      refine ⟨pc, by rw [Tri.get_set, if_pos rfl], fun k hk _ => by rw [Tri.get_set, if_neg fun h => hk h.symm], fun i q hq k h1 h2 => ?_, fun i q hq _ k h1 h2 => ?_, ?_, tmr, (Array.size_setIfInBounds ..).trans rel1.nt, ?_, Nat.le_trans rel1.lo hsz, ?_, ?_, Nat.le_refl _, ?_, fun k o hk => ?_, by omega, fun i b _ => by simp, fun i h => (by cases h), List.nodup_nil⟩
                      . have := (m2.at i q hq).1; rw [Tri.get_set, if_neg (by omega), if_neg (by simp)]
                        cases hm : s1.M.get k with
                        | none => rfl
                        | some ob => have := (mem1.key k ob hm).1.1; omega
                      . have := (m2.at i q hq).1; rw [hβ2, if_neg (by omega), if_neg (by omega)]
                      . exact mem1.roT.stay pc.mem hsz (Nat.le_succ _) hkm fun k o hk => hold _ (mem1.roT.key k o hk).2.1
                      . have := rel1.df.post pc; rw [hdf] at this; exact this
                      . refine ⟨aJ, cJ, lJ, by rw [hβlt j hjlt, hold _ hbj]; exact j1, j2, rfl, Nat.le_refl _, fun i e x h1 h2 => ?_⟩
                        obtain ⟨g1, g2, _⟩ := ERels_get j3 h1 h2; exact ⟨VRel_mono hkm (Nat.le_succ _) _ _ g1, fun _ => VRel_mono hkm (Nat.le_succ _) _ _ g2⟩
                      . rw [hβlt j hjlt]; exact hnew
                      . rw [hβ2, if_neg (Nat.lt_irrefl _), if_pos rfl]; exact ⟨rfl, rfl, rfl⟩
                      . rw [Tri.get_set] at hk; by_cases hkX : X = k
                        . subst hkX; rw [hβlt X hX]; have := (mem1.key X oX hMX).2.1; omega
                        . rw [if_neg hkX] at hk; obtain ⟨g1, g2, _⟩ := mem1.key k o hk; rw [hβlt k g1.1]; omega
                    rw [hrr] at iv0; refine mloop ok hc hy hS mf hdist hX hjlt hclF hclT hn h4 h4' h5 hu hlb hie ck4 ck5 ck6 htb0 hit0 ⟨ex, lJ, j3⟩ ⟨o, ho⟩ hj5 hBnd (by rw [List.length_map, ERels_len j3]) (fun b hb => ?_) ?_ (en :: es').length [] _ w2 β2 _ #[] cJ iv0 (by simp)
                    . obtain ⟨x, hx1, rfl⟩ := List.mem_map.1 hb; exact j4.2 x (j2.mem_iff.1 hx1)
                    . -- the end
                      intro D a' w' β' M' seen c0 iv hall; obtain ⟨g1, g2, g3⟩ := iv.tot.mem.key X _ iv.getX
                      have q1 : ZPost S w0 β' N M' w' β' N (M'.set X (some o')) w' :=
                        ZPost.put iv.tot.mem iv.getX (by cases cl <;> rfl) (hfinal D iv.Dnd iv.Dlt hall _ _ _ _ g3) (fun T h d e => absurd e (hnco T h d)) rfl rfl rfl rfl (fun _ _ _ => rfl) hWo
                      have q2 := (iv.tot.trans q1).congr (M2 := addRs l (s1.M.set X (some o'))) (fun k => by
                        obtain ⟨r1, r2⟩ := addRs_get l _ _ (s1.M.set X (some o')) k m2; by_cases hex : ∃ (i : Nat) (q : RR), l[i]? = some q /\ q.lo <= k /\ k < q.hi
                        . obtain ⟨i, q, e1, e2, e3⟩ := hex; have := (m2.at i q e1).1; rw [r1 i q e1 e2 e3, Tri.get_set, if_neg (by omega), iv.getN i q e1 k e2 e3, if_pos (hall i (by rw [<- m1]; exact (List.getElem?_eq_some_iff.1 e1).1))]
                        . rw [r2 fun i q e1 hh => hex ⟨i, q, e1, hh.1, hh.2⟩, Tri.get_set, Tri.get_set]
                          by_cases hkX : X = k
                          . rw [if_pos hkX, if_pos hkX]
                          . rw [if_neg hkX, if_neg hkX]; by_cases hkn : k < Nat.succ s1.n
                            . exact (iv.getO k (fun e => hkX e.symm) hkn).symm
                            . have e1 : s1.M.get k = none := by
                                cases hm : s1.M.get k with
                                | none => rfl
                                | some ob => have := (mem1.key k ob hm).1.1; omega
                              have e2 : M'.get k = none := by
                                cases hm : M'.get k with
                                | none => rfl
                                | some ob =>
                                  have := (iv.tot.mem.key k ob hm).1.1; obtain ⟨i, q, e1, e2, e3⟩ := m2.cover (Nat.not_lt.1 hkn) this; exact absurd ⟨i, q, e1, e2, e3⟩ hex
                              rw [e1, e2])
                      refine hq β' a' w' ⟨q2.mem, iv.tm.mono (fun _ _ => rfl) m2.le, iv.nt, iv.df.marks q2.mem, iv.lo⟩ (p1.trans q2)
                  . cases h
                . cases h
              . cases h
          . cases h
        . cases h
      . cases h
    . cases h
  . cases h
theorem zsound {oc : Nat -> Option CF} (ok : EnvOk P E) (ho : OcOK P oc) (fuel : Nat) : CFok P (zcall E oc (zN E oc fuel)) :=
  zcall_sound' ok ho (fun _ _ hc hy => ⟨draw_ok ok hc hy, map_ok ok hc hy⟩) fuel
end
end Go.Z
