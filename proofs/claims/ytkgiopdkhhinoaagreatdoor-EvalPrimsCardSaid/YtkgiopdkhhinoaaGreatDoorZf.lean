/- The concrete evaluator: states; one operation within code. The concrete evaluator: regions in order; code. The concrete evaluator: rounds. The concrete evaluator: ranges over functions. The concrete evaluator: calls of functions. The concrete evaluator: calls of functions, whole. The concrete evaluator is sound, but for the drawn regions. -/
import Derived.Test.YtkgiopdkhhinoaaGreatDoorZe
import Derived.Test.YtkgiopdkhhinoaaGreatDoorXc
import Derived.LoopNIn
import Derived.RecoverIn
import Derived.RangeFuncLeaves
set_option linter.all false
namespace Go.Z
open Go.Eng (TI TD DV DRep DRows DCells Snap nth upd slice' splice TabOk tiOk tdOk TFacts FW oper_in callsIn_FW Callable yielded_of yielded_none getD_toList)
section
variable {P : Program} {E : Env} {S : Snap} {w0 : World} {β β' : Nat -> Loc} {n n' : Nat} {M M' : Tri ZO} {w w' : World}
def Priv (β : Nat -> Loc) (M : Tri ZO) (x : Nat) : Prop := ∀ j o, M.get j = some o -> isW o = true -> (β j).b ≠ x
theorem Priv.post {x : Nat} (h : Priv β M x) (hx : x < w.heap.size) (p : ZPost S w0 β n M w β' n' M' w') : Priv β' M' x /\ w'.heap[x]? = w.heap[x]? := by
  refine ⟨fun j o h1 h2 e => ?_, p.frame x hx h⟩
  rcases p.wr j o h1 h2 with ⟨i, oi, g1, g2, g3⟩ | g
  . exact h i oi g1 g2 (g3.trans e)
  . omega
inductive DRel (S : Snap) (B : Nat) (β : Nat -> Loc) (n : Nat) (M : Tri ZO) (w : World) : List (Nat × List ZV) -> List Deferred -> Prop
  | nil : DRel S B β n M w [] []
  | mark {df : List (Nat × List ZV)} {d : Deferred} {ds : List Deferred} {x : Nat} : d.target = .collected x -> B <= x -> x < w.heap.size -> w.heap[x]? = some (.deferred (some [])) -> Priv β M x -> (∀ d' ∈ ds, ∀ y, d'.target = .collected y -> y ≠ x) -> DRel S B β n M w df ds -> DRel S B β n M w df (d :: ds)
  | one {df : List (Nat × List ZV)} {d : Deferred} {ds : List Deferred} {f : Nat} {l : List ZV} {cap : Array Value} : d.target = .fn (.func f) cap -> VRels S β n l (d.args ++ cap).toList -> DRel S B β n M w df ds -> DRel S B β n M w ((f, l) :: df) (d :: ds)
theorem DRel.post {B : Nat} {df : List (Nat × List ZV)} {ds : List Deferred} (h : DRel S B β n M w df ds) (p : ZPost S w0 β n M w β' n' M' w') : DRel S B β' n' M' w' df ds := by
  induction h with
  | nil => exact .nil
  | mark h1 h0 h2 h3 h4 h5 _ ih =>
    obtain ⟨g1, g2⟩ := h4.post h2 p; exact .mark h1 h0 (Nat.lt_of_lt_of_le h2 p.size) (g2.trans h3) g1 h5 ih
  | one h1 h2 _ ih => exact .one h1 (VRels_mono p.keep p.nn _ _ h2) ih
theorem DRel.lt {B : Nat} {df : List (Nat × List ZV)} {ds : List Deferred} (h : DRel S B β n M w df ds) : ∀ d ∈ ds, ∀ y, d.target = .collected y -> y < w.heap.size := by
  induction h with
  | nil => intro d hd; simp at hd
  | mark h1 h0 h2 h3 h4 h5 _ ih =>
    intro d hd y hy; rcases List.mem_cons.1 hd with rfl | hd
    . rw [h1] at hy; cases hy; exact h2
    . exact ih d hd y hy
  | one h1 h2 _ ih =>
    intro d hd y hy; rcases List.mem_cons.1 hd with rfl | hd
    . rw [h1] at hy; cases hy
    . exact ih d hd y hy
structure ZRel (S : Snap) (w0 : World) (B : Nat) (β : Nat -> Loc) (s : ZS) (a : Act) (w : World) : Prop where
  mem : ZMem S w0 β s.n s.M w
  tm : TRel S β s.n s.t a.tmps
  nt : a.tmps.size = s.nt
  df : DRel S B β s.n s.M w s.df a.defers
  lo : B <= w.heap.size
def RoOK (ro : Option Nat) (β : Nat -> Loc) (M : Tri ZO) (w : World) : Prop := ∀ l, ro = some l -> l < w.heap.size /\ (∃ rec, w.heap[l]? = some (.loop rec)) /\ Priv β M l
theorem RoOK.post {ro : Option Nat} (h : RoOK ro β M w) (p : ZPost S w0 β n M w β' n' M' w') : RoOK ro β' M' w' := by
  intro l hl; obtain ⟨h1, ⟨rec, h2⟩, h3⟩ := h l hl; obtain ⟨g1, g2⟩ := h3.post h1 p; exact ⟨Nat.lt_of_lt_of_le h1 p.size, ⟨rec, g2.trans h2⟩, g1⟩
def ZJ.toExit : ZJ -> Exit
  | .normal => .normal
  | .exit i => .exit i
  | .goto l => .goto l
  | .ret => .ret
def wpx (m : Nat) (F : Fence) (nn : Nat) (P : Program) (QQ : Exit -> Act -> World -> Prop) (a : Act) (w : World) : Code -> Prop
  | .loop c => Code.roundsIn F nn P c QQ m a w
  | c => c.wpIn F nn P QQ a w
theorem wpx_in {m : Nat} {F : Fence} {nn : Nat} {QQ : Exit -> Act -> World -> Prop} {a : Act} {c : Code} (h : wpx m F nn P QQ a w c) : c.wpIn F nn P QQ a w := by
  cases c with
  | loop c => exact wpIn_loop_rounds m h
  | _ => exact h
def CodeOK (P : Program) (c : Code) (s : ZS) (e : ZJ) (s' : ZS) : Prop :=
  (∃ l, s'.df = l ++ s.df) /\ ∃ m, ∀ (S : Snap) (w0 : World) (B : Nat) (β : Nat -> Loc) (a : Act) (w : World) (ro : Option Nat) (nn : Nat) (QQ : Exit -> Act -> World -> Prop),
    RoOK ro β s.M w -> (ro = none \/ s'.df = []) -> ZRel S w0 B β s a w -> (∀ β' a' w', ZRel S w0 B β' s' a' w' -> ZPost S w0 β s.n s.M w β' s'.n s'.M w' -> QQ e.toExit a' w') -> wpx m (FW ro) nn P QQ a w c
def IHok (P : Program) (ih : IH) : Prop := ∀ (c : Code) (s : ZS) (e : ZJ) (s' : ZS), ih c s = some (e, s') -> CodeOK P c s e s'
def CFok (P : Program) (cf : CF) : Prop :=
  ∀ f args M n c, cf f args M n = some c -> Callable P f /\ ∀ (S : Snap) (w0 : World) (β : Nat -> Loc) (w : World) (vals : Array Value), ZMem S w0 β n M w -> VRels S β n args vals.toList ->
    Calls P f vals w fun e w' => ∃ v β', e = .returned v /\ VRel S β' c.n c.v v /\ ZPost S w0 β n M w β' c.n c.M w'
def YFok (P : Program) (yf : CF) : Prop :=
  ∀ j args M n c, yf j args M n = some c -> ∀ (S : Snap) (w0 : World) (β : Nat -> Loc) (w : World) (vals : Array Value), Key β n j -> ZMem S w0 β n M w -> VRels S β n args vals.toList ->
    YieldAt Fence.wide 0 P (β j).b vals w fun e w' => ∃ v β', e = .returned v /\ VRel S β' c.n c.v v /\ ZPost S w0 β n M w β' c.n c.M w'
theorem forceN_eq {γ : Type} (n : Nat) (k : Nat -> γ) : forceN n k = k n := by cases n <;> rfl
theorem forceV_eq {γ : Type} (v : ZV) (k : ZV -> γ) : forceV v k = k v := by
  unfold forceV; split
  . split <;> simp only [forceN_eq]
  . split <;> rfl
  . simp only [forceN_eq]
  . simp only [forceN_eq]
  . simp only [forceN_eq]; split <;> simp only [forceN_eq]
  . rfl
theorem TRel.put {t : Tri ZV} {tm : Array Value} (r : TRel S β n t tm) {d : Nat} (hd : d < tm.size) {z : ZV} {v : Value} (hv : VRel S β n z v) : TRel S β n (t.set d (some z)) (tm.setIfInBounds d v) := by
  intro i; rw [Tri.get_set]; by_cases e : d = i
  . subst e; rw [if_pos rfl]; simpa [Array.getD_eq_getD_getElem?, hd] using hv
  . rw [if_neg e]; have := r i; simpa [Array.getD_eq_getD_getElem?, Array.getElem?_setIfInBounds_ne e] using this
theorem zput_sound {s s' : ZS} {d : Option Nat} {z : ZV} (h : zput s d z M' n' = some s') : s'.df = s.df /\ s'.M = M' /\ s'.n = n' /\ s'.nt = s.nt /\
    ∀ (S : Snap) (w0 : World) (B : Nat) (β β' : Nat -> Loc) (a : Act) (w w' : World) (v : Value), ZRel S w0 B β s a w -> ZPost S w0 β s.n s.M w β' n' M' w' -> VRel S β' n' z v -> ZRel S w0 B β' s' (a.put d v) w' := by
  unfold zput at h
  cases d with
  | none =>
    cases h; exact ⟨rfl, rfl, rfl, rfl, fun S w0 B β β' a w w' v r p hv => ⟨p.mem, r.tm.mono p.keep p.nn, r.nt, r.df.post p, Nat.le_trans r.lo p.size⟩⟩
  | some d =>
    dsimp only at h
    split at h
    . rename_i hd
      have hd := blt_true hd; rw [forceV_eq] at h; cases h; refine ⟨rfl, rfl, rfl, rfl, fun S w0 B β β' a w w' v r p hv => ⟨p.mem, ?_, ?_, r.df.post p, Nat.le_trans r.lo p.size⟩⟩
      . exact (r.tm.mono p.keep p.nn).put (by rw [r.nt]; exact hd) hv
      . exact (Array.size_setIfInBounds ..).trans r.nt
    . cases h
theorem run_callFunc {f : FuncId} (h : Callable P f) (vals : Array Value) : (callFunc f vals).run P w = .ok (.enter f vals) w := by
  obtain ⟨fn, h1, h2, h3⟩ := h; unfold callFunc; simp only [Sem.run_bind, run_program, Result.andThen_ok, h1, h3, h2]; simp
theorem zfin_sound (ok : EnvOk P E) {cf yf : CF} (hc : CFok P cf) (hy : YFok P yf) {o : Oper} {s s' : ZS} (h : zfin cf yf o s (zop E o.op o.type s.t s.M s.n) = some s') :
    (∃ l, s'.df = l ++ s.df) /\ s'.nt = s.nt /\ ∀ (S : Snap) (w0 : World) (B : Nat) (β : Nat -> Loc) (a : Act) (w : World) (ro : Option Nat) (nn : Nat) (K : Act -> World -> Prop) (QQ : Exit -> Act -> World -> Prop), (ro = none \/ s'.df = []) -> ZRel S w0 B β s a w ->
      (∀ β' a' w', ZRel S w0 B β' s' a' w' -> ZPost S w0 β s.n s.M w β' s'.n s'.M w' -> K a' w') -> o.wpIn (FW ro) nn P a w K QQ := by
  have hsem : ∀ (ro : Option Nat) (a : Act), (ro = none \/ s'.df = []) -> o.semAt (FW ro).round a.eval = execOp a.eval o := by
    intro ro a hro; by_cases hd : ∃ c, o.op = .defer c
    . rcases hro with rfl | hro
      . exact Oper.semAt_none ..
      . exfalso; obtain ⟨c, hd⟩ := hd; rw [hd] at h; simp only [zop] at h
        cases hcal : c.callee with
        | value f =>
          simp only [hcal] at h; generalize zrd s.t f = v at h
          cases v with
          | fn f fs caps =>
            simp only [zdefer, zfin] at h; obtain ⟨e, _⟩ := zput_sound h; rw [hro] at e; cases e
          | _ => cases h
        | builtin b => simp only [hcal] at h; cases h
        | invoke x y => simp only [hcal] at h; cases h
    . exact Oper.semAt_eq _ _ _ (fun d e => hd ⟨d, e⟩)
  generalize hz : zop E o.op o.type s.t s.M s.n = r at h
  cases r with
  | ok v M' n' =>
    obtain ⟨e1, e2, e3, e4, g⟩ := zput_sound h; refine ⟨⟨[], e1⟩, e4, fun S w0 B β a w ro nn K QQ hro rel hK => ⟨fun _ _ => trivial, ?_⟩⟩
    rw [hsem ro a hro]; have ho := zop_out ok rel.mem rel.tm o; rw [hz] at ho; obtain ⟨v', w', β', hr, hv, hp⟩ := ho; have hrel := g S w0 B β β' a w w' v' rel hp hv; have hp' : ZPost S w0 β s.n s.M w β' s'.n s'.M w' := by rw [e2, e3]; exact hp
    rcases hr with hr | ⟨hr, rfl⟩
    . rw [hr]; exact hK _ _ _ hrel hp'
    . rw [hr]; exact hK _ _ _ hrel hp'
  | call f args =>
    simp only [zfin] at h; split at h
    . rename_i c hcf
      obtain ⟨hcl, hcf⟩ := hc f args _ _ c hcf; obtain ⟨e1, e2, e3, e4, g⟩ := zput_sound h; refine ⟨⟨[], e1⟩, e4, fun S w0 B β a w ro nn K QQ hro rel hK => ⟨fun _ _ => trivial, ?_⟩⟩
      rw [hsem ro a hro]; have ho := zop_out ok rel.mem rel.tm o; rw [hz] at ho; obtain ⟨vals, hr, hv⟩ := ho; rw [hr, run_callFunc hcl]; refine ⟨(fun h => by cases h), CallsIn.mono (callsIn_FW (hcf S w0 β w vals rel.mem hv)) ?_⟩
      rintro e w' ⟨v, β', rfl, hvv, hp⟩; exact hK _ _ _ (g S w0 B β β' a w w' v rel hp hvv) (by rw [e2, e3]; exact hp)
    . cases h
  | yld j args =>
    simp only [zfin] at h; split at h
    . rename_i c hyf
      have hyf := hy j args _ _ c hyf; obtain ⟨e1, e2, e3, e4, g⟩ := zput_sound h; refine ⟨⟨[], e1⟩, e4, fun S w0 B β a w ro nn K QQ hro rel hK => ⟨fun _ _ => trivial, ?_⟩⟩
      rw [hsem ro a hro]; have ho := zop_out ok rel.mem rel.tm o; rw [hz] at ho; obtain ⟨vals, hj, hr, hv⟩ := ho; obtain ⟨fn, tmps, x, y, hrun, hR⟩ := hyf S w0 β w vals hj rel.mem hv; rw [hr, hrun]; refine ⟨(fun h => by cases h), trivial, fun cc cs _ => ?_⟩
      obtain ⟨e, w', ⟨v, β', rfl, hvv, hp⟩, hs⟩ := hR.2 cc cs (room_wide _); exact ⟨.returned v, w', hK _ _ _ (g S w0 B β β' a w w' v rel hp hvv) (by rw [e2, e3]; exact hp), hs⟩
    . cases h
  | dfr f args =>
    simp only [zfin] at h; obtain ⟨e1, e2, e3, e4, g⟩ := zput_sound h; refine ⟨⟨[(f, args)], e1⟩, e4, fun S w0 B β a w ro nn K QQ hro rel hK => ⟨fun _ _ => trivial, ?_⟩⟩
    rw [hsem ro a hro]; have ho := zop_out ok rel.mem rel.tm o; rw [hz] at ho; obtain ⟨d, hr, cap, hd, hv⟩ := ho; rw [hr]; have rel' : ZRel S w0 B β ⟨s.t, s.nt, s.M, s.n, (f, args) :: s.df⟩ { a with defers := d :: a.defers } w := ⟨rel.mem, rel.tm, rel.nt, .one hd hv rel.df, rel.lo⟩
    exact hK _ _ _ (g S w0 B β β _ w w undef rel' (.refl rel.mem) (by rw [zundef, VRel])) (by rw [e2, e3]; exact .refl rel.mem)
  | rcv => cases h
  | bad k => cases h
end
end Go.Z
namespace Go.Z
open Go.Eng (TI TD DV DRep DRows DCells Snap nth upd slice' splice TabOk tiOk tdOk TFacts FW oper_in callsIn_FW Callable yielded_of yielded_none getD_toList)
section
variable {P : Program} {E : Env} {cf yf : CF}
theorem zwanted_sound {S : Snap} {β : Nat -> Loc} {n : Nat} {ops : Array Oper} {o : Oper} {t : Tri ZV} {tm : Array Value} {b : Bool} (r : TRel S β n t tm) (h : zwanted ops.toList o t = some b) : Region.wanted o (yielded ops tm) = b := by
  unfold zwanted at h; unfold Region.wanted; split at h
  . rename_i hg
    cases h; simp only [hg]
  . rename_i j want hg
    simp only [hg]; split at h
    . rename_i g hj
      split at h
      . rename_i d hd
        have hr := r d; split at h
        . rename_i x hx
          cases h; rw [hx] at hr; simp only [Option.getD_some, VRel] at hr; rw [yielded_of hj hd (by rw [<- getD_toList]; exact hr)]
          rw [Bool.eq_iff_iff]; simp
        . rename_i v hx
          rw [hx] at hr; simp only [Option.getD_some, VRel] at hr; split at h
          . cases h
          . rename_i hb
            cases h; rw [yielded_none hj hd (fun x e => hb x (by rw [<- hr, getD_toList]; exact e))]
            rfl
        . cases h
      . cases h
    . cases h
theorem zops_sound (ok : EnvOk P E) (hc : CFok P cf) (hy : YFok P yf) {ops : Array Oper} : ∀ (os : List Oper) (s s' : ZS), lfold (zstep E cf yf ops.toList) os s = some s' -> (∃ l, s'.df = l ++ s.df) /\
    ∀ (S : Snap) (w0 : World) (B : Nat) (β : Nat -> Loc) (a : Act) (w : World) (ro : Option Nat) (nn : Nat) (QQ : Exit -> Act -> World -> Prop), (ro = none \/ s'.df = []) -> ZRel S w0 B β s a w ->
      (∀ β' a' w', ZRel S w0 B β' s' a' w' -> ZPost S w0 β s.n s.M w β' s'.n s'.M w' -> QQ .normal a' w') -> wpListIn (FW ro) nn P ops QQ os a w
  | [], s, s', h => by
    rw [lfold_nil] at h; cases h; exact ⟨⟨[], rfl⟩, fun S w0 B β a w ro nn QQ _ rel hq => hq β a w rel (.refl rel.mem)⟩
  | o :: os, s, s', h => by
    rw [lfold_cons] at h; split at h
    . rename_i s1 h1
      obtain ⟨⟨l2, d2⟩, ih⟩ := zops_sound ok hc hy os s1 s' h; unfold zstep at h1; split at h1
      . rename_i hw
        obtain ⟨⟨l1, d1⟩, _, g⟩ := zfin_sound ok hc hy h1; refine ⟨⟨l2 ++ l1, by rw [d2, d1, List.append_assoc]⟩, fun S w0 B β a w ro nn QQ hro rel hq => ?_⟩
        rw [wpListIn, zwanted_sound rel.tm hw, if_pos rfl]; refine g S w0 B β a w ro nn _ QQ ?_ rel ?_
        . rcases hro with hro | hro
          . exact .inl hro
          . rw [hro] at d2; exact .inr (List.append_eq_nil_iff.1 d2.symm).2
        . intro β' a' w' rel' p; exact ih S w0 B β' a' w' ro nn QQ hro rel' fun β'' a'' w'' rel'' p' => hq β'' a'' w'' rel'' (p.trans p')
      . rename_i hw
        obtain ⟨d1, e2, e3, e4, g⟩ := zput_sound h1; refine ⟨⟨l2, by rw [d2, d1]⟩, fun S w0 B β a w ro nn QQ hro rel hq => ?_⟩
        rw [wpListIn, zwanted_sound rel.tm hw, if_neg (by simp)]
        refine ⟨fun _ _ => trivial, ?_⟩
        have rel' := g S w0 B β β a w w undef rel (.refl rel.mem) (by rw [zundef, VRel])
        have p : ZPost S w0 β s.n s.M w β s1.n s1.M w := by rw [e2, e3]; exact .refl rel.mem
        exact ih S w0 B β _ w ro nn QQ hro rel' fun β'' a'' w'' rel'' p' => hq β'' a'' w'' rel'' (p.trans p')
      . cases h1
    . cases h
def DrawOK (P : Program) (E : Env) (cf yf : CF) : Prop := ∀ (id : Nat) (ops : Array Oper) (s s' : ZS), zdraw E cf yf ops.toList s = some s' -> CodeOK P (.region id ops true) s .normal s'
def RangeOK (P : Program) (cf : CF) : Prop := ∀ (s s' : ZS) (e : ZJ) (g : Operand) (ps : Array Nat) (x y : Code), zrange cf s g ps.toList x y = some (e, s') -> CodeOK P (.rangeFunc g ps x y) s e s'
def MapOK (P : Program) (E : Env) (cf yf : CF) : Prop := ∀ (x y : Code) (f : MFor) (s s' : ZS), rangeAt x y = some f -> zmf E cf yf f s = some s' -> ((∃ l, s'.df = l ++ s.df) /\
    ∀ (S : Snap) (w0 : World) (B : Nat) (β : Nat -> Loc) (a : Act) (w : World) (ro : Option Nat) (nn : Nat) (QQ : Exit -> Act -> World -> Prop), RoOK ro β s.M w -> (ro = none \/ s'.df = []) -> ZRel S w0 B β s a w ->
      (∀ β' a' w', ZRel S w0 B β' s' a' w' -> ZPost S w0 β s.n s.M w β' s'.n s'.M w' -> QQ .normal a' w') -> x.wpIn (FW ro) nn P (Exit.then (y.wpIn (FW ro) nn P QQ) QQ) a w)
theorem df_nil {s1 s' : ZS} {ro : Option Nat} (h : ∃ l, s'.df = l ++ s1.df) (hro : ro = none \/ s'.df = []) : ro = none \/ s1.df = [] := by
  rcases hro with hro | hro
  . exact .inl hro
  . obtain ⟨l, d⟩ := h; rw [hro] at d; exact .inr (List.append_eq_nil_iff.1 d.symm).2
theorem zcode_sound (ok : EnvOk P E) (hc : CFok P cf) (hy : YFok P yf) (hd : DrawOK P E cf yf) (hr : RangeOK P cf) (hmf : MapOK P E cf yf) {ih : IH} (hi : IHok P ih) : IHok P (zcode E cf yf ih) := by
  intro c s e s' h
  cases c with
  | skip => cases h; exact ⟨⟨[], rfl⟩, 0, fun S w0 B β a w ro nn QQ _ _ rel hq => wpIn_skip (hq β a w rel (.refl rel.mem))⟩
  | label l => cases h; exact ⟨⟨[], rfl⟩, 0, fun S w0 B β a w ro nn QQ _ _ rel hq => wpIn_label (hq β a w rel (.refl rel.mem))⟩
  | exit i => cases h; exact ⟨⟨[], rfl⟩, 0, fun S w0 B β a w ro nn QQ _ _ rel hq => wpIn_exit (hq β a w rel (.refl rel.mem))⟩
  | goto i => cases h; exact ⟨⟨[], rfl⟩, 0, fun S w0 B β a w ro nn QQ _ _ rel hq => wpIn_goto (hq β a w rel (.refl rel.mem))⟩
  | ret => cases h; exact ⟨⟨[], rfl⟩, 0, fun S w0 B β a w ro nn QQ _ _ rel hq => wpIn_ret (hq β a w rel (.refl rel.mem))⟩
  | region id ops d =>
    cases d with
    | false =>
      simp only [zcode] at h; split at h
      . rename_i s1 h1
        cases h; obtain ⟨d1, g⟩ := zops_sound ok hc hy ops.toList s _ h1; exact ⟨d1, 0, fun S w0 B β a w ro nn QQ _ hro rel hq => wpIn_region_list (g S w0 B β a w ro nn QQ hro rel hq)⟩
      . cases h
    | true =>
      simp only [zcode] at h; split at h
      . rename_i s1 h1
        cases h; exact hd id ops s _ h1
      . cases h
  | seq x y =>
    simp only [zcode] at h; split at h
    . rename_i s1 h1
      split at h1
      . rename_i f hf
        obtain ⟨d1, g1⟩ := hmf x y f s s1 hf h1; cases h; exact ⟨d1, 0, fun S w0 B β a w ro nn QQ hR hro rel hq => wpIn_seq (g1 S w0 B β a w ro nn QQ hR hro rel hq)⟩
      . cases h1
    split at h
    . rename_i e1 s1 h1
      obtain ⟨⟨l1, d1⟩, m1, g1⟩ := hi x s e1 s1 h1
      have quit : ∀ (hne : e1 ≠ .normal), e = e1 -> s' = s1 -> CodeOK P (.seq x y) s e s' := by
        intro hne he hs; subst he hs; refine ⟨⟨l1, d1⟩, 0, fun S w0 B β a w ro nn QQ hR hro rel hq => wpIn_seq (wpx_in (g1 S w0 B β a w ro nn _ hR hro rel fun β' a' w' r' p => ?_))⟩
        have := hq β' a' w' r' p
        cases e with
        | normal => exact absurd rfl hne
        | _ => exact this
      cases e1 with
      | normal =>
        obtain ⟨⟨l2, d2⟩, m2, g2⟩ := hi y s1 e s' h; refine ⟨⟨l2 ++ l1, by rw [d2, d1, List.append_assoc]⟩, 0, fun S w0 B β a w ro nn QQ hR hro rel hq => wpIn_seq (wpx_in (g1 S w0 B β a w ro nn _ hR (df_nil ⟨l2, d2⟩ hro) rel fun β' a' w' r' p => ?_))⟩
        exact wpx_in (g2 S w0 B β' a' w' ro nn QQ (hR.post p) hro r' fun β'' a'' w'' r'' p' => hq β'' a'' w'' r'' (p.trans p'))
      | exit i => cases h; exact quit (by simp) rfl rfl
      | goto i => cases h; exact quit (by simp) rfl rfl
      | ret => cases h; exact quit (by simp) rfl rfl
    . cases h
  | cond c x y =>
    simp only [zcode] at h
    have hcond : ∀ {S : Snap} {β : Nat -> Loc} {a : Act} {b : Bool}, TRel S β s.n s.t a.tmps -> zcond s.t c = some b -> a.eval c = .bool b := by
      intro S β a b r hb; have hv := zrd_sound r c; unfold zcond at hb; split at hb
      . rename_i x hx
        cases hb; rw [hx, VRel] at hv; exact hv
      . cases hb
    split at h
    . rename_i hb
      obtain ⟨d1, m1, g1⟩ := hi x s e s' h; exact ⟨d1, 0, fun S w0 B β a w ro nn QQ hR hro rel hq => wpIn_cond_true (hcond rel.tm hb) (wpx_in (g1 S w0 B β a w ro nn QQ hR hro rel hq))⟩
    . rename_i hb
      obtain ⟨d1, m1, g1⟩ := hi y s e s' h; exact ⟨d1, 0, fun S w0 B β a w ro nn QQ hR hro rel hq => wpIn_cond_false (hcond rel.tm hb) (wpx_in (g1 S w0 B β a w ro nn QQ hR hro rel hq))⟩
    . cases h
  | block id c =>
    simp only [zcode] at h; split at h
    . rename_i e1 s1 h1
      obtain ⟨d1, m1, g1⟩ := hi c s e1 s1 h1
      cases e1 with
      | normal => cases h; exact ⟨d1, 0, fun S w0 B β a w ro nn QQ hR hro rel hq => wpIn_block (wpx_in (g1 S w0 B β a w ro nn _ hR hro rel hq))⟩
      | goto i => cases h; exact ⟨d1, 0, fun S w0 B β a w ro nn QQ hR hro rel hq => wpIn_block (wpx_in (g1 S w0 B β a w ro nn _ hR hro rel hq))⟩
      | ret => cases h; exact ⟨d1, 0, fun S w0 B β a w ro nn QQ hR hro rel hq => wpIn_block (wpx_in (g1 S w0 B β a w ro nn _ hR hro rel hq))⟩
      | exit i =>
        dsimp only at h
        split at h
        . rename_i hb
          have hb := beq_true hb; cases h; refine ⟨d1, 0, fun S w0 B β a w ro nn QQ hR hro rel hq => wpIn_block (wpx_in (g1 S w0 B β a w ro nn _ hR hro rel fun β' a' w' r' p => ?_))⟩
          show if i = id then QQ .normal a' w' else QQ (.exit i) a' w'
          rw [if_pos hb]; exact hq β' a' w' r' p
        . rename_i hb
          have hb : i ≠ id := fun e => by subst e; simp at hb
          cases h; refine ⟨d1, 0, fun S w0 B β a w ro nn QQ hR hro rel hq => wpIn_block (wpx_in (g1 S w0 B β a w ro nn _ hR hro rel fun β' a' w' r' p => ?_))⟩
          show if i = id then QQ .normal a' w' else QQ (.exit i) a' w'
          rw [if_neg hb]; exact hq β' a' w' r' p
    . cases h
  | loop c =>
    simp only [zcode] at h; split at h
    . rename_i e1 s1 h1
      obtain ⟨⟨l1, d1⟩, m1, g1⟩ := hi c s e1 s1 h1
      have quit : ∀ (hne : e1 ≠ .normal), e = e1 -> s' = s1 -> CodeOK P (.loop c) s e s' := by
        intro hne he hs; subst he hs; refine ⟨⟨l1, d1⟩, 1, fun S w0 B β a w ro nn QQ hR hro rel hq => (wpx_in (g1 S w0 B β a w ro nn _ hR hro rel fun β' a' w' r' p => ?_) : c.wpIn (FW ro) nn P (Exit.then (Code.roundsIn (FW ro) nn P c QQ 0) QQ) a w)⟩
        have := hq β' a' w' r' p
        cases e with
        | normal => exact absurd rfl hne
        | _ => exact this
      cases e1 with
      | normal =>
        obtain ⟨⟨l2, d2⟩, m2, g2⟩ := hi (.loop c) s1 e s' h; refine ⟨⟨l2 ++ l1, by rw [d2, d1, List.append_assoc]⟩, m2 + 1, fun S w0 B β a w ro nn QQ hR hro rel hq => (wpx_in (g1 S w0 B β a w ro nn _ hR (df_nil ⟨l2, d2⟩ hro) rel fun β' a' w' r' p => ?_) : c.wpIn (FW ro) nn P (Exit.then (Code.roundsIn (FW ro) nn P c QQ m2) QQ) a w)⟩
        exact g2 S w0 B β' a' w' ro nn QQ (hR.post p) hro r' fun β'' a'' w'' r'' p' => hq β'' a'' w'' r'' (p.trans p')
      | exit i => cases h; exact quit (by simp) rfl rfl
      | goto i => cases h; exact quit (by simp) rfl rfl
      | ret => cases h; exact quit (by simp) rfl rfl
    . cases h
  | rangeFunc g ps x y => exact hr s s' e g ps x y h
  | scope c => cases h
  | refuse c => cases h
end
end Go.Z
namespace Go.Z
open Go.Eng (TI TD DV DRep DRows DCells Snap nth upd slice' splice TabOk tiOk tdOk TFacts FW FW_some oper_in callsIn_FW Callable yielded_of yielded_none getD_toList)
section
variable {P : Program} {E : Env} {S : Snap} {w0 : World} {β β' : Nat -> Loc} {n n' : Nat} {M M' : Tri ZO} {w w' : World}
theorem setPs_sound : ∀ {ps : List Nat} {args : List ZV} {t t' : Tri ZV} {vals : List Value} {tm : Array Value}, setPs ps args t = some t' -> (∀ p ∈ ps, p < tm.size) -> VRels S β n args vals -> TRel S β n t tm ->
    TRel S β n t' ((ps.zip vals).foldl (fun tm p => tm.setIfInBounds p.1 p.2) tm) /\ ((ps.zip vals).foldl (fun tm p => tm.setIfInBounds p.1 p.2) tm).size = tm.size /\ vals.length = ps.length
  | [], [], t, t', vals, tm, h, hp, hv, r => by
    cases h; rw [VRels] at hv; subst hv; exact ⟨r, rfl, rfl⟩
  | p :: ps, v :: vs, t, t', vals, tm, h, hp, hv, r => by
    rw [VRels] at hv; obtain ⟨x, xs, rfl, h1, h2⟩ := hv; rw [setPs] at h; obtain ⟨g1, g2, g3⟩ := setPs_sound (tm := tm.setIfInBounds p x) h (fun q hq => by rw [Array.size_setIfInBounds]; exact hp q (by simp [hq])) h2 (r.put (hp p (by simp)) h1)
    simp only [List.zip_cons_cons, List.foldl_cons]; exact ⟨g1, by rw [g2, Array.size_setIfInBounds], by simp [g3]⟩
  | [], _ :: _, t, t', vals, tm, h, _, _, _ => by cases h
  | _ :: _, [], t, t', vals, tm, h, _, _, _ => by cases h
theorem ZMem.poke (m : ZMem S w0 β n M w) {l : Nat} {r : Loop} (hl : w.heap[l]? = some (.loop r)) (hp : Priv β M l) (hge : w0.heap.size <= l) (o : Obj) : ZMem S w0 β n M (w.putObj l o) := by
  refine ⟨m.os, m.tape, m.output, by simpa using m.size, fun b hb => ?_, m.sub, fun j ob hj => ?_, m.own, m.inj, m.low⟩
  . rw [World.putObj_heap_other (by omega)]
    exact m.old b hb
  . obtain ⟨g1, g2, g3⟩ := m.key j ob hj
    have hne : (β j).b ≠ l := by
      intro e; by_cases hw : isW ob = true
      . exact hp j ob hj hw e
      . cases ob with
        | ro T lo h d =>
          obtain ⟨cur, fr, f1, _⟩ := g3; rw [e, hl] at f1; cases f1
        | _ => exact hw rfl
    exact ⟨g1, by simpa using g2, g3.mono (fun _ _ => rfl) (Nat.le_refl _) (World.putObj_heap_other hne)⟩
theorem DRel.poke {B : Nat} {df : List (Nat × List ZV)} {ds : List Deferred} (h : DRel S B β n M w df ds) {l : Nat} {r : Loop} (hl : w.heap[l]? = some (.loop r)) (o : Obj) : DRel S B β n M (w.putObj l o) df ds := by
  induction h with
  | nil => exact .nil
  | mark h1 h0 h2 h3 h4 h5 _ ih =>
    refine .mark h1 h0 (by simpa using h2) ?_ h4 h5 ih
    rw [World.putObj_heap_other (fun e => by rw [e, hl] at h3; cases h3)]
    exact h3
  | one h1 h2 _ ih => exact .one h1 h2 ih
theorem ZRel.poke {B : Nat} {s : ZS} {a : Act} (r : ZRel S w0 B β s a w) {l : Nat} {rc : Loop} (hl : w.heap[l]? = some (.loop rc)) (hp : Priv β s.M l) (hge : w0.heap.size <= l) (o : Obj) : ZRel S w0 B β s a (w.putObj l o) :=
  ⟨r.mem.poke hl hp hge o, r.tm, r.nt, r.df.poke hl o, by simpa using r.lo⟩
theorem ZPost.hold (m : ZMem S w0 β n M w) {j : Nat} {o o2 : ZO} (hM : M.get j = some o) (hW : isW o = true) {rc : Loop}
    (hmem : ZMem S w0 β' n' M' w') (hn : n <= n') (hk0 : ∀ i, i < n -> β' i = β i) (hs : w.heap.size <= w'.heap.size) (hp : Priv β' M' (β j).b)
    (hl : w'.heap[(β j).b]? = some (.loop rc)) (ho : ORel S β' n' w' (β' j) o2) (h2 : ∀ T lo h d, o2 ≠ .cells T lo h d) (hrd : ∀ i oi, M'.get i = some oi -> isW oi = false -> M.get i = some oi)
    (hf : ∀ b, b < w.heap.size -> b ≠ (β j).b -> (∀ i oi, M.get i = some oi -> isW oi = true -> (β i).b ≠ b) -> w'.heap[b]? = w.heap[b]?)
    (hwr : ∀ i oi, M'.get i = some oi -> isW oi = true -> (∃ k ok, M.get k = some ok /\ isW ok = true /\ (β k).b = (β' i).b) \/ w.heap.size <= (β' i).b) (hwo : isW o2 = true := by rfl) : ZPost S w0 β n M w β' n' (M'.set j (some o2)) w' := by
  obtain ⟨g1, g2, g3⟩ := m.key j o hM; have hk : ∀ i, Key β n i -> β' i = β i := fun i hi => hk0 i hi.1
  have hβ := hk j g1
  have other : ∀ i oi, M'.get i = some oi -> (β' i).b ≠ (β j).b := by
    intro i oi hi e; by_cases hw : isW oi = true
    . exact hp i oi hi hw e
    . obtain ⟨_, _, f3⟩ := hmem.key i oi hi
      cases oi with
      | ro T lo h d =>
        obtain ⟨cur, fr, f1, _⟩ := f3; rw [e, hl] at f1; cases f1
      | _ => exact hw rfl
  have split : ∀ i oi, (M'.set j (some o2)).get i = some oi -> (i = j /\ oi = o2) \/ (i ≠ j /\ M'.get i = some oi) := by
    intro i oi h; rw [Tri.get_set] at h; split at h
    . rename_i e; cases h; exact .inl ⟨e.symm, rfl⟩
    . rename_i e; exact .inr ⟨fun h => e h.symm, h⟩
  refine ⟨⟨hmem.os, hmem.tape, hmem.output, hmem.size, hmem.old, hmem.sub, ?_, ?_, ?_, ?_⟩, hn, hk0, hs, ?_, ?_, ?_⟩
  . intro i oi h; rcases split i oi h with ⟨rfl, rfl⟩ | ⟨_, h⟩
    . exact ⟨g1.mono hk hn, by rw [hβ]; omega, ho⟩
    . exact hmem.key i oi h
  . intro i oi h hw; rcases split i oi h with ⟨rfl, rfl⟩ | ⟨_, h⟩
    . rw [hβ]; exact m.own i o hM hW
    . exact hmem.own i oi h hw
  . intro i k oi ok hi hk' hw e; rcases split i oi hi with ⟨e1, e1'⟩ | ⟨e1, hi⟩
    . rcases split k ok hk' with ⟨e2, _⟩ | ⟨e2, hk'⟩
      . rw [e1, e2]
      . exfalso; refine other k ok hk' ?_; rw [<- e, e1, hβ]
    . rcases split k ok hk' with ⟨e2, _⟩ | ⟨e2, hk'⟩
      . exfalso; refine other i oi hi ?_; rw [e, e2, hβ]
      . exact hmem.inj i k oi ok hi hk' hw e
  . intro i T h d hi; rcases split i _ hi with ⟨_, e⟩ | ⟨_, hi⟩
    . exact absurd e.symm (h2 T 0 h d)
    . exact hmem.low i T h d hi
  . intro b hb hh; exact hf b hb (fun e => hh j o hM hW e.symm) hh
  . intro i oi hi hw; rcases split i oi hi with ⟨_, e1⟩ | ⟨_, hi⟩
    . rw [e1, hwo] at hw; cases hw
    . exact hrd i oi hi hw
  . intro i oi hi hw; rcases split i oi hi with ⟨e1, _⟩ | ⟨_, hi⟩
    . subst e1; exact .inl ⟨i, o, hM, hW, by rw [hβ]⟩
    . exact hwr i oi hi hw
theorem zround_sound {ih : IH} (hi : IHok P ih) : YFok P (zround ih) := by
  intro j args M n c h S w0 β w vals hj m hv; unfold zround at h; split at h
  . rename_i t nt ps x y hM
    split at h
    . rename_i t' hps hb
      split at h
      . rename_i s1 h1
        split at h
        . rename_i e s2 h2
          split at h
          . rename_i hdf
            obtain ⟨g1, g2, rc, f1, f2, f3, f4, f5, f6, f7, f8⟩ := m.key j _ hM; obtain ⟨l, hl⟩ : ∃ l, (β j).b = l := ⟨_, rfl⟩; rw [hl] at f1 g2; have hge : w0.heap.size <= l := by rw [<- hl]; exact m.own j _ hM rfl
            have hp : ∀ p ∈ ps, p < rc.tmps.size := by
              intro p hp; rw [f2]; exact blt_true (List.all_eq_true.1 hb p hp)
            obtain ⟨a1, a2, a3⟩ := setPs_sound hps hp hv f3
            have hsz : vals.size = rc.params.size := by
              rw [<- Array.length_toList (xs := vals), a3, <- f4, Array.length_toList]
            have hfold : (rc.params.zip vals).foldl (fun tmps (t, a) => tmps.setIfInBounds t a) rc.tmps = (ps.zip vals.toList).foldl (fun tm p => tm.setIfInBounds p.1 p.2) rc.tmps := by
              rw [<- Array.foldl_toList, Array.toList_zip, f4]
            have hpr : Priv β (M.set j none) l := by
              intro i oi hi hw e; rw [Tri.get_set] at hi; split at hi
              . cases hi
              . rename_i hne
                exact hne (m.inj i j oi _ hi hM hw (by rw [e, hl])).symm
            have pdel : ZPost S w0 β n M w β n (M.set j none) w := ZPost.del m j hM rfl rfl rfl rfl (Nat.le_refl _) (fun _ _ _ => rfl)
            obtain ⟨⟨l1, d1⟩, m1, k1⟩ := hi x _ _ _ h1; obtain ⟨⟨l2, d2⟩, m2, k2⟩ := hi y _ _ _ h2; have hd1 : s1.df = [] := by rw [hdf] at d2; exact (List.append_eq_nil_iff.1 d2.symm).2
            have hrun := run_yield (P := P) (args := vals) f1 hsz; rw [hfold, f5, f6] at hrun; rw [hl]; refine ⟨_, _, _, _, hrun, roundIn_of_wpIn (F := Fence.wide) trivial (wpx_in (k1 S w0 0 β _ w (some l) 0 _ (fun l' e => by cases e; exact ⟨g2, ⟨rc, f1⟩, hpr⟩) (.inr hd1) ⟨pdel.mem, a1, a2.trans f2, .nil, Nat.zero_le _⟩ ?_))⟩
            intro β1 b1 w1 r1 p1; obtain ⟨q1, q2⟩ := hpr.post g2 p1; have hl1 : w1.heap[l]? = some (.loop rc) := q2.trans f1; have hlw1 : l < w1.heap.size := Nat.lt_of_lt_of_le g2 p1.size; refine ⟨_, run_beginRound hl1 f7, wpx_in (k2 S w0 0 β1 b1 _ (some l) 0 _ (fun l' e => by cases e; exact ⟨by simpa using hlw1, ⟨_, World.putObj_heap_same hlw1⟩, q1⟩) (.inr hdf) (r1.poke hl1 q1 hge _) ?_)⟩
            intro β2 b2 w2 r2 p2; have hlw1' : l < (w1.putObj l (.loop { rc with state := .busy })).heap.size := by simpa using hlw1
            obtain ⟨q3, q4⟩ := q1.post hlw1' p2; have hl2 : w2.heap[l]? = some (.loop { rc with state := .busy }) := q4.trans (World.putObj_heap_same hlw1)
            have hlw2 : l < w2.heap.size := Nat.lt_of_lt_of_le hlw1' p2.size; have hw12 : w1.heap.size <= w2.heap.size := by have := p2.size; simpa using this
            have hk20 : ∀ i, i < n -> β2 i = β i := fun i hi => (p2.keep0 i (Nat.lt_of_lt_of_le hi p1.nn)).trans (p1.keep0 i hi)
            have hk2 : ∀ i, Key β n i -> β2 i = β i := fun i hi => (p2.keep i (hi.mono p1.keep p1.nn)).trans (p1.keep i hi)
            have fin : ∀ (o2 : ZO) (jump : Option Code) (b : Bool), c = ⟨.bool b, s2.M.set j (some o2), s2.n⟩ -> b = jump.isNone ->
                (∀ T lo h d, o2 ≠ .cells T lo h d) -> isW o2 = true -> ORel S β2 s2.n (w2.putObj l (.loop { rc with state := if jump.isNone then .ready else .done, pending := jump })) (β2 j) o2 ->
                ∃ v w', (Instr.endRound l jump).run P w2 = .ok v w' /\ ∃ v' β', Ending.returned v = .returned v' /\ VRel S β' c.n c.v v' /\ ZPost S w0 β n M w β' c.n c.M w' := by
              intro o2 jump b hc hb2 hne hwo ho; subst hc; refine ⟨_, _, run_endRound jump hl2, _, β2, rfl, by rw [VRel, hb2], ?_⟩
              refine ZPost.hold m hM rfl (r2.mem.poke hl2 q3 hge _) (Nat.le_trans p1.nn p2.nn) hk20 (by have := p1.size; simp; omega) (by rw [hl]; exact q3) (by rw [hl]; exact World.putObj_heap_same hlw2) ho hne ?_ ?_ ?_ hwo
              . intro i oi hi' hw; have := p1.rd i oi (p2.rd i oi hi' hw) hw; rw [Tri.get_set] at this; split at this
                . cases this
                . exact this
              . intro b hb' hne' hh; rw [hl] at hne'; rw [World.putObj_heap_other hne']
                have hh' : ∀ i oi, (M.set j none).get i = some oi -> isW oi = true -> (β i).b ≠ b := by
                  intro i oi hi' hw; rw [Tri.get_set] at hi'; split at hi'
                  . cases hi'
                  . exact hh i oi hi' hw
                have e1 := p1.frame b hb' hh'
                have e2 := p2.frame b (by have := p1.size; simp; omega) (fun i oi hi' hw e => by
                  rcases p1.wr i oi hi' hw with ⟨k, ok, z1, z2, z3⟩ | z
                  . exact hh' k ok z1 z2 (z3.trans e)
                  . omega)
                rw [e2, World.putObj_heap_other hne', e1]
              . intro i oi hi' hw
                have : ∀ k ok, (M.set j none).get k = some ok -> M.get k = some ok := by
                  intro k ok hk; rw [Tri.get_set] at hk; split at hk
                  . cases hk
                  . exact hk
                rcases p2.wr i oi hi' hw with ⟨k, ok, z1, z2, z3⟩ | z
                . rcases p1.wr k ok z1 z2 with ⟨k', ok', y1, y2, y3⟩ | y'
                  . exact .inl ⟨k', ok', this _ _ y1, y2, y3.trans z3⟩
                  . exact .inr (by omega)
                . have := p1.size; simp at z; exact .inr (by omega)
            have f3' : TRel S β2 s2.n t rc.tmps := f3.mono hk2 (Nat.le_trans p1.nn p2.nn); have hβj : (β2 j).b = l := by rw [hk2 j g1, hl]
            cases e with
            | normal =>
              cases h; exact fin _ none true rfl rfl (fun _ _ _ _ e => by cases e) rfl ⟨{ rc with state := .ready, pending := none }, by rw [hβj]; exact World.putObj_heap_same hlw2, f2, f3', f4, f5, f6, rfl, rfl⟩
            | exit i =>
              cases h; exact fin _ (some (.exit i)) false rfl rfl (fun _ _ _ _ e => by cases e) rfl ⟨{ rc with state := .done, pending := some (.exit i) }, by rw [hβj]; exact World.putObj_heap_same hlw2, f2, f3', f4, f5, f6, rfl, rfl⟩
            | goto i =>
              cases h; exact fin _ (some (.goto i)) false rfl rfl (fun _ _ _ _ e => by cases e) rfl ⟨{ rc with state := .done, pending := some (.goto i) }, by rw [hβj]; exact World.putObj_heap_same hlw2, f2, f3', f4, f5, f6, rfl, rfl⟩
            | ret =>
              cases h; exact fin _ (some .ret) false rfl rfl (fun _ _ _ _ e => by cases e) rfl ⟨{ rc with state := .done, pending := some .ret }, by rw [hβj]; exact World.putObj_heap_same hlw2, f2, f3', f4, f5, f6, rfl, rfl⟩
          . cases h
        . cases h
      . cases h
    . cases h
  . cases h
end
end Go.Z
namespace Go.Z
open Go.Eng (TI TD DV DRep DRows DCells Snap nth upd slice' splice TabOk tiOk tdOk TFacts FW FW_some oper_in callsIn_FW Callable yielded_of yielded_none getD_toList)
section
variable {P : Program} {E : Env} {S : Snap} {w0 : World} {β β' : Nat -> Loc} {n n' : Nat} {M M' : Tri ZO} {w w' : World}
theorem enter_loop {B : Nat} {s : ZS} {a : Act} {ro : Option Nat} (hR : RoOK ro β s.M w) (r : ZRel S w0 B β s a w) (fn : FuncId) (ps : Array Tmp) (x y : Code) :
    ∃ (l : Nat) (mark : List Deferred) (w₁ : World) (β1 : Nat -> Loc), (Instr.enterLoop fn a.tmps ps x y ro).run P w = .ok (l, mark) w₁ /\ (β1 s.n).b = l /\ Key β1 (Nat.succ s.n) s.n /\
      ZPost S w0 β s.n s.M w β1 (Nat.succ s.n) (s.M.set s.n (some (.loop none s.t s.nt ps.toList x y))) w₁ /\
      DRel S B β1 (Nat.succ s.n) (s.M.set s.n (some (.loop none s.t s.nt ps.toList x y))) w₁ s.df (mark ++ a.defers) := by
  have new : ∀ (w1 : World) (D : Nat), ZPost S w0 β s.n s.M w β s.n s.M w1 ->
      ZPost S w0 β s.n s.M w (ext β s.n ⟨w1.heap.size, 0, 0, true⟩) (Nat.succ s.n) (s.M.set s.n (some (.loop none s.t s.nt ps.toList x y))) (w1.alloc (.loop { state := .ready, pending := none, fn, tmps := a.tmps, params := ps, assign := x, body := y, defers := D })) := by
    intro w1 D p; refine p.trans (ZPost.new p.mem _ _ ⟨w1.heap.size, 0, 0, true⟩ rfl ⟨_, heap_new _ _, r.nt, r.tm.mono (fun j hj => ext_lt hj.1) (Nat.le_succ _), rfl, rfl, rfl, rfl, rfl⟩ (fun T h d e => by cases e))
  cases ro with
  | none =>
    have pq : ZPost S w0 β s.n s.M w β s.n s.M (w.alloc (.deferred (some []))) := ZPost.quiet r.mem rfl rfl rfl (by simp) (fun b hb => Go.RowKit.Below.heap_alloc w _ b hb)
    have hsz : (w.alloc (.deferred (some []))).heap.size = w.heap.size + 1 := by simp
    have p := new _ w.heap.size pq; refine ⟨w.heap.size + 1, _, _, _, run_enterLoop_outer _ _ _ _ _, by rw [ext_same, hsz], ⟨Nat.lt_succ_self _, by rw [ext_same]⟩, p, ?_⟩
    rw [hsz]; have hp : Priv β s.M w.heap.size := fun j o h1 h2 e => by have := (r.mem.key j o h1).2.1; omega
    have p2 := ZPost.new (β := β) (n := s.n) (w := w.alloc (.deferred (some []))) pq.mem (.loop { state := .ready, pending := none, fn, tmps := a.tmps, params := ps, assign := x, body := y, defers := w.heap.size }) (.loop none s.t s.nt ps.toList x y) ⟨w.heap.size + 1, 0, 0, true⟩ hsz.symm ⟨_, by show ((w.alloc _).alloc _).heap[w.heap.size + 1]? = _; rw [<- hsz]; exact heap_new _ _, r.nt, r.tm.mono (fun j hj => ext_lt hj.1) (Nat.le_succ _), rfl, rfl, rfl, rfl, rfl⟩ (fun T h d e => by cases e)
    exact DRel.post (.mark (d := { target := .collected w.heap.size, args := #[] }) rfl r.lo (by rw [hsz]; omega) (heap_new _ _) hp (fun d' hd y hy => by have := r.df.lt d' hd y hy; omega) (r.df.post pq)) p2
  | some l0 =>
    obtain ⟨h1, ⟨rec, h2⟩, h3⟩ := hR l0 rfl; have p := new w rec.defers (.refl r.mem); exact ⟨w.heap.size, [], _, _, run_enterLoop_inner h2 _ _ _ _ _, by rw [ext_same], ⟨Nat.lt_succ_self _, by rw [ext_same]⟩, p, r.df.post p⟩
theorem zrange_sound' {cf : CF} (hc : CFok P cf) : RangeOK P cf := by
  intro s s' e g ps x y h; unfold zrange at h; split at h
  . rename_i f caps hg
    split at h
    . rename_i c hcf
      obtain ⟨hcl, hcf⟩ := hc _ _ _ _ c hcf
      have main : ∀ (p : Option ZJ) (t1 : Tri ZV) (nt1 : Nat) (ps1 : List Nat) (a1 b1 : Code), c.M.get s.n = some (.loop p t1 nt1 ps1 a1 b1) -> s' = ⟨s.t, s.nt, c.M.set s.n none, c.n, s.df⟩ -> p ≠ some .normal -> e = p.getD .normal -> CodeOK P (.rangeFunc g ps x y) s e s' := by
        intro p t1 nt1 ps1 a1 b1 hget hs' hpn he; subst hs'; refine ⟨⟨[], rfl⟩, 0, fun S w0 B β a w ro nn QQ hR hro rel hq => wpIn_rangeFunc fun fn _ => ?_⟩
        obtain ⟨l, mark, w₁, β1, hen, hl, hkey, p0, df0⟩ := enter_loop (P := P) hR rel fn ps x y; have hv := zrd_sound rel.tm g; rw [hg, VRel] at hv; obtain ⟨fs, cs, heval, hfs, hcs⟩ := hv; rw [VRels] at hfs; have hfs : fs = #[] := by cases fs; simp at hfs; subst hfs; rfl
        subst hfs
        have hargs : VRels S β1 (Nat.succ s.n) (.yl s.n :: caps) (#[Value.func (.yield l) #[] #[]] ++ cs).toList := by
          rw [VRels]; refine ⟨.func (.yield l) #[] #[], cs.toList, by simp, ?_, VRels_mono p0.keep p0.nn _ _ hcs⟩
          rw [VRel]; exact ⟨hkey, by rw [hl]⟩
        have hcall := hcf S w0 β1 w₁ _ p0.mem hargs; refine ⟨l, mark, w₁, { target := .fn (.func f) cs, args := #[.func (.yield l) #[] #[]] }, w₁, f, #[.func (.yield l) #[] #[]] ++ cs, w₁, hen, ?_, fun _ _ => trivial, ?_, (fun h => by cases h), ?_⟩
        . simp only [resolve, heval]; simp [go_sem]
        . rw [invoke]; exact run_callFunc hcl _
        . refine CallsIn.mono (callsIn_FW hcall) ?_; rintro e' w' ⟨v, β', rfl, hvv, p1⟩; obtain ⟨g1, g2, rc, f1, f2, f3, f4, f5, f6, f7⟩ := p1.mem.key s.n _ hget; have hl' : (β' s.n).b = l := by rw [p1.keep s.n hkey, hl]
          rw [hl'] at f1
          have hbusy : rc.state ≠ .busy := by
            cases p with
            | none => rw [f7.1]; simp
            | some e =>
              cases e with
              | normal => exact absurd rfl hpn
              | _ => simp only at f7; rw [f7.1]; simp
          have hpend : rc.pending = (p.bind jumpOf) := by
            cases p with
            | none => exact f7.2
            | some e =>
              cases e with
              | normal => exact absurd rfl hpn
              | _ => exact f7.2
          have pdel : ZPost S w0 β' c.n c.M w' β' c.n (c.M.set s.n none) (w'.putObj l (.loop { rc with state := .exhausted })) := by
            refine ZPost.del p1.mem s.n hget rfl rfl rfl rfl (by simp) ?_
            intro b _ hb; rw [hl'] at hb; exact World.putObj_heap_other hb
          have pall := (p0.trans p1).trans pdel
          have hrel : ZRel S w0 B β' ⟨s.t, s.nt, c.M.set s.n none, c.n, s.df⟩ { a with defers := mark ++ a.defers } (w'.putObj l (.loop { rc with state := .exhausted })) :=
            ⟨pall.mem, rel.tm.mono pall.keep pall.nn, rel.nt, df0.post (p1.trans pdel), Nat.le_trans rel.lo pall.size⟩
          have hQ := hq β' _ _ hrel pall; refine ⟨p.bind jumpOf, _, by rw [<- hpend]; exact run_endLoop f1 hbusy, ?_⟩
          subst he
          cases p with
          | none => exact hQ
          | some e =>
            cases e with
            | normal => exact absurd rfl hpn
            | exit i => exact wpIn_exit hQ
            | goto i => exact wpIn_goto hQ
            | ret => exact wpIn_ret hQ
      split at h
      . rename_i hget
        cases h; exact main none _ _ _ _ _ hget rfl (by simp) rfl
      . rename_i e1 _ _ _ _ _ hget
        cases e1 with
        | normal => cases h
        | exit i => cases h; exact main (some (.exit i)) _ _ _ _ _ hget rfl (by simp) rfl
        | goto i => cases h; exact main (some (.goto i)) _ _ _ _ _ hget rfl (by simp) rfl
        | ret => cases h; exact main (some .ret) _ _ _ _ _ hget rfl (by simp) rfl
      . cases h
    . cases h
  . cases h
end
end Go.Z
namespace Go.Z
open Go.Eng (TI TD DV DRep DRows DCells Snap nth upd slice' splice TabOk tiOk tdOk TFacts FW FW_some FW_none oper_in callsIn_FW Callable yielded_of yielded_none getD_toList results_run resOne)
section
variable {P : Program} {E : Env} {S : Snap} {w0 : World} {B : Nat} {β β' : Nat -> Loc} {n n' : Nat} {M M' : Tri ZO} {w w' : World}
def wpLS (F : Fence) (nn : Nat) (P : Program) (ops : Array Oper) (Q : Exit -> Act -> List Frame -> World -> Prop) : List Oper -> Act -> List Frame -> World -> Prop
  | [], a, cs, w => Q .normal a cs w
  | o :: rest, a, cs, w =>
      (∀ f, o.about P w a.eval = some f -> F.fn f) /\
      if Region.wanted o (yielded ops a.tmps) then
        match (execOp a.eval o).run P w with
        | .ok .recover w' =>
          match recoverD cs with
          | some (v, cs') => wpLS F nn P ops Q rest (a.put o.dst v) cs' w'
          | none => wpLS F nn P ops Q rest (a.put o.dst .nilIface) cs w'
        | .ok (.value v) w' => wpLS F nn P ops Q rest (a.put o.dst v) cs w'
        | .ok .skip w' => wpLS F nn P ops Q rest (a.put o.dst undef) cs w'
        | .halt (.panic v) w' => Q (.panic [{ v, recovered := false }]) a cs w'
        | _ => False
      else wpLS F nn P ops Q rest (a.put o.dst undef) cs w
theorem wpOpsSIn_eq {F : Fence} {nn : Nat} {ops : Array Oper} {Q : Exit -> Act -> List Frame -> World -> Prop} (l : List Oper) : ∀ k, (∀ j, l[j]? = ops[k + j]?) -> wpOpsSIn F nn P ops Q (List.range' k l.length) = wpLS F nn P ops Q l := by
  induction l with
  | nil => intro k _; funext a cs w; simp [wpOpsSIn, wpLS]
  | cons o l ih =>
    intro k h; have h0 : ops[k]? = some o := by simpa using (h 0).symm
    have ih' := ih (k + 1) (fun j => by have := h (j + 1); simpa [Nat.add_assoc, Nat.add_comm 1 j] using this)
    funext a cs w
    simp only [List.length_cons, List.range'_succ, wpOpsSIn, h0, wpLS, ih']; rfl
theorem wpSIn_region_list {F : Fence} {nn : Nat} {id : Nat} {ops : Array Oper} {Q : Exit -> Act -> List Frame -> World -> Prop} {a : Act} {cs : List Frame} (h : wpLS F nn P ops Q ops.toList a cs w) : (Code.region id ops false).wpSIn F nn P Q a cs w :=
  wpSIn_region (by rw [List.range_eq_range', <- Array.length_toList, wpOpsSIn_eq ops.toList 0 (by simp)]; exact h)
theorem zstepS_sound (ok : EnvOk P E) {nn : Nat} {cs : List Frame} (hcs : recoverD cs = none) {ops : Array Oper} : ∀ (os : List Oper) (s s' : ZS), lfold (zstepS E ops.toList) os s = some s' ->
    ∀ (S : Snap) (w0 : World) (B : Nat) (β : Nat -> Loc) (a : Act) (w : World) (QQ : Exit -> Act -> List Frame -> World -> Prop), ZRel S w0 B β s a w ->
      (∀ β' a' w', a'.defers = a.defers -> ZRel S w0 B β' s' a' w' -> ZPost S w0 β s.n s.M w β' s'.n s'.M w' -> QQ .normal a' cs w') -> wpLS Fence.wide nn P ops QQ os a cs w
  | [], s, s', h, S, w0, B, β, a, w, QQ, rel, hq => by
    rw [lfold_nil] at h; cases h; exact hq β a w rfl rel (.refl rel.mem)
  | o :: os, s, s', h, S, w0, B, β, a, w, QQ, rel, hq => by
    rw [lfold_cons] at h; split at h
    . rename_i s1 h1
      have ih := zstepS_sound ok (nn := nn) hcs os s1 s' h; refine ⟨fun _ _ => trivial, ?_⟩
      have putd : ∀ v, (a.put o.dst v).defers = a.defers := fun v => by
        cases o.dst <;> rfl
      unfold zstepS at h1; split at h1
      . rename_i hw
        rw [zwanted_sound rel.tm hw, if_pos rfl]; have ho := zop_out ok rel.mem rel.tm o; split at h1
        . rename_i v M' n' hz
          rw [hz] at ho; obtain ⟨v', w', β', hr, hv, hp⟩ := ho; obtain ⟨d1, e2, e3, e4, g⟩ := zput_sound h1; have hrel := g S w0 B β β' a w w' v' rel hp hv; have hp' : ZPost S w0 β s.n s.M w β' s1.n s1.M w' := by rw [e2, e3]; exact hp
          rcases hr with hr | ⟨hr, rfl⟩
          . rw [hr]; exact ih S w0 B β' _ w' QQ hrel fun β'' a'' w'' hd r'' p'' => hq β'' a'' w'' (hd.trans (putd _)) r'' (hp'.trans p'')
          . rw [hr]; exact ih S w0 B β' _ w' QQ hrel fun β'' a'' w'' hd r'' p'' => hq β'' a'' w'' (hd.trans (putd _)) r'' (hp'.trans p'')
        . rename_i hz
          rw [hz] at ho; have ho : (execOp a.eval o).run P w = .ok .recover w := ho; obtain ⟨d1, e2, e3, e4, g⟩ := zput_sound h1; have hrel := g S w0 B β β a w w .nilIface rel (.refl rel.mem) (by rw [VRel])
          have hp' : ZPost S w0 β s.n s.M w β s1.n s1.M w := by rw [e2, e3]; exact .refl rel.mem
          rw [ho]; simp only [hcs]; exact ih S w0 B β _ w QQ hrel fun β'' a'' w'' hd r'' p'' => hq β'' a'' w'' (hd.trans (putd _)) r'' (hp'.trans p'')
        . cases h1
      . rename_i hw
        rw [zwanted_sound rel.tm hw, if_neg (by simp)]
        obtain ⟨d1, e2, e3, e4, g⟩ := zput_sound h1; have hrel := g S w0 B β β a w w undef rel (.refl rel.mem) (by rw [zundef, VRel])
        have hp' : ZPost S w0 β s.n s.M w β s1.n s1.M w := by rw [e2, e3]; exact .refl rel.mem
        exact ih S w0 B β _ w QQ hrel fun β'' a'' w'' hd r'' p'' => hq β'' a'' w'' (hd.trans (putd _)) r'' (hp'.trans p'')
      . cases h1
    . cases h
theorem zcond_eval {t : Tri ZV} {c : Operand} {a : Act} {b : Bool} (r : TRel S β n t a.tmps) (hb : zcond t c = some b) : a.eval c = .bool b := by
  have hv := zrd_sound r c; unfold zcond at hb; split at hb
  . rename_i x hx
    cases hb; rw [hx, VRel] at hv; exact hv
  . cases hb
theorem zcodeS_sound (ok : EnvOk P E) {nn : Nat} {cs : List Frame} (hcs : recoverD cs = none) : ∀ (c : Code) (s s' : ZS), zcodeS E c s = some s' ->
    ∀ (S : Snap) (w0 : World) (B : Nat) (β : Nat -> Loc) (a : Act) (w : World) (QQ : Exit -> Act -> List Frame -> World -> Prop), ZRel S w0 B β s a w ->
      (∀ β' a' w', a'.defers = a.defers -> ZRel S w0 B β' s' a' w' -> ZPost S w0 β s.n s.M w β' s'.n s'.M w' -> QQ .normal a' cs w') -> c.wpSIn Fence.wide nn P QQ a cs w := by
  intro c
  induction c with
  | skip =>
    intro s s' h S w0 B β a w QQ rel hq; simp only [zcodeS] at h; cases h; exact wpSIn_of_wpIn rfl (wpIn_skip (hq β a w rfl rel (.refl rel.mem)))
  | region id ops d =>
    intro s s' h S w0 B β a w QQ rel hq
    cases d with
    | false =>
      simp only [zcodeS] at h; exact wpSIn_region_list (zstepS_sound ok hcs ops.toList s s' h S w0 B β a w QQ rel hq)
    | true => simp only [zcodeS] at h; cases h
  | seq x y ihx ihy =>
    intro s s' h S w0 B β a w QQ rel hq; simp only [zcodeS] at h; split at h
    . rename_i s1 h1
      refine wpSIn_seq (ihx s s1 h1 S w0 B β a w _ rel fun β' a' w' hd r' p => ?_)
      exact ihy s1 s' h S w0 B β' a' w' QQ r' fun β'' a'' w'' hd' r'' p' => hq β'' a'' w'' (hd'.trans hd) r'' (p.trans p')
    . cases h
  | cond c x y ihx ihy =>
    intro s s' h S w0 B β a w QQ rel hq; simp only [zcodeS] at h; split at h
    . rename_i hb
      exact wpSIn_cond (zcond_eval rel.tm hb) (ihx s s' h S w0 B β a w QQ rel hq)
    . rename_i hb
      exact wpSIn_cond (zcond_eval rel.tm hb) (ihy s s' h S w0 B β a w QQ rel hq)
    . cases h
  | _ => intro s s' h; simp only [zcodeS] at h; cases h
theorem argsGo_get : ∀ (l : List ZV) (i : Nat) (t : Tri ZV) (j : Nat), (argsGo l i t).get j = if i <= j /\ j < i + l.length then l[j - i]? else t.get j
  | [], i, t, j => by rw [argsGo, if_neg (by simp only [List.length_nil]; omega)]
  | v :: l, i, t, j => by
    rw [argsGo, argsGo_get l (Nat.succ i), Tri.get_set]; by_cases e : i = j
    . subst e; rw [if_neg (by omega), if_pos rfl, if_pos (by simp)]
      simp
    . rw [if_neg e]; by_cases h : i.succ <= j /\ j < i.succ + l.length
      . rw [if_pos h, if_pos (by simp; omega)]
        rw [show j - i = (j - i.succ) + 1 by omega, List.getElem?_cons_succ]
      . rw [if_neg h, if_neg (by simp; omega)]
theorem zstart {args : List ZV} {vals : Array Value} (hv : VRels S β n args vals.toList) (k : Nat) : TRel S β n (argsGo args 0 .e) (vals ++ Array.replicate (k - vals.size) undef) /\ (vals ++ Array.replicate (k - vals.size) undef).size = args.length + (k - args.length) := by
  have hl := VRels_length hv; simp only [Array.length_toList] at hl; refine ⟨fun i => ?_, by simp [hl]⟩
  rw [argsGo_get]; by_cases h : i < args.length
  . rw [if_pos ⟨Nat.zero_le _, by omega⟩, Nat.sub_zero, List.getElem?_eq_getElem h]
    obtain ⟨u, g1, g2⟩ := VRels_get _ hv (List.getElem?_eq_getElem h)
    have : (vals ++ Array.replicate (k - vals.size) undef).getD i undef = u := by
      rw [Array.getD_eq_getD_getElem?, Array.getElem?_append_left (by omega)]
      rw [<- Array.getElem?_toList, g1]; rfl
    rw [this]; exact g2
  . rw [if_neg (by omega)]
    have : (vals ++ Array.replicate (k - vals.size) undef).getD i undef = undef := by
      rw [Array.getD_eq_getD_getElem?, Array.getElem?_append_right (by omega)]
      cases h : (Array.replicate (k - vals.size) undef)[i - vals.size]? with
      | none => rfl
      | some v =>
        rw [Array.getElem?_replicate] at h; split at h
        . cases h; rfl
        . cases h
    rw [this]; rw [Tri.get_e]; show VRel S β n zundef undef; rw [zundef, VRel]
end
end Go.Z
namespace Go.Z
open Go.Eng (TI TD DV DRep DRows DCells Snap nth upd slice' splice TabOk tiOk tdOk TFacts FW FW_some FW_none oper_in callsIn_FW Callable yielded_of yielded_none getD_toList results_run resOne)
section
variable {P : Program} {E : Env} {S : Snap} {w0 : World} {B : Nat} {β β' : Nat -> Loc} {n n' : Nat} {M M' : Tri ZO} {w w' : World}
theorem fn_callable (ok : EnvOk P E) {g : Nat} {fi : FI} (h : E.fnT g = some fi) : Callable P g := by
  obtain ⟨fn, h1, h2, _, _, h5⟩ := ok.fn g fi h; exact ⟨fn, h1, by rw [h2]; rfl, h5⟩
theorem zdeferred_sound (ok : EnvOk P E) {nn : Nat} {f : Nat} {l : List ZV} (h : zdeferred E (f, l) M n = some (M', n')) (m : ZMem S w0 β n M w) {vals : Array Value} (hv : VRels S β n l vals.toList) {R : Ending -> FrameMode -> World -> Prop}
    (hR : ∀ v β' w', ZPost S w0 β n M w β' n' M' w' -> R (.returned v) .returning w') : CallsDIn Fence.wide nn P f vals .returning w R := by
  unfold zdeferred at h; split at h
  . rename_i fi hf
    obtain ⟨fn, h1, h2, h3, h4, h5⟩ := ok.fn f fi hf; split at h
    . rename_i s hres hs
      cases h; refine callsDIn_of_wpSIn h1 h2 trivial fun c₀ cs hm => ?_
      have hcs : recoverD (c₀ :: cs) = none := by simp [recoverD, hm]
      obtain ⟨t1, t2⟩ := zstart hv fn.ntmps
      have rel : ZRel S w0 0 β ⟨argsGo l 0 .e, l.length + (fi.nt - l.length), M, n, []⟩ { tmps := vals ++ Array.replicate (fn.ntmps - vals.size) undef, defers := [] } w :=
        ⟨m, t1, by rw [t2, h4], .nil, Nat.zero_le _⟩
      refine zcodeS_sound ok hcs fi.code _ _ hs S w0 0 β _ w _ rel fun β' a' w' hd r' p => ⟨hd, .returning, ?_, _, results_run fn (us := []) (by rw [h3, hres]; simp [List.mapM_nil]), hR _ β' w' p⟩
      rw [<- hm]
    . cases h
  . cases h
theorem ZPost.pokeNew {β0 : Nat -> Loc} {n0 : Nat} {M0 : Tri ZO} {wE : World} (m0 : ZMem S w0 β0 n0 M0 wE) (p : ZPost S w0 β0 n0 M0 wE β n M w) {x : Nat} {ds : Option (List Deferred)} (hx : wE.heap.size <= x) (hp : Priv β M x) (hh : w.heap[x]? = some (.deferred ds)) (o : Obj) : ZPost S w0 β0 n0 M0 wE β n M (w.putObj x o) := by
  have hs0 := m0.size
  have other : ∀ j ob, M.get j = some ob -> (β j).b ≠ x := by
    intro j ob hj e; by_cases hw : isW ob = true
    . exact hp j ob hj hw e
    . obtain ⟨_, _, f3⟩ := p.mem.key j ob hj
      cases ob with
      | ro T lo h d =>
        obtain ⟨cur, fr, f1, _⟩ := f3; rw [e, hh] at f1; cases f1
      | _ => exact hw rfl
  refine ⟨⟨p.mem.os, p.mem.tape, p.mem.output, by simpa using p.mem.size, fun b hb => ?_, p.mem.sub, fun j ob hj => ?_, p.mem.own, p.mem.inj, p.mem.low⟩, p.nn, p.keep0, by simpa using p.size, fun b hb hh' => ?_, p.rd, p.wr⟩
  . rw [World.putObj_heap_other (by omega)]
    exact p.mem.old b hb
  . obtain ⟨g1, g2, g3⟩ := p.mem.key j ob hj; exact ⟨g1, by simpa using g2, g3.mono (fun _ _ => rfl) (Nat.le_refl _) (World.putObj_heap_other (other j ob hj))⟩
  . rw [World.putObj_heap_other (by omega)]
    exact p.frame b hb hh'
theorem DRel.pokeD {df : List (Nat × List ZV)} {ds : List Deferred} {x : Nat} {o : Obj} (h : DRel S B β n M w df ds) (hn : ∀ d ∈ ds, ∀ y, d.target = .collected y -> y ≠ x) : DRel S B β n M (w.putObj x o) df ds := by
  induction h with
  | nil => exact .nil
  | mark h1 h0 h2 h3 h4 h5 _ ih =>
    refine .mark h1 h0 (by simpa using h2) ?_ h4 h5 (ih fun d hd => hn d (by simp [hd]))
    rw [World.putObj_heap_other (hn _ (by simp) _ h1)]
    exact h3
  | one h1 h2 _ ih => exact .one h1 h2 (ih fun d hd => hn d (by simp [hd]))
theorem leaves_sound (ok : EnvOk P E) {nn : Nat} {fn : Func} {R : Ending -> World -> Prop} {t : Tri ZV} {tmps : Array Value} {β0 : Nat -> Loc} {n0 : Nat} {M0 : Tri ZO} {wE : World} (m0 : ZMem S w0 β0 n0 M0 wE) :
    ∀ (ds : List Deferred) (df : List (Nat × List ZV)) (β : Nat -> Loc) (n : Nat) (M : Tri ZO) (w : World), ZPost S w0 β0 n0 M0 wE β n M w -> DRel S wE.heap.size β n M w df ds -> zleave E df M n = some (M', n') -> TRel S β n t tmps ->
      (∀ β' w', ZPost S w0 β0 n0 M0 wE β' n' M' w' -> TRel S β' n' t tmps -> ∃ v, (results fn tmps).run P w' = .ok v w' /\ R (.returned v) w') -> LeavesInM Fence.wide nn P fn tmps R ds .returning w
  | [], df, β, n, M, w, p, hd, h, ht, hq => by
    cases hd; cases h; exact hq β w p ht
  | d :: ds, df, β, n, M, w, p, hd, h, ht, hq => by
    refine ⟨by simp, ?_⟩
    cases hd with
    | mark h1 h0 h2 h3 h4 h5 hr =>
      rename_i x
      refine .inl ⟨x, _, h1, run_takeDeferred h3, ?_⟩; exact leaves_sound ok m0 ds df β n M _ (p.pokeNew m0 h0 h4 h3 _) (hr.pokeD h5) h ht hq
    | one h1 h2 hr =>
      rename_i df' f l cap
      rw [zleave] at h; split at h
      . rename_i M1 n1 hz
        have hcl : Callable P f := by
          unfold zdeferred at hz; split at hz
          . rename_i fi hf
            exact fn_callable ok hf
          . cases hz
        refine .inr ⟨(fun h => by cases h), .func f, cap, f, d.args ++ cap, h1, ?_, fun _ _ => trivial, ?_⟩
        . rw [h1]; exact run_callFunc hcl _
        . refine zdeferred_sound ok hz p.mem h2 fun v β' w' p' => ?_
          exact leaves_sound ok m0 ds df' β' n1 M1 w' (p.trans p') (hr.post p') h (ht.mono p'.keep p'.nn) hq
      . cases h
theorem zload_n {i : TI} {p : ZV} {v : ZV} {n1 : Nat} (h : zload i p M n1 = .ok v M' n') (k : Nat) : zload i p M k = .ok v M k := by
  unfold zload at h ⊢; repeat' split at h
  all_goals first
    | (cases h; done)
    | (cases h; simp_all)
theorem load_asAddr {T : TypeId} {pv v : Value} (h : (Instr.loadAt T pv).run P w = .ok v w') : (do loadVar T (<- asAddr pv) : Sem Value).run P w = .ok v w' := by
  cases pv with
  | pointer p => cases p with
    | some a => exact h
    | none => cases h
  | _ => cases h
theorem zresGo_sound (ok : EnvOk P E) (m : ZMem S w0 β n M w) {t : Tri ZV} {tmps : Array Value} (ht : TRel S β n t tmps) : ∀ (rs : List ResultVar) (l : List ZV), zresGo E t M rs = some l -> ∃ us, (rs.mapM (resOne tmps)).run P w = .ok us w /\ VRels S β n l us
  | [], l, h => by
    cases h; exact ⟨[], by simp [List.mapM_nil], by rw [VRels]⟩
  | .tmp i :: rs, l, h => by
    rw [zresGo] at h; split at h
    . rename_i l' hl
      cases h; obtain ⟨us, h1, h2⟩ := zresGo_sound ok m ht rs l' hl; refine ⟨tmps.getD i undef :: us, ?_, ?_⟩
      . rw [List.mapM_cons]; simp only [resOne, Sem.run_bind, Sem.run_pure, Result.andThen_ok, h1]
      . rw [VRels]; refine ⟨_, _, rfl, ?_, h2⟩; exact zrd_sound (a := { tmps := tmps, defers := [] }) ht (.tmp i)
    . cases h
  | .cell i T :: rs, l, h => by
    rw [zresGo] at h; split at h
    . rename_i v M1 n1 l' hb hz hl
      cases h; obtain ⟨us, h1, h2⟩ := zresGo_sound ok m ht rs l' hl; obtain ⟨v', g1, g2, _, _⟩ := zload_same ok m hb (zrd_sound (a := { tmps := tmps, defers := [] }) ht (.tmp i)) _ _ _ (zload_n hz n); refine ⟨v' :: us, ?_, ?_⟩
      . have g1' : (do loadVar T (<- asAddr (tmps.getD i undef)) : Sem Value).run P w = .ok v' w := load_asAddr g1; rw [List.mapM_cons]; have : (resOne tmps (.cell i T)).run P w = .ok v' w := g1'; rw [Sem.run_bind, this]; simp only [Sem.run_bind, Sem.run_pure, Result.andThen_ok, h1]
      . rw [VRels]; exact ⟨_, _, rfl, g2, h2⟩
    . cases h
theorem zpackR_sound {l : List ZV} {us : List Value} (h : VRels S β n l us) : VRel S β n (zpackR l) (if h : us.length = 1 then us[0] else .tuple us.toArray) := by
  have hl := VRels_length h
  match l, us, h with
  | [v], us, h =>
    obtain ⟨x, rfl, hx⟩ := VRels_one h; exact hx
  | [], us, h =>
    rw [dif_neg (by simp at hl; simp [hl])]
    show VRel S β n (.tup []) _; rw [VRel]; exact ⟨_, rfl, h⟩
  | v :: v2 :: l, us, h =>
    rw [dif_neg (by simp at hl; omega)]
    show VRel S β n (.tup (v :: v2 :: l)) _; rw [VRel]; exact ⟨_, rfl, h⟩
def OcOK (P : Program) (oc : Nat -> Option CF) : Prop :=
  ∀ g h, oc g = some h -> ∀ k args M n c, h k args M n = some c -> Callable P g /\ ∀ (S : Snap) (w0 : World) (β : Nat -> Loc) (w : World) (vals : Array Value), ZMem S w0 β n M w -> VRels S β n args vals.toList ->
    Calls P g vals w fun e w' => ∃ v β', e = .returned v /\ VRel S β' c.n c.v v /\ ZPost S w0 β n M w β' c.n c.M w'
theorem zcall_sound (ok : EnvOk P E) {oc : Nat -> Option CF} (ho : OcOK P oc) {ih : IH} (hi : IHok P ih) : CFok P (zcall E oc ih) := by
  intro g args M n c h; unfold zcall at h; split at h
  . rename_i hh hoc
    exact ho g hh hoc _ _ _ _ _ h
  . split at h
    . rename_i fi hf
      refine ⟨fn_callable ok hf, fun S w0 β w vals m hv => ?_⟩
      obtain ⟨fn, f1, f2, f3, f4, f5⟩ := ok.fn g fi hf; unfold zend at h; split at h
      . rename_i e s he
        obtain ⟨_, m1, k1⟩ := hi _ _ _ _ he
        have fin : ∀ (hx : (match zleave E s.df s.M s.n with
            | some (M, n) => match zresGo E s.t M fi.res with
              | some l => some ⟨zpackR l, M, n⟩
              | none => none
            | none => none) = some c) (β' : Nat -> Loc) (a' : Act) (w' : World), ZRel S w0 w.heap.size β' s a' w' -> ZPost S w0 β n M w β' s.n s.M w' ->
            LeavesInM Fence.wide 0 P fn a'.tmps (fun e w' => ∃ v β', e = .returned v /\ VRel S β' c.n c.v v /\ ZPost S w0 β n M w β' c.n c.M w') a'.defers .returning w' := by
          intro hx β' a' w' r' p; split at hx
          . rename_i M1 n1 hz
            split at hx
            . rename_i l hl
              cases hx; refine leaves_sound ok m a'.defers s.df β' s.n s.M w' p r'.df hz r'.tm fun β'' w'' p'' t'' => ?_
              obtain ⟨us, u1, u2⟩ := zresGo_sound ok p''.mem t'' fi.res l hl; exact ⟨_, results_run (a := { tmps := a'.tmps, defers := [] }) fn (by rw [f3]; exact u1), _, β'', rfl, zpackR_sound u2, p''⟩
            . cases hx
          . cases hx
        refine (callsIn_wide (n := 0)).1 (callsIn_of_wp_marks f1 f2 trivial ?_); obtain ⟨t1, t2⟩ := zstart hv fn.ntmps
        have rel : ZRel S w0 w.heap.size β ⟨argsGo args 0 .e, args.length + (fi.nt - args.length), M, n, []⟩ { tmps := vals ++ Array.replicate (fn.ntmps - vals.size) undef, defers := [] } w :=
          ⟨m, t1, by rw [t2, f4], .nil, Nat.le_refl _⟩
        refine wpx_in (k1 S w0 w.heap.size β _ w none 0 _ (fun l e => by cases e) (.inl rfl) rel fun β' a' w' r' p => ?_)
        cases e with
        | normal => exact fin h β' a' w' r' p
        | ret => exact fin h β' a' w' r' p
        | exit i => cases h
        | goto i => cases h
      . cases h
    . cases h
end
end Go.Z
namespace Go.Z
theorem zN_sound {P : Program} {E : Env} {oc : Nat -> Option CF} (ok : EnvOk P E) (ho : OcOK P oc) (hd : ∀ cf yf, CFok P cf -> YFok P yf -> DrawOK P E cf yf /\ MapOK P E cf yf) : ∀ fuel, IHok P (zN E oc fuel)
  | 0 => fun _ _ _ _ h => by cases h
  | fuel + 1 => by
    have ih := zN_sound ok ho hd fuel; have hc := zcall_sound ok ho ih; have hy := zround_sound ih; exact zcode_sound ok hc hy (hd _ _ hc hy).1 (zrange_sound' hc) (hd _ _ hc hy).2 ih
theorem zcall_sound' {P : Program} {E : Env} {oc : Nat -> Option CF} (ok : EnvOk P E) (ho : OcOK P oc) (hd : ∀ cf yf, CFok P cf -> YFok P yf -> DrawOK P E cf yf /\ MapOK P E cf yf) (fuel : Nat) : CFok P (zcall E oc (zN E oc fuel)) :=
  zcall_sound ok ho (zN_sound ok ho hd fuel)
end Go.Z
