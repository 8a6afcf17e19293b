/- The concrete evaluator: what an operation looks at. The concrete evaluator: pure and reading operations; equality of values. The concrete evaluator: equal values; new blocks; orders. The concrete evaluator: operations that make a block out of slots. The concrete evaluator: regions whose order is drawn: what their text says. The concrete evaluator: regions whose order is drawn: the evaluator's own way. -/
import Derived.Test.YtkgiopdkhhinoaaGreatDoorZf
set_option linter.all false
namespace Go.Z
open Go.Eng (TI TD DV DRep DRows DCells Snap nth upd slice' splice TabOk tiOk tdOk TFacts FW FW_some FW_none oper_in callsIn_FW Callable)
section
variable {P : Program} {E : Env} {S : Snap} {w0 : World} {B : Nat} {β β' : Nat -> Loc} {n n' : Nat} {M M' : Tri ZO} {w w' : World}
theorem zres_sound (ok : EnvOk P E) {cf yf : CF} (hc : CFok P cf) (hy : YFok P yf) {o : Oper} (hnd : isDefer o.op = false) {t : Tri ZV} {a : Act} (m : ZMem S w0 β n M w) (r : TRel S β n t a.tmps) {c : ZC} (h : zres cf yf M n (zop E o.op o.type t M n) = some c)
    {ro : Option Nat} {nn : Nat} {K : Act -> World -> Prop} {QQ : Exit -> Act -> World -> Prop} (hK : ∀ v β' w', VRel S β' c.n c.v v -> ZPost S w0 β n M w β' c.n c.M w' -> K (a.put o.dst v) w') : o.wpIn (FW ro) nn P a w K QQ := by
  refine ⟨fun _ _ => trivial, ?_⟩
  rw [Oper.semAt_eq _ _ _ (fun d e => by rw [e] at hnd; cases hnd)]
  have ho := zop_out ok m r o; generalize zop E o.op o.type t M n = z at h ho
  cases z with
  | ok v M' n' =>
    cases h; obtain ⟨v', w', β', hr, hv, hp⟩ := ho; rcases hr with hr | ⟨hr, rfl⟩
    . rw [hr]; exact hK _ _ _ hv hp
    . rw [hr]; exact hK _ _ _ hv hp
  | call f args =>
    obtain ⟨vals, hr, hv⟩ := ho; obtain ⟨hcl, hcf⟩ := hc f args _ _ c h; rw [hr, run_callFunc hcl]; refine ⟨(fun h => by cases h), CallsIn.mono (callsIn_FW (hcf S w0 β w vals m hv)) ?_⟩
    rintro e w' ⟨v, β', rfl, hvv, hp⟩; exact hK _ _ _ hvv hp
  | yld j args =>
    obtain ⟨vals, hj, hr, hv⟩ := ho; obtain ⟨fn, tmps, x, y, hrun, hR⟩ := hy j args _ _ c h S w0 β w vals hj m hv; rw [hr, hrun]; refine ⟨(fun h => by cases h), trivial, fun cc cs _ => ?_⟩
    obtain ⟨e, w', ⟨v, β', rfl, hvv, hp⟩, hs⟩ := hR.2 cc cs (room_wide _); exact ⟨.returned v, w', hK _ _ _ hvv hp, hs⟩
  | dfr f args => cases h
  | rcv => cases h
  | bad k => cases h
theorem ZMem.add (m : ZMem S w0 β n M w) {k : Nat} {ob : ZO} (hk : Key β n k) (hb : (β k).b < w.heap.size) (ho : ORel S β n w (β k) ob) (hge : w0.heap.size <= (β k).b) (hpr : ∀ j o, M.get j = some o -> (β j).b ≠ (β k).b) (hlow : ∀ T h d, ob = .cells T 0 h d -> (β k).o = 0) : ZMem S w0 β n (M.set k (some ob)) w := by
  have split : ∀ i oi, (M.set k (some ob)).get i = some oi -> (i = k /\ oi = ob) \/ (i ≠ k /\ M.get i = some oi) := by
    intro i oi h; rw [Tri.get_set] at h; split at h
    . rename_i e; cases h; exact .inl ⟨e.symm, rfl⟩
    . rename_i e; exact .inr ⟨fun h => e h.symm, h⟩
  refine ⟨m.os, m.tape, m.output, m.size, m.old, m.sub, ?_, ?_, ?_, ?_⟩
  . intro i oi h; rcases split i oi h with ⟨rfl, rfl⟩ | ⟨_, h⟩
    . exact ⟨hk, hb, ho⟩
    . exact m.key i oi h
  . intro i oi h hw; rcases split i oi h with ⟨rfl, rfl⟩ | ⟨_, h⟩
    . exact hge
    . exact m.own i oi h hw
  . intro i j oi oj hi hj hw e; rcases split i oi hi with ⟨e1, _⟩ | ⟨_, hi⟩
    . rcases split j oj hj with ⟨e2, _⟩ | ⟨_, hj⟩
      . rw [e1, e2]
      . exact absurd (by rw [<- e, e1]) (hpr j oj hj)
    . rcases split j oj hj with ⟨e2, _⟩ | ⟨_, hj⟩
      . exact absurd (by rw [e, e2]) (hpr i oi hi)
      . exact m.inj i j oi oj hi hj hw e
  . intro i T h d hi; rcases split i _ hi with ⟨e, e2⟩ | ⟨_, hi⟩
    . rw [e]; exact hlow T h d e2.symm
    . exact m.low i T h d hi
theorem ZPost.add {β0 : Nat -> Loc} {n0 : Nat} {M0 : Tri ZO} {wE : World} (p : ZPost S w0 β0 n0 M0 wE β n M w) {k : Nat} {ob : ZO} (hk : Key β n k) (hb : (β k).b < w.heap.size) (ho : ORel S β n w (β k) ob) (hge : w0.heap.size <= (β k).b) (hpr : ∀ j o, M.get j = some o -> (β j).b ≠ (β k).b) (hlow : ∀ T h d, ob = .cells T 0 h d -> (β k).o = 0)
    (hnew : wE.heap.size <= (β k).b) (hw : isW ob = true) : ZPost S w0 β0 n0 M0 wE β n (M.set k (some ob)) w := by
  have split : ∀ i oi, (M.set k (some ob)).get i = some oi -> (i = k /\ oi = ob) \/ (i ≠ k /\ M.get i = some oi) := by
    intro i oi h; rw [Tri.get_set] at h; split at h
    . rename_i e; cases h; exact .inl ⟨e.symm, rfl⟩
    . rename_i e; exact .inr ⟨fun h => e h.symm, h⟩
  refine ⟨p.mem.add hk hb ho hge hpr hlow, p.nn, p.keep0, p.size, p.frame, ?_, ?_⟩
  . intro i oi hi hw'; rcases split i oi hi with ⟨_, e⟩ | ⟨_, hi⟩
    . rw [e, hw] at hw'; cases hw'
    . exact p.rd i oi hi hw'
  . intro i oi hi hw'; rcases split i oi hi with ⟨e, _⟩ | ⟨_, hi⟩
    . rw [e]; exact .inr hnew
    . exact p.wr i oi hi hw'
theorem zrds_congr {t t' : Tri ZV} : ∀ {l : List Operand}, (∀ x ∈ l, zrd t x = zrd t' x) -> zrds t l = zrds t' l
  | [], _ => rfl
  | x :: l, h => by
    show zrd t x :: zrds t l = zrd t' x :: zrds t' l; rw [h x (by simp), zrds_congr fun y hy => h y (by simp [hy])]
theorem zparts_congr {t t' : Tri ZV} : ∀ {l : List (Nat × Operand)}, (∀ p ∈ l, zrd t p.2 = zrd t' p.2) -> zofParts t l = zofParts t' l
  | [], _ => rfl
  | x :: l, h => by
    show (x.1, zrd t x.2) :: zofParts t l = (x.1, zrd t' x.2) :: zofParts t' l; rw [h x (by simp), zparts_congr fun y hy => h y (by simp [hy])]
theorem zopt_congr {t t' : Tri ZV} {o : Option Operand} (h : ∀ x, o = some x -> zrd t x = zrd t' x) : zoptO t o = zoptO t' o := by
  cases o with
  | none => rfl
  | some x => show some _ = some _; rw [h x rfl]
theorem zop_congr {op : Op} {ty : Nat} {t t' : Tri ZV} (h : ∀ x ∈ op.operands.toList, zrd t x = zrd t' x) : zop E op ty t = zop E op ty t' := by
  cases op with
  | move x => simp only [zop]; rw [h x (by simp [Op.operands])]
  | assign x => simp only [zop]; rw [h x (by simp [Op.operands])]
  | pick c a b => simp only [zop]; rw [h a (by simp [Op.operands]), h b (by simp [Op.operands]), h c (by simp [Op.operands])]
  | alloc T => rfl
  | box T x => simp only [zop]; rw [h x (by simp [Op.operands])]
  | build T ps => simp only [zop]; rw [zparts_congr fun p hp => h p.2 (by simp [Op.operands]; exact ⟨p.1, by simpa using hp⟩)]
  | buildSlice T q ps => simp only [zop]; rw [zparts_congr fun p hp => h p.2 (by simp [Op.operands]; exact ⟨p.1, by simpa using hp⟩)]
  | load T x => simp only [zop]; rw [h x (by simp [Op.operands])]
  | store T x y => simp only [zop]; rw [h x (by simp [Op.operands]), h y (by simp [Op.operands])]
  | nilCheck x => simp only [zop]; rw [h x (by simp [Op.operands])]
  | binOp op T x y z => simp only [zop]; rw [h x (by simp [Op.operands]), h y (by simp [Op.operands])]
  | unOp op T x => simp only [zop]; rw [h x (by simp [Op.operands])]
  | convert s d x => simp only [zop]; rw [h x (by simp [Op.operands])]
  | makeInterface T x => simp only [zop]; rw [h x (by simp [Op.operands])]
  | makeFunc f fs cs => cases f with
    | func f => simp only [zop]; rw [zrds_congr fun x hx => h x (by simp [Op.operands]; simp at hx; simp [hx]), zrds_congr fun x hx => h x (by simp [Op.operands]; simp at hx; simp [hx])]
    | _ => rfl
  | makeMap T x => cases x <;> rfl
  | makeSlice T l c => simp only [zop]; rw [h l (by simp [Op.operands]), h c (by simp [Op.operands])]
  | slice T x lo hi mx => simp only [zop]; rw [h x (by simp [Op.operands]), zopt_congr fun y hy => h y (by simp [Op.operands, hy]), zopt_congr fun y hy => h y (by simp [Op.operands, hy]), zopt_congr fun y hy => h y (by simp [Op.operands, hy])]
  | fieldAddr T x f => simp only [zop]; rw [h x (by simp [Op.operands])]
  | field T x f => simp only [zop]; rw [h x (by simp [Op.operands])]
  | indexAddr T x i => simp only [zop]; rw [h x (by simp [Op.operands]), h i (by simp [Op.operands])]
  | index T x i => simp only [zop]; rw [h x (by simp [Op.operands]), h i (by simp [Op.operands])]
  | lookup T x k c => simp only [zop]; rw [h x (by simp [Op.operands]), h k (by simp [Op.operands])]
  | mapEntry T x k => simp only [zop]; rw [h x (by simp [Op.operands]), h k (by simp [Op.operands])]
  | entryStore T x s v => simp only [zop]; rw [h x (by simp [Op.operands]), h s (by simp [Op.operands]), h v (by simp [Op.operands])]
  | mapUpdate T x k v => simp only [zop]; rw [h x (by simp [Op.operands]), h k (by simp [Op.operands]), h v (by simp [Op.operands])]
  | insert T x k v => simp only [zop]; rw [h x (by simp [Op.operands]), h k (by simp [Op.operands]), h v (by simp [Op.operands])]
  | range T x => simp only [zop]; rw [h x (by simp [Op.operands])]
  | next x b => cases b <;> (simp only [zop]; rw [h x (by simp [Op.operands])])
  | typeAssert x T D c => simp only [zop]; rw [h x (by simp [Op.operands])]
  | extract x i => simp only [zop]; rw [h x (by simp [Op.operands])]
  | call c =>
    have ha : zrds t c.args.toList = zrds t' c.args.toList := zrds_congr fun x hx => h x (by simp [Op.operands, Call.operands]; simp at hx; cases c.callee <;> simp [hx])
    simp only [zop]
    cases hcal : c.callee with
    | builtin b => simp only [ha]
    | value f => simp only [ha]; rw [h f (by simp [Op.operands, Call.operands, hcal])]
    | invoke x y => rfl
  | defer c =>
    have ha : zrds t c.args.toList = zrds t' c.args.toList := zrds_congr fun x hx => h x (by simp [Op.operands, Call.operands]; simp at hx; cases c.callee <;> simp [hx])
    simp only [zop]
    cases hcal : c.callee with
    | builtin b => rfl
    | value f => simp only [ha]; rw [h f (by simp [Op.operands, Call.operands, hcal])]
    | invoke x y => rfl
  | _ => rfl
end
end Go.Z
namespace Go.Z
open Go.Eng (TI TD DV DRep DRows DCells Snap nth upd slice' splice TabOk tiOk tdOk TFacts FW FW_some FW_none oper_in callsIn_FW Callable)
section
variable {P : Program} {E : Env} {S : Snap} {w0 : World} {B : Nat} {β β' : Nat -> Loc} {n n' : Nat} {M M' : Tri ZO} {w w' : World}
def Free (F : ZF) : Prop := ∀ M n v M1 n1, F M n = .ok v M1 n1 -> ∀ M' n', F M' n' = .ok v M' n'
theorem Free.ret (z : ZV) : Free (zret z) := fun M n v M1 n1 h M' n' => by cases h; rfl
theorem Free.bad (k : Nat) : Free (zbad k) := fun M n v M1 n1 h => by cases h
theorem Free.when {b : Bool} {k : ZF} (h : Free k) : Free (zwhen b k) := by
  cases b with
  | true => exact h
  | false => exact Free.bad 1
theorem Free.elem {E : Env} {T : Nat} {k : Nat -> TI -> ZF} (h : ∀ e i, Free (k e i)) : Free (zelem E T k) := by
  intro M n v M1 n1 hh M' n'; unfold zelem at hh ⊢; split at hh
  . split at hh
    . exact h _ _ M n v M1 n1 hh M' n'
    . cases hh
  . cases hh
theorem fr_bool (o : Option Bool) (f : Bool -> Bool) : Free (zbool o f) := by
  unfold zbool; split <;> first | exact Free.ret _ | exact Free.bad _
theorem fr_eqOp (op : BinOp) (b : Option Bool) : Free (zeqOp op b) := by
  unfold zeqOp; split <;> first | exact fr_bool _ _ | exact Free.bad _
theorem fr_int (op : BinOp) (k : IntKind) (a b : Int) : Free (zint op k a b) := by
  unfold zint; split <;> first | exact Free.ret _ | exact Free.when (Free.ret _) | exact Free.bad _
theorem fr_shift (op : BinOp) (k : IntKind) (a b : Int) : Free (zshift op k a b) := by
  unfold zshift; split <;> first | exact Free.ret _ | exact Free.bad _
theorem fr_strOp (op : BinOp) (a b c d : Nat) : Free (zstrOp op a b c d) := by
  unfold zstrOp; split <;> first | exact Free.when (Free.ret _) | exact fr_bool _ _ | exact Free.bad _
theorem fr_bin (E : Env) (T : Nat) (op : BinOp) (cy : Bool) (x y : ZV) : Free (zbin E T op cy x y) := by
  unfold zbin; repeat' split
  all_goals first
    | exact fr_shift _ _ _ _
    | exact fr_int _ _ _ _
    | exact fr_strOp _ _ _ _ _
    | exact fr_eqOp _ _
    | exact Free.when (Free.when (Free.when (fr_eqOp _ _)))
    | exact Free.when (fr_eqOp _ _)
    | exact Free.bad _
theorem fr_un (op : UnOp) (v : ZV) : Free (zun op v) := by
  unfold zun; split <;> first | exact Free.ret _ | exact Free.bad _
theorem fr_build (i : TI) (ps : List (Nat × ZV)) : Free (zbuild i ps) := by
  unfold zbuild; repeat' split
  all_goals first
    | exact Free.ret _
    | exact Free.bad _
theorem Free.of {F : ZF} (h : (∃ v, ∀ M n, F M n = .ok v M n) \/ ∃ k, ∀ M n, F M n = .bad k) : Free F := by
  rcases h with ⟨v, h⟩ | ⟨k, h⟩
  . intro M n v' M1 n1 e M' n'; rw [h] at e; cases e; exact h M' n'
  . intro M n v' M1 n1 e; rw [h] at e; cases e
theorem fr_slice (E : Env) (T : Nat) (v : ZV) (a b c : Option ZV) : Free (zslice E T v a b c) := by
  unfold zslice; split
  . split
    . split <;> first | exact Free.ret _ | exact Free.bad _
    . refine Free.elem fun e i => Free.of ?_
      split <;> first | exact .inl ⟨_, fun _ _ => rfl⟩ | exact .inr ⟨_, fun _ _ => rfl⟩
    . refine Free.elem fun e i => Free.of ?_
      split <;> first | exact .inl ⟨_, fun _ _ => rfl⟩ | exact .inr ⟨_, fun _ _ => rfl⟩
    . refine Free.elem fun e i => Free.of ?_
      split <;> first | exact .inl ⟨_, fun _ _ => rfl⟩ | exact .inr ⟨_, fun _ _ => rfl⟩
    . exact Free.bad _
  . exact Free.bad _
theorem fr_fieldAddr (i : TI) (p : ZV) (f : Nat) : Free (zfieldAddr i p f) := by
  unfold zfieldAddr; split <;> first | exact Free.ret _ | exact Free.bad _
theorem fr_indexAddr (E : Env) (T : Nat) (a b : ZV) : Free (zindexAddr E T a b) := by
  unfold zindexAddr; split
  . split
    . refine Free.elem fun e i => Free.of ?_
      split <;> first | exact .inl ⟨_, fun _ _ => rfl⟩ | exact .inr ⟨_, fun _ _ => rfl⟩
    . refine Free.elem fun e i => Free.of ?_
      split <;> first | exact .inl ⟨_, fun _ _ => rfl⟩ | exact .inr ⟨_, fun _ _ => rfl⟩
    . exact Free.bad _
  . exact Free.bad _
theorem fr_index (i : TI) (a b : ZV) : Free (zindex i a b) := by
  unfold zindex; split <;> first | exact Free.when (Free.ret _) | exact Free.bad _
theorem fr_field (i ti : TI) (x : ZV) (f : Nat) : Free (zfield i ti x f) := by
  unfold zfield; split
  . refine Free.when (Free.of ?_); repeat' split
    all_goals first
      | exact .inl ⟨_, fun _ _ => rfl⟩
      | exact .inr ⟨_, fun _ _ => rfl⟩
  . exact Free.bad _
theorem fr_assert (E : Env) (D : Nat) (x : ZV) (b : Bool) : Free (zassert E D x b) := by
  unfold zassert; repeat' split
  all_goals first
    | exact Free.ret _
    | exact Free.bad _
theorem fr_extract (x : ZV) (i : Nat) : Free (zextractI x i) := by
  unfold zextractI; repeat' split
  all_goals first
    | exact Free.ret _
    | exact Free.bad _
theorem fr_nil (z : ZV) : Free (znilI z) := by
  unfold znilI; repeat' split
  all_goals first
    | exact Free.ret _
    | exact Free.bad _
def isPure : Kd -> Bool
  | .pure => true
  | _ => false
theorem fr_builtin {E : Env} {b : Builtin} {tys : List Nat} {args : List ZV} (h : b = .min \/ b = .max \/ b = .cap) : Free (zbuiltin E b tys args) := by
  unfold zbuiltin
  split <;> first
    | exact Free.ret _
    | exact Free.bad _
    | (rcases h with h | h | h <;> cases h; done)
    | (split <;> first | exact Free.ret _ | exact Free.bad _)
theorem zop_pure {op : Op} {ty : Nat} {t : Tri ZV} (h : isPure (kind op) = true) : Free (zop E op ty t) := by
  cases op with
  | move x => exact Free.ret _
  | assign x => exact Free.ret _
  | pick c a b =>
    simp only [zop]; split <;> first | exact Free.ret _ | exact Free.bad _
  | build T ps => exact fr_build _ _
  | nilCheck x => exact fr_nil _
  | binOp op T x y z => exact fr_bin _ _ _ _ _ _
  | unOp op T x => exact fr_un _ _
  | makeInterface T x => exact Free.when (Free.ret _)
  | makeFunc f fs cs => cases f with
    | func f => exact Free.ret _
    | _ => exact Free.bad _
  | slice T x lo hi mx => exact fr_slice _ _ _ _ _ _
  | fieldAddr T x f => exact fr_fieldAddr _ _ _
  | field T x f => exact fr_field _ _ _ _
  | indexAddr T x i => exact fr_indexAddr _ _ _ _
  | index T x i => exact fr_index _ _ _
  | typeAssert x T D c => exact fr_assert _ _ _ _
  | extract x i => exact fr_extract _ _
  | call c =>
    simp only [kind] at h; simp only [zop]
    cases hc : c.callee with
    | builtin b =>
      rw [hc] at h
      cases b <;> first
        | (cases h; done)
        | exact fr_builtin (.inl rfl)
        | exact fr_builtin (.inr (.inl rfl))
        | exact fr_builtin (.inr (.inr rfl))
    | value f => rw [hc] at h; cases h
    | invoke x y => rw [hc] at h; cases h
  | _ => cases h
def Reads (F : ZF) : Prop := ∀ M n v M1 n1, F M n = .ok v M1 n1 -> M1 = M /\ n1 = n /\ ∀ n', F M n' = .ok v M n'
theorem Free.reads {F : ZF} (h : Free F) : Reads F := fun M n v M1 n1 e => by
  have := h M n v M1 n1 e M n; rw [e] at this; cases this; exact ⟨rfl, rfl, fun n' => h M n v _ _ e M n'⟩
theorem Reads.when {b : Bool} {k : ZF} (h : Reads k) : Reads (zwhen b k) := by
  cases b with
  | true => exact h
  | false => exact (Free.bad 1).reads
theorem Reads.of {F : ZF} (h : ∀ M, (∃ v, ∀ n, F M n = .ok v M n) \/ ∃ k, ∀ n, F M n = .bad k) : Reads F := by
  intro M n v M1 n1 e; rcases h M with ⟨u, h⟩ | ⟨k, h⟩
  . rw [h] at e; cases e; exact ⟨rfl, rfl, h⟩
  . rw [h] at e; cases e
theorem rd_load (i : TI) (p : ZV) : Reads (zload i p) := by
  intro M n v M1 n1 h
  have hM : M1 = M /\ n1 = n := by
    unfold zload at h; repeat' split at h
    all_goals first
      | (cases h; done)
      | (cases h; exact ⟨rfl, rfl⟩)
  obtain ⟨rfl, rfl⟩ := hM; exact ⟨rfl, rfl, fun n' => zload_n h n'⟩
theorem Reads.map {E : Env} {T : Nat} {k : Nat -> TI -> ZF} (h : ∀ e i, Reads (k e i)) : Reads (zmap E T k) := by
  intro M n v M1 n1 hh; unfold zmap at hh ⊢; split at hh
  . split at hh
    . exact h _ _ M n v M1 n1 hh
    . cases hh
  . cases hh
theorem rd_lookup (E : Env) (T : Nat) (a b : ZV) (c : Bool) : Reads (zlookup E T a b c) := by
  unfold zlookup; refine Reads.map fun kt i => Reads.when (Reads.when (Reads.of fun M => ?_))
  repeat' split
  all_goals first
    | exact .inl ⟨_, fun _ => rfl⟩
    | exact .inr ⟨_, fun _ => rfl⟩
theorem rd_len (i : TI) (x : ZV) : Reads (zlen i x) := by
  unfold zlen
  split <;> first
    | exact (Free.ret _).reads
    | exact (Free.bad _).reads
    | (refine Reads.of fun M => ?_; split <;> first | exact .inl ⟨_, fun _ => rfl⟩ | exact .inr ⟨_, fun _ => rfl⟩)
theorem rd_conv (E : Env) (T U : Nat) (a : ZV) : Reads (zconv E T U a) := by
  unfold zconv; split
  . exact Reads.when (Free.ret _).reads
  . exact Reads.when (Free.ret _).reads
  . split
    . refine Reads.when (Reads.of fun M => ?_)
      repeat' split
      all_goals first
        | exact .inl ⟨_, fun _ => rfl⟩
        | exact .inr ⟨_, fun _ => rfl⟩
    . exact (Free.bad _).reads
  . refine Reads.when (Reads.when (Reads.of fun M => ?_))
    repeat' split
    all_goals first
      | exact .inl ⟨_, fun _ => rfl⟩
      | exact .inr ⟨_, fun _ => rfl⟩
  . refine Reads.when (Reads.of fun M => ?_)
    repeat' split
    all_goals first
      | exact .inl ⟨_, fun _ => rfl⟩
      | exact .inr ⟨_, fun _ => rfl⟩
  . exact (Free.bad _).reads
theorem rd_builtin {E : Env} {b : Builtin} {tys : List Nat} {args : List ZV} (h : b = .len) : Reads (zbuiltin E b tys args) := by
  unfold zbuiltin
  split <;> first
    | exact rd_len _ _
    | exact (Free.bad _).reads
    | (cases h; done)
theorem zop_read {op : Op} {ty : Nat} {t : Tri ZV} (h : isRead (kind op) = true) : Reads (zop E op ty t) := by
  cases op with
  | load T x => exact Reads.when (rd_load _ _)
  | lookup T x k c => exact rd_lookup _ _ _ _ _
  | convert s d x => exact rd_conv _ _ _ _
  | call c =>
    simp only [kind] at h; simp only [zop]
    cases hc : c.callee with
    | builtin b =>
      rw [hc] at h
      cases b <;> first
        | (cases h; done)
        | exact rd_builtin rfl
    | value f => rw [hc] at h; cases h
    | invoke x y => rw [hc] at h; cases h
  | _ => cases h
end
end Go.Z
namespace Go.Z
open Go.Eng (TI TD DV DRep DRows DCells Snap nth upd slice' splice TabOk tiOk tdOk TFacts FW FW_some FW_none oper_in callsIn_FW Callable mem_ready')
section
variable {P : Program} {E : Env} {S : Snap} {w0 : World} {B : Nat} {β β' : Nat -> Loc} {n n' : Nat} {M M' : Tri ZO} {w w' : World}
theorem zip_all_eq {α : Type} {f : α -> α -> Bool} (h : ∀ x y, f x y = true -> x = y) : ∀ (l m : List α), l.length = m.length -> ((l.zip m).all fun p => f p.1 p.2) = true -> l = m
  | [], [], _, _ => rfl
  | x :: l, y :: m, hl, ha => by
    simp only [List.zip_cons_cons, List.all_cons, Bool.and_eq_true] at ha; rw [h x y ha.1, zip_all_eq h l m (by simpa using hl) ha.2]
  | [], _ :: _, hl, _ => by cases hl
  | _ :: _, [], hl, _ => by cases hl
theorem zeqI_true {a b : Int} (h : zeqI a b = true) : a = b := by rw [zeqI_eq] at h; simpa using h
theorem bytesEq_eq {a b : ByteArray} (h : bytesEq a b = true) : a = b := by
  unfold bytesEq at h; rw [Bool.and_eq_true] at h; rw [<- zbytes_ofS a, <- zbytes_ofS b, beq_true h.1, beq_true h.2]
theorem dveq_eq : ∀ (f : Nat) (x y : DV), dveq f x y = true -> x = y
  | 0, _, _, h => by cases h
  | f + 1, x, y, h => by
    have ih := dveq_eq f; unfold dveq at h; split at h
    all_goals try (cases h; done)
    all_goals try simp only [Bool.and_eq_true] at h
    . rw [of_decide_eq_true h.1, zeqI_true h.2]
    . congr 1; simpa using h
    . rw [bytesEq_eq h]
    . rename_i sz l sz' l'
      have rows : ∀ (r r' : List DV), (Nat.beq r.length r'.length && (r.zip r').all fun q => dveq f q.1 q.2) = true -> r = r' := fun r r' hh => by
        rw [Bool.and_eq_true] at hh; exact zip_all_eq (f := dveq f) ih r r' (beq_true hh.1) hh.2
      rw [beq_true h.1.1, zip_all_eq (f := fun (r r' : List DV) => Nat.beq r.length r'.length && (r.zip r').all fun q => dveq f q.1 q.2) rows l l' (beq_true h.1.2) h.2]
    all_goals rfl
theorem zveq_eq : ∀ (f : Nat) (x y : ZV), zveq f x y = true -> x = y
  | 0, _, _, h => by cases h
  | f + 1, x, y, h => by
    have ih := zveq_eq f; have lists : ∀ (l m : List ZV), Nat.beq l.length m.length = true -> ((l.zip m).all fun p => zveq f p.1 p.2) = true -> l = m := fun l m h1 h2 => zip_all_eq (f := zveq f) ih l m (beq_true h1) h2
    unfold zveq at h; split at h
    all_goals try (cases h; done)
    all_goals try simp only [Bool.and_eq_true] at h
    . rw [of_decide_eq_true h.1, zeqI_true h.2]
    . congr 1; simpa using h
    . rw [beq_true h.1, beq_true h.2]
    . rw [beq_true h.1, beq_true h.2]
    . rename_i sz j o m c sz' j' o' m' c'
      obtain ⟨⟨⟨⟨h1, h2⟩, h3⟩, h4⟩, h5⟩ := h; rw [beq_true h1, beq_true h2, beq_true h3, beq_true h4]; congr 1; cases c <;> cases c' <;> simp at h5
      . rfl
      . rw [h5]
    . rw [beq_true h]
    . obtain ⟨⟨⟨⟨h1, h2⟩, h3⟩, h4⟩, h5⟩ := h; rw [beq_true h1, lists _ _ h2 h4, lists _ _ h3 h5]
    . rw [beq_true h]
    . rw [beq_true h.1, ih _ _ h.2]
    . rw [lists _ _ h.1 h.2]
    . rw [lists _ _ h.1 h.2]
    . have := dveq_eq _ _ _ h; cases this; rfl
    . have := dveq_eq _ _ _ h.1.1; cases this; rw [beq_true h.1.2, beq_true h.2]
    all_goals rfl
theorem any_inv {ops : Array Oper} {ro : Option Nat} {nn : Nat} {QQ : Exit -> Act -> World -> Prop} (I : (Nat -> Prop) -> Act -> World -> Prop)
    (hI : ∀ L L' a w, (∀ k, k < ops.size -> (L k ↔ L' k)) -> I L a w -> I L' a w)
    (hp : ∀ i o, ops[i]? = some o -> ∀ e ∈ o.after, Region.binds .any e = true -> e.on < i)
    (hstep : ∀ (L : Nat -> Prop) (i : Nat) (o : Oper) (a : Act) (w : World), ops[i]? = some o -> ¬ L i -> (∀ e ∈ o.after, Region.binds .any e = true -> L e.on) ->
      (∀ k ok, ops[k]? = some ok -> L k -> ∀ e ∈ ok.after, Region.binds .any e = true -> L e.on) -> I L a w -> wpOpIn (FW ro) nn P ops QQ i (fun a' w' => I (fun k => L k \/ k = i) a' w') a w)
    (hfin : ∀ (L : Nat -> Prop) (a : Act) (w : World), (∀ k, k < ops.size -> L k) -> I L a w -> QQ .normal a w) :
    ∀ (fuel : Nat) (listed : Array Bool) (a : Act) (w : World), listed.size = ops.size -> ((List.range ops.size).filter fun k => !listed.getD k true).length = fuel ->
      (∀ k ok, ops[k]? = some ok -> listed.getD k false = true -> ∀ e ∈ ok.after, Region.binds .any e = true -> listed.getD e.on false = true) ->
      I (fun k => listed.getD k false = true) a w -> wpAnyIn (FW ro) nn P .any ops QQ fuel listed a w := by
  have hd : ∀ (listed : Array Bool) (k : Nat), listed.size = ops.size -> k < ops.size -> (listed.getD k true = false ↔ ¬ listed.getD k false = true) := by
    intro listed k hs hk; have : k < listed.size := by omega
    simp [Array.getD, this]
  have done : ∀ (listed : Array Bool), listed.size = ops.size -> Region.ready .any ops listed = [] -> ∀ k, k < ops.size -> listed.getD k false = true := by
    intro listed hs hr
    have : ∀ m k, k <= m -> k < ops.size -> listed.getD k false = true := by
      intro m
      induction m with
      | zero =>
        intro k hk hk2; have hk0 : k = 0 := by omega
        subst hk0; by_cases h : listed.getD 0 false = true
        . exact h
        . exfalso; obtain ⟨o, ho⟩ : ∃ o, ops[0]? = some o := ⟨_, Array.getElem?_eq_getElem hk2⟩; have : (0 : Nat) ∈ Region.ready .any ops listed := mem_ready'.2 ⟨hk2, (hd listed 0 hs hk2).2 h, o, ho, fun e he hb => by have := hp 0 o ho e he hb; omega⟩
          rw [hr] at this; cases this
      | succ m ih =>
        intro k hk hk2; by_cases hle : k <= m
        . exact ih k hle hk2
        . by_cases h : listed.getD k false = true
          . exact h
          . exfalso; obtain ⟨o, ho⟩ : ∃ o, ops[k]? = some o := ⟨_, Array.getElem?_eq_getElem hk2⟩; have : k ∈ Region.ready .any ops listed := mem_ready'.2 ⟨hk2, (hd listed k hs hk2).2 h, o, ho, fun e he hb => by have := hp k o ho e he hb; exact ih e.on (by omega) (by omega)⟩
            rw [hr] at this; cases this
    exact fun k hk => this k k (Nat.le_refl _) hk
  intro fuel
  induction fuel with
  | zero =>
    intro listed a w hs hl hc hi
    have hall : ∀ k, k < ops.size -> listed.getD k false = true := by
      intro k hk; by_cases h : listed.getD k false = true
      . exact h
      . exfalso; have h0 := List.eq_nil_of_length_eq_zero hl; have : k ∈ (List.range ops.size).filter fun k => !listed.getD k true := List.mem_filter.2 ⟨List.mem_range.2 hk, by rw [(hd listed k hs hk).2 h]; rfl⟩
        rw [h0] at this; cases this
    refine ⟨?_, hfin _ a w hall hi⟩; refine List.eq_nil_iff_forall_not_mem.2 fun i hi' => ?_
    obtain ⟨h1, h2, _⟩ := mem_ready'.1 hi'; exact (hd listed i hs h1).1 h2 (hall i h1)
  | succ fuel ih =>
    intro listed a w hs hl hc hi; refine ⟨fun hr => hfin _ a w (done listed hs hr) hi, ?_⟩
    intro i hir; obtain ⟨h1, h2, o, ho, h3⟩ := mem_ready'.1 hir; have hni := (hd listed i hs h1).1 h2; refine wpOpIn_mono ?_ (hstep _ i o a w ho hni h3 hc hi); intro a' w' hi'
    have hset : ∀ k, k < ops.size -> ((listed.setIfInBounds i true).getD k false = true ↔ (listed.getD k false = true \/ k = i)) := by
      intro k hk; have hk' : k < listed.size := by omega
      by_cases e : k = i
      . subst e; simp [Array.getD, hk']
      . simp [Array.getD, hk', e, Array.getElem_setIfInBounds_ne hk' (fun h => e h.symm)]
    refine ih (listed.setIfInBounds i true) a' w' (by simpa using hs) ?_ ?_ (hI _ _ a' w' (fun k hk => (hset k hk).symm) hi')
    . have hlen : ∀ (l : List Nat), l.Nodup -> (∀ k ∈ l, k < ops.size) -> (l.filter fun k => !listed.getD k true).length = (l.filter fun k => !(listed.setIfInBounds i true).getD k true).length + (if i ∈ l then 1 else 0) := by
        intro l
        induction l with
        | nil => intro _ _; rfl
        | cons k l ihl =>
          intro hn hb; have hn' := List.nodup_cons.1 hn; have ih2 := ihl hn'.2 (fun k hk => hb k (by simp [hk]))
          have hk' : k < listed.size := by have := hb k (by simp); omega
          by_cases e : k = i
          . subst e; have e1 : (!listed.getD k true) = true := by rw [h2]; rfl
            have e2 : (!(listed.setIfInBounds k true).getD k true) = false := by simp [Array.getD, hk']
            rw [if_neg hn'.1] at ih2; rw [List.filter_cons_of_pos (by simpa using e1), List.filter_cons_of_neg (by simpa using e2), List.length_cons, ih2, if_pos (by simp)]
          . have e2 : (listed.setIfInBounds i true).getD k true = listed.getD k true := by
              simp [Array.getD, hk', Array.getElem_setIfInBounds_ne hk' (fun h => e h.symm)]
            have e3 : (i ∈ k :: l) ↔ i ∈ l := by
              rw [List.mem_cons]; exact ⟨fun h => h.resolve_left (fun h => e h.symm), .inr⟩
            simp only [e3]; by_cases e4 : (!listed.getD k true) = true
            . rw [List.filter_cons_of_pos (by simpa using e4), List.filter_cons_of_pos (by rw [e2]; simpa using e4), List.length_cons, List.length_cons, ih2]
              omega
            . rw [List.filter_cons_of_neg (by simpa using e4), List.filter_cons_of_neg (by rw [e2]; simpa using e4), ih2]
      have := hlen (List.range ops.size) List.nodup_range (fun k hk => List.mem_range.1 hk)
      rw [hl, if_pos (List.mem_range.2 h1)] at this; omega
    . intro k ok hk hkl e he hb; have hks : k < ops.size := (Array.getElem?_eq_some_iff.1 hk).1; have hes : e.on < ops.size := by have := hp k ok hk e he hb; omega
      refine (hset e.on hes).2 (.inl ?_); rcases (hset k hks).1 hkl with h | h
      . exact hc k ok hk h e he hb
      . subst h; rw [ho] at hk; cases hk; exact h3 e he hb
end
end Go.Z
namespace Go.Z
open Go.Eng (TI TD DV DRep DRows DCells Snap nth upd slice' splice TabOk tiOk tdOk TFacts)
section
variable {P : Program} {E : Env} {S : Snap} {w0 : World} {β β' : Nat -> Loc} {n n' : Nat} {M M' : Tri ZO} {w w' : World}
def NewOut (P : Program) (S : Snap) (β : Nat -> Loc) (n : Nat) (w : World) (F : ZF) (s : Sem Value) : Prop :=
  ∀ κ v M1 n1, F .e κ = .ok v M1 n1 -> ∃ (ob : ZO) (v' : Value) (x : Obj) (len : Nat), M1.get κ = some ob /\ isW ob = true /\ s.run P w = .ok v' (w.alloc x) /\
    ∀ (β'' : Nat -> Loc) (N : Nat), (∀ j, Key β n j -> β'' j = β j) -> n <= N -> κ < N -> β'' κ = ⟨w.heap.size, 0, len, true⟩ -> VRel S β'' N v v' /\ ORel S β'' N (w.alloc x) (β'' κ) ob
theorem NewOut.when {b : Bool} {k : ZF} {s : Sem Value} (h : b = true -> NewOut P S β n w k s) : NewOut P S β n w (zwhen b k) s := by
  cases b with
  | true => exact h rfl
  | false => intro κ v M1 n1 e; cases e
theorem newOut_cells {T : TypeId} {l : List ZV} {vs : List Value} {k : Nat -> ZV} {F : Addr -> Value} {s : Sem Value} (h : VRels S β n l vs) (h1 : ∀ v ∈ vs, v.oneCell' = true)
    (hk : ∀ (β' : Nat -> Loc) (N κ : Nat), κ < N -> β' κ = ⟨w.heap.size, 0, vs.length, true⟩ -> VRel S β' N (k κ) (F ⟨w.heap.size, 0, none⟩)) (hs : s.run P w = .ok (F ⟨w.heap.size, 0, none⟩) (w.alloc (.cells vs.toArray T))) : NewOut P S β n w (znew T l k) s := by
  intro κ v M1 n1 e; cases e; refine ⟨.cells T 0 l.length (triOf l), _, _, vs.length, by rw [Tri.get_set, if_pos rfl], rfl, hs, fun β'' N hβ hn hκ hb => ⟨hk β'' N κ hκ hb, ?_⟩⟩
  rw [hb]; refine ⟨vs.toArray, heap_alloc_new w _, ?_⟩; exact CRel.whole rfl rfl (VRels_mono hβ hn _ _ h) h1
theorem newOut_buildSlice (ok : EnvOk P E) {T : TypeId} {q : Nat} {t : Tri ZV} {a : Act} (r : TRel S β n t a.tmps) (ps : Array (Nat × Operand)) :
    NewOut P S β n w (zbuildSlice E T q (zofParts t ps.toList)) (Instr.buildSlice T q (ps.map fun (i, x) => (i, a.eval x))) := by
  have hpz := Go.Eng.parts_zip a ps; generalize (ps.map fun (i, x) => (i, a.eval x)) = parts at hpz ⊢
  intro κ v M' n' hv; unfold zbuildSlice at hv; obtain ⟨e, hu, ⟨ie, de, ze, hie, _, hse, _, hz, hzc, _⟩, hp, hzl, hv⟩ := zelem_bad ok hv; split at hv
  . rename_i l h1 h2 h3
    have h2 := beq_true h2; have h3 := blt_true h3
    have hrd : VRels S β n ((zofParts t ps.toList).map (·.2)) ((ps.toList.map (·.2)).map a.eval) := by
      rw [parts_snd]; have := zrds_sound r (ps.toList.map (·.2)); simpa only [zrds, List.map_map, Function.comp_def] using this
    obtain ⟨g1, g2, g3, g4, g5⟩ := zdense_sound h1 hrd; rw [parts_fst] at g3; generalize hus : (ps.toList.map (·.2)).map a.eval = us at *; have husl : us.length = q := g5.trans h2
    have hfl : (us.flatMap fun v => v.cells.toList).length = q * (E.tab e).size := by
      rw [<- husl]; clear g1 g3 g4 g5 husl hus hrd hpz
      induction us with
      | nil => simp
      | cons u us ih =>
        rw [List.flatMap_cons, List.length_append, ih (fun v hv => g2 v (by simp [hv])), List.length_cons, Array.length_toList, g2 u (by simp), Nat.add_mul]
        omega
    have hzs : ze.cells.size = (E.tab e).size := by rw [<- hzl, <- hzc]; simp
    refine newOut_cells (F := fun a => .slice (some a) q q) (T := e) (w := w) g1 g4 (fun β' N κ hk hb => by
      rw [VRel]; refine ⟨⟨hk, by rw [hb]⟩, hp, 0, q, by rw [hb], Nat.le_refl _, fun _ => by rw [hb]; simp, rfl⟩) ?_ κ v M' n' hv
    by_cases hq0 : q = 0
    . subst hq0; have hus0 : us = [] := List.eq_nil_of_length_eq_zero husl
      have hps : ps = #[] := by
        have : ps.toList = [] := by
          have := congrArg List.length hus; simp [hus0] at this; simpa using this
        simpa using this
      subst hus0
      have hparts : parts = #[] := by
        have : parts.toList = [] := by rw [hpz, hps]; rfl
        simpa using this
      simp [hparts, Instr.buildSlice, run_underlying hu, sizeOf, typeInfo, hie, Instr.fill, newRow, Array.range_zero']
    . have hpos : 0 < q * (E.tab e).size := Nat.mul_pos (by omega) hp
      have hfill := Great.fill_whole hp us ((Array.range (q * ie.size)).map (ze.cells[· % ze.cells.size]!)) g2 (by simp [husl, hse])
      have hparts : parts.toList = (us.zipIdx 0).map fun x => (x.2, x.1) := by rw [hpz, g3]
      have hrun := run_buildSlice (P := P) w T e q parts (us.flatMap fun v => v.cells.toList).toArray ie ze hu hie hz (by rw [hse]; omega) (by rw [hse]; omega) (by
        rw [hparts]; rw [hse] at hfill ⊢; exact hfill)
      exact hrun
  . cases hv
theorem newOut_alloc (ok : EnvOk P E) {T : TypeId} : NewOut P S β n w (zwhen (!zbadT (E.tab T).d && zones ((E.tab T).zero.map zofV)) (znew T ((E.tab T).zero.map zofV) fun j => .ptr j 0)) (Instr.alloc T true (.tuple #[])) := by
  refine NewOut.when fun h => ?_
  simp only [Bool.and_eq_true, Bool.not_eq_true'] at h; obtain ⟨info, d, z, hi, hu, hs, _, hz, hzc, hd⟩ := tfacts ok h.1; have hv : VRels S β n ((E.tab T).zero.map zofV) z.cells.toList := by rw [hzc]; exact VRels_zero _
  refine newOut_cells (F := fun a => .pointer (some a)) hv (VRels_ones hv h.2) (fun β' N κ hk hb => by rw [VRel]; exact ⟨⟨hk, by rw [hb]⟩, 0, by rw [hb]; rfl, by rw [hb]⟩) ?_
  simp [Instr.alloc, newVar, newRow, zeroValue, typeInfo, hi, hz]
theorem newOut_box {T : TypeId} {x : ZV} {xv : Value} (hx : VRel S β n x xv) : NewOut P S β n w (zwhen (zones (zcells x)) (znew T (zcells x) fun j => .ptr j 0)) (Instr.box T xv) := by
  refine NewOut.when fun h => ?_
  have hv := VRel_cells hx h; refine newOut_cells (F := fun a => .pointer (some a)) hv (VRels_ones hv h) (fun β' N κ hk hb => by rw [VRel]; exact ⟨⟨hk, by rw [hb]⟩, 0, by rw [hb]; rfl, by rw [hb]⟩) ?_
  simp [Instr.box, newVar, newRow]
theorem newOut_map {T : TypeId} : NewOut P S β n w (fun M n => .ok (.mp n) (M.set n (some (.map 0 []))) (Nat.succ n)) (Instr.makeMap T none) := by
  intro κ v M1 n1 e; cases e; refine ⟨.map 0 [], .map (some w.heap.size), .map #[] 0, 0, by rw [Tri.get_set, if_pos rfl], rfl, by simp [Instr.makeMap], fun β'' N hβ hn hκ hb => ⟨?_, ?_⟩⟩
  . rw [VRel]; exact ⟨⟨hκ, by rw [hb]⟩, by rw [hb]⟩
  . rw [hb]; exact ⟨#[], heap_new _ _, by simp [ERels]⟩
theorem zop_new (ok : EnvOk P E) {o : Oper} (hk : isNew (kind o.op) = true) {t : Tri ZV} {a : Act} (r : TRel S β n t a.tmps) : ∃ s : Sem Value, (∀ v' w', s.run P w = .ok v' w' -> (execOp a.eval o).run P w = .ok (.value v') w') /\ NewOut P S β n w (zop E o.op o.type t) s := by
  have run : ∀ (s : Sem Value), execOp a.eval o = (do pure (.value (<- s)) : Sem Next) -> ∀ v' w', s.run P w = .ok v' w' -> (execOp a.eval o).run P w = .ok (.value v') w' := by
    intro s h v' w' hr; rw [h, Sem.run_bind, hr]; rfl
  cases ho : o.op with
  | alloc T => exact ⟨_, run (Instr.alloc T true (.tuple #[])) (by simp only [execOp, ho]), newOut_alloc ok⟩
  | box T x => exact ⟨_, run (Instr.box T (a.eval x)) (by simp only [execOp, ho]), newOut_box (zrd_sound r x)⟩
  | buildSlice T q ps =>
    refine ⟨Instr.buildSlice T q (ps.map fun (i, x) => (i, a.eval x)), run _ (by simp only [execOp, ho]), ?_⟩
    rw [show zop E (.buildSlice T q ps) o.type t = zbuildSlice E T q (zofParts t ps.toList) from rfl]; exact newOut_buildSlice ok r ps
  | makeMap T x => cases x with
    | none => exact ⟨_, run (Instr.makeMap T none) (by simp only [execOp, ho]; rfl), newOut_map⟩
    | some x => exact ⟨_, run (Instr.makeMap T (some (a.eval x))) (by simp only [execOp, ho]; rfl), fun κ v M1 n1 e => by cases e⟩
  | call c =>
    rw [ho] at hk; simp only [kind] at hk; exfalso; revert hk
    cases c.callee with
    | builtin b => cases b <;> (intro h; cases h)
    | value f => intro h; cases h
    | invoke x y => intro h; cases h
  | _ => rw [ho] at hk; cases hk
end
end Go.Z
namespace Go.Z
open Go.Eng (TI TD DV DRep DRows DCells Snap nth upd slice' splice TabOk tiOk tdOk TFacts FW)
theorem inN_true {l : List Nat} {j : Nat} : inN l j = true ↔ j ∈ l := by
  unfold inN; rw [List.any_eq_true]; constructor
  . rintro ⟨x, hx, h⟩; rw [beq_true h]; exact hx
  . intro h; exact ⟨j, h, by simp⟩
theorem mem_binds {o : Oper} {x : Nat} : x ∈ binds o ↔ ∃ e ∈ o.after, Region.binds .any e = true /\ e.on = x := by
  unfold binds; rw [List.mem_map]; constructor
  . rintro ⟨e, he, rfl⟩; obtain ⟨he, hb⟩ := List.mem_filter.1 he; exact ⟨e, by simpa using he, hb, rfl⟩
  . rintro ⟨e, he, hb, rfl⟩; exact ⟨e, List.mem_filter.2 ⟨by simpa using he, hb⟩, rfl⟩
theorem reach_get : ∀ (ops : List Oper) (acc : List (List Nat)), (∀ i, i < acc.length -> (reach ops acc)[i]? = acc[i]?) /\ (reach ops acc).length = acc.length + ops.length /\
    ∀ m o, ops[m]? = some o -> ∃ l, (reach ops acc)[acc.length + m]? = some l /\ (∀ x ∈ binds o, x ∈ l) /\ ∀ x ∈ l, x ∈ binds o \/ ∃ q ∈ binds o, x ∈ ((reach ops acc)[q]?).getD []
  | [], acc => ⟨fun i _ => rfl, by simp [reach], fun m p h => by simp at h⟩
  | o :: ops, acc => by
    rw [reach]; obtain ⟨h1, h0, h2⟩ := reach_get ops (acc ++ [binds o ++ ((binds o).flatMap fun q => (acc[q]?).getD [])])
    have hold : ∀ i, i < acc.length -> (reach ops (acc ++ [binds o ++ ((binds o).flatMap fun q => (acc[q]?).getD [])]))[i]? = acc[i]? := by
      intro i hi; rw [h1 i (by simp; omega), List.getElem?_append_left hi]
    refine ⟨hold, by rw [h0]; simp; omega, ?_⟩
    intro m p' hm
    cases m with
    | zero =>
      simp at hm; subst hm; refine ⟨binds o ++ ((binds o).flatMap fun q => (acc[q]?).getD []), ?_, fun x hx => List.mem_append_left _ hx, ?_⟩
      . rw [Nat.add_zero, h1 acc.length (by simp)]; simp
      . intro x hx; rcases List.mem_append.1 hx with hx | hx
        . exact .inl hx
        . obtain ⟨q, hq, hx⟩ := List.mem_flatMap.1 hx; refine .inr ⟨q, hq, ?_⟩
          have hlt : q < acc.length := by
            rcases Nat.lt_or_ge q acc.length with h | h
            . exact h
            . rw [List.getElem?_eq_none h] at hx; simp at hx
          rw [hold q hlt]; exact hx
    | succ m =>
      obtain ⟨l, e1, e2⟩ := h2 m p' (by simpa using hm)
      exact ⟨l, by rw [<- e1]; congr 1; simp; omega, e2⟩
def Rof (ops : List Oper) (i : Nat) : List Nat := ((reach ops [])[i]?).getD []
theorem Rof_spec {ops : List Oper} {i : Nat} {o : Oper} (h : ops[i]? = some o) : (∀ x ∈ binds o, x ∈ Rof ops i) /\ ∀ x ∈ Rof ops i, x ∈ binds o \/ ∃ q ∈ binds o, x ∈ Rof ops q := by
  obtain ⟨_, _, h2⟩ := reach_get ops []; obtain ⟨l, e1, e2, e3⟩ := h2 i o h; have e1 : (reach ops [])[i]? = some l := by simpa using e1
  have hl : Rof ops i = l := by simp [Rof, e1]
  rw [hl]; exact ⟨e2, e3⟩
structure DrawFacts (ops : List Oper) : Prop where
  one : ∀ (i j : Nat) (oi oj : Oper) (d : Nat), ops[i]? = some oi -> ops[j]? = some oj -> oi.dst = some d -> oj.dst = some d -> i = j
  below : ∀ i x, x ∈ Rof ops i -> x < i
  reads : ∀ (i j : Nat) (oi oj : Oper) (d : Nat), ops[i]? = some oi -> ops[j]? = some oj -> oj.dst = some d -> d ∈ tmpsOf oi -> j ∈ Rof ops i \/ i ∈ Rof ops j
  guards : ∀ (i : Nat) (o : Oper) (j : Nat) (b : Bool), ops[i]? = some o -> o.guard = some (j, b) -> j ∈ Rof ops i
  nodefer : ∀ (i : Nat) (o : Oper), ops[i]? = some o -> isDefer o.op = false
  chain : ∀ (i j : Nat) (oi oj : Oper), ops[i]? = some oi -> ops[j]? = some oj -> isEff (kind oi.op) = true -> isEff (kind oj.op) = true -> i < j -> ∀ L : Nat -> Prop, (∀ k, L k -> ∀ x ∈ Rof ops k, L x) -> L j -> L i
theorem noTwo_spec : ∀ (l : List Oper), noTwo (dsts l) = true -> ∀ (i j : Nat) (oi oj : Oper) (d : Nat), l[i]? = some oi -> l[j]? = some oj -> oi.dst = some d -> oj.dst = some d -> i = j
  | [], _, i, j, oi, oj, d, h1, _, _, _ => by simp at h1
  | o :: l, h, i, j, oi, oj, d, h1, h2, h3, h4 => by
    have mem : ∀ (k : Nat) (ok : Oper), l[k]? = some ok -> ok.dst = some d -> d ∈ dsts l := fun k ok hk hd => by
      unfold dsts; exact List.mem_filterMap.2 ⟨ok, List.mem_of_getElem? hk, hd⟩
    have tail : noTwo (dsts l) = true /\ ∀ e, o.dst = some e -> e ∉ dsts l := by
      unfold dsts at h
      cases ho : o.dst with
      | none =>
        rw [List.filterMap_cons_none ho] at h; exact ⟨h, fun e he => by cases he⟩
      | some e =>
        rw [List.filterMap_cons_some ho] at h; simp only [noTwo, Bool.and_eq_true, Bool.not_eq_true'] at h; refine ⟨h.2, fun e' he hm => ?_⟩
        cases he; have := inN_true.2 hm; unfold dsts at this; rw [h.1] at this; cases this
    cases i with
    | zero =>
      cases j with
      | zero => rfl
      | succ j =>
        simp only [List.getElem?_cons_zero, Option.some.injEq] at h1; rw [List.getElem?_cons_succ] at h2; subst h1; exact absurd (mem j oj h2 h4) (tail.2 d h3)
    | succ i =>
      cases j with
      | zero =>
        simp only [List.getElem?_cons_zero, Option.some.injEq] at h2; rw [List.getElem?_cons_succ] at h1; subst h2; exact absurd (mem i oi h1 h3) (tail.2 d h4)
      | succ j =>
        rw [List.getElem?_cons_succ] at h1 h2; rw [noTwo_spec l tail.1 i j oi oj d h1 h2 h3 h4]
theorem chain_pairwise {ops : List Oper} : ∀ (l : List Nat), chainOk (reach ops []) l = true -> l.Pairwise fun a b => ∀ L : Nat -> Prop, (∀ k, L k -> ∀ x ∈ Rof ops k, L x) -> L b -> L a
  | [], _ => .nil
  | [a], _ => .cons (fun b hb => by simp at hb) .nil
  | a :: b :: l, h => by
    simp only [chainOk, Bool.and_eq_true] at h; have ih := chain_pairwise (b :: l) h.2; have hab : ∀ L : Nat -> Prop, (∀ k, L k -> ∀ x ∈ Rof ops k, L x) -> L b -> L a := fun L hL hb => hL b hb a (inN_true.1 h.1)
    refine .cons (fun c hc => ?_) ih
    rcases List.mem_cons.1 hc with rfl | hc
    . exact hab
    . exact fun L hL hLc => hab L hL ((List.pairwise_cons.1 ih).1 c hc L hL hLc)
theorem mem_zipIdx {α : Type} {l : List α} {x : α} {i : Nat} : (x, i) ∈ l.zipIdx ↔ l[i]? = some x := by
  rw [List.mem_zipIdx_iff_getElem?]
theorem mem_effIx {ops : List Oper} {i : Nat} : i ∈ effIx ops ↔ ∃ o, ops[i]? = some o /\ isEff (kind o.op) = true := by
  unfold effIx; rw [List.mem_filterMap]; constructor
  . rintro ⟨⟨o, k⟩, hm, h⟩; have hm := mem_zipIdx.1 hm; dsimp only at h
    split at h
    . rename_i he
      cases h; exact ⟨o, hm, he⟩
    . cases h
  . rintro ⟨o, h1, h2⟩; exact ⟨(o, i), mem_zipIdx.2 h1, by dsimp only; rw [h2]⟩
theorem effIx_sorted (ops : List Oper) : (effIx ops).Pairwise (· < ·) := by
  unfold effIx; refine List.Pairwise.filterMap _ (S := (· < ·)) (R := fun p q : Oper × Nat => p.2 < q.2) ?_ ?_
  . intro a a' hlt b hb b' hb'; split at hb
    . split at hb'
      . cases hb; cases hb'; exact hlt
      . cases hb'
    . cases hb
  . rw [List.pairwise_iff_getElem]; intro i j hi hj hij; simpa using hij
theorem drawFacts {ops : List Oper} (h : drawOk ops = true) : DrawFacts ops := by
  unfold drawOk at h; simp only [Bool.and_eq_true] at h; obtain ⟨⟨⟨⟨h1, h2⟩, h3⟩, h4⟩, h5⟩ := h
  have hlen : (reach ops []).length = ops.length := by
    have := (reach_get ops []).2.1; simpa using this
  have hz : ∀ (i : Nat) (o : Oper), ops[i]? = some o -> (ops.zip (reach ops []))[i]? = some (o, Rof ops i) := by
    intro i o ho; have hi : i < ops.length := (List.getElem?_eq_some_iff.1 ho).1
    have e : (reach ops [])[i]? = some (Rof ops i) := by
      unfold Rof; rw [List.getElem?_eq_getElem (by omega)]
      rfl
    rw [List.getElem?_zip_eq_some]; exact ⟨ho, e⟩
  have hread : ∀ (i : Nat) (o : Oper), ops[i]? = some o -> (∀ d ∈ tmpsOf o, ∀ (j : Nat) (oj : Oper), ops[j]? = some oj -> oj.dst = some d -> j ∈ Rof ops i \/ i ∈ Rof ops j) /\ ∀ j b, o.guard = some (j, b) -> j ∈ Rof ops i := by
    intro i o ho; have := List.all_eq_true.1 h2 _ (mem_zipIdx.2 (hz i o ho)); simp only [Bool.and_eq_true] at this; obtain ⟨g1, g2⟩ := this; refine ⟨fun d hd j oj hj hdst => ?_, fun j b hg => ?_⟩
    . have := List.all_eq_true.1 (List.all_eq_true.1 g1 d hd) _ (mem_zipIdx.2 (hz j oj hj)); simp only [hdst, Bool.or_eq_true, Bool.not_eq_true'] at this; rcases this with (h | h) | h
      . simp at h
      . exact .inl (inN_true.1 h)
      . exact .inr (inN_true.1 h)
    . rw [hg] at g2; exact inN_true.1 g2
  refine ⟨noTwo_spec ops h1, ?_, fun i j oi oj d hi hj hd hm => (hread i oi hi).1 d hm j oj hj hd, fun i o j b ho hg => (hread i o ho).2 j b hg, fun i o ho => ?_, ?_⟩
  . intro i x hx; unfold Rof at hx
    cases hr : (reach ops [])[i]? with
    | none => rw [hr] at hx; simp at hx
    | some l =>
      rw [hr] at hx; have := List.all_eq_true.1 (List.all_eq_true.1 h4 _ (mem_zipIdx.2 hr)) x hx; exact blt_true this
  . have := List.all_eq_true.1 h5 o (List.mem_of_getElem? ho); simpa using this
  . intro i j oi oj hi hj ei ej hij L hL hLj; have mi := mem_effIx.2 ⟨oi, hi, ei⟩; have mj := mem_effIx.2 ⟨oj, hj, ej⟩; obtain ⟨a, ha, ea⟩ := List.getElem_of_mem mi; obtain ⟨b, hb, eb⟩ := List.getElem_of_mem mj
    have hab : a < b := by
      rcases Nat.lt_or_ge a b with h | h
      . exact h
      . exfalso; rcases Nat.lt_or_eq_of_le h with h | h
        . have := List.pairwise_iff_getElem.1 (effIx_sorted ops) b a hb ha h; omega
        . subst h; omega
    have := List.pairwise_iff_getElem.1 (chain_pairwise (effIx ops) h3) a b ha hb hab L hL (by rw [eb]; exact hLj)
    rwa [ea] at this
end Go.Z
namespace Go.Z
open Go.Eng (TI TD DV DRep DRows DCells Snap nth upd slice' splice TabOk tiOk tdOk TFacts FW)
section
variable {E : Env} {cf yf : CF}
noncomputable def setD (t : Tri ZV) (d : Option Nat) (v : ZV) : Tri ZV :=
  match d with
  | some d => t.set d (some v)
  | none => t
theorem zput_eq {s s' : ZS} {d : Option Nat} {v : ZV} {M : Tri ZO} {n : Nat} (h : zput s d v M n = some s') : s' = ⟨setD s.t d v, s.nt, M, n, s.df⟩ /\ ∀ e, d = some e -> e < s.nt := by
  unfold zput at h
  cases d with
  | none => cases h; exact ⟨rfl, fun e he => by cases he⟩
  | some d =>
    dsimp only at h
    split at h
    . rename_i hd
      rw [forceV_eq] at h; cases h; exact ⟨rfl, fun e he => by cases he; exact blt_true hd⟩
    . cases h
theorem lfold_trace {α σ : Type} (f : α × Nat -> σ -> Option σ) : ∀ (l : List α) (k : Nat) (s s' : σ), lfold f (l.zipIdx k) s = some s' -> ∃ D : Nat -> σ, D k = s /\ D (k + l.length) = s' /\ ∀ m a, l[m]? = some a -> f (a, k + m) (D (k + m)) = some (D (k + m + 1))
  | [], k, s, s', h => by
    rw [List.zipIdx_nil] at h; cases h; exact ⟨fun _ => s, rfl, rfl, fun m a h => by simp at h⟩
  | a :: l, k, s, s', h => by
    rw [List.zipIdx_cons, lfold_cons] at h; split at h
    . rename_i s1 h1
      obtain ⟨D, d1, d2, d3⟩ := lfold_trace f l (k + 1) s1 s' h; refine ⟨fun i => if i = k then s else D i, by simp, ?_, ?_⟩
      . have : k + (a :: l).length ≠ k := by simp
        simp only [if_neg this]; rw [<- d2]; congr 1; simp; omega
      . intro m b hb
        cases m with
        | zero =>
          simp only [List.getElem?_cons_zero, Option.some.injEq] at hb; subst hb; simp only [Nat.add_zero, if_true, if_neg (show k + 1 ≠ k by omega)]
          rw [d1]; exact h1
        | succ m =>
          rw [List.getElem?_cons_succ] at hb; have := d3 m b hb; simp only [if_neg (show k + (m + 1) ≠ k by omega), if_neg (show k + (m + 1) + 1 ≠ k by omega)]
          rw [show k + (m + 1) = k + 1 + m by omega]
          exact this
    . cases h
inductive DStep (E : Env) (cf yf : CF) (ops : List Oper) (o : Oper) (i : Nat) (D D' : ZD) : Prop
  | eff (M1 : Tri ZO) (c : ZC) : zwanted ops o D.s.t = some true -> isEff (kind o.op) = true -> flush (Rof ops i) D.pend D.s.M = (M1, D'.pend) -> zres cf yf M1 D.s.n (zop E o.op o.type D.s.t M1 D.s.n) = some c ->
      D'.s = ⟨setD D.s.t o.dst c.v, D.s.nt, c.M, c.n, D.s.df⟩ -> (∀ e, o.dst = some e -> e < D.s.nt) -> D'.nk = D.nk -> D'.hist = c.M :: D.hist -> DStep E cf yf ops o i D D'
  | new (v : ZV) (M1 : Tri ZO) (n1 : Nat) (ob : ZO) : zwanted ops o D.s.t = some true -> isNew (kind o.op) = true -> zop E o.op o.type D.s.t .e D.nk = .ok v M1 n1 -> M1.get D.nk = some ob ->
      D'.s = ⟨setD D.s.t o.dst v, D.s.nt, D.s.M, D.s.n, D.s.df⟩ -> (∀ e, o.dst = some e -> e < D.s.nt) -> D'.pend = D.pend ++ [(i, D.nk, ob)] -> D'.nk = Nat.succ D.nk -> D'.hist = D.hist -> DStep E cf yf ops o i D D'
  | look (v : ZV) (M1 : Tri ZO) (n1 : Nat) : zwanted ops o D.s.t = some true -> (isPure (kind o.op) = true \/ isRead (kind o.op) = true) -> zop E o.op o.type D.s.t D.s.M D.s.n = .ok v M1 n1 ->
      D'.s = ⟨setD D.s.t o.dst v, D.s.nt, D.s.M, D.s.n, D.s.df⟩ -> (∀ e, o.dst = some e -> e < D.s.nt) -> D'.pend = D.pend -> D'.nk = D.nk -> D'.hist = D.hist -> DStep E cf yf ops o i D D'
  | skip : zwanted ops o D.s.t = some false -> D'.s = ⟨setD D.s.t o.dst zundef, D.s.nt, D.s.M, D.s.n, D.s.df⟩ -> (∀ e, o.dst = some e -> e < D.s.nt) -> D'.pend = D.pend ->
      D'.nk = (if isNew (kind o.op) = true then Nat.succ D.nk else D.nk) -> D'.hist = (if isEff (kind o.op) = true then D.s.M :: D.hist else D.hist) -> DStep E cf yf ops o i D D'
theorem zdput_eq {D D' : ZD} {d : Option Nat} {v : ZV} (h : zdput D d v = some D') : D' = ⟨⟨setD D.s.t d v, D.s.nt, D.s.M, D.s.n, D.s.df⟩, D.pend, D.nk, D.hist⟩ /\ ∀ e, d = some e -> e < D.s.nt := by
  unfold zdput at h; split at h
  . rename_i s hs
    cases h; obtain ⟨e1, e2⟩ := zput_eq hs; exact ⟨by rw [e1], e2⟩
  . cases h
theorem zdstep_inv {ops : List Oper} {o : Oper} {i : Nat} {D D' : ZD} (h : zdstep E cf yf ops (reach ops []) (o, i) D = some D') : DStep E cf yf ops o i D D' := by
  unfold zdstep at h; dsimp only at h
  split at h
  . cases h
  . rename_i hw
    cases hk : kind o.op with
    | eff =>
      rw [hk] at h; dsimp only at h
      generalize hf : flush (((reach ops [])[i]?).getD []) D.pend D.s.M = fl at h; obtain ⟨M1, pd⟩ := fl; dsimp only at h
      split at h
      . rename_i c hc
        split at h
        . rename_i s hs
          cases h; obtain ⟨e1, e2⟩ := zput_eq hs; refine .eff M1 c hw (by rw [hk]; rfl) hf hc e1 e2 rfl (by rw [e1])
        . cases h
      . cases h
    | new =>
      rw [hk] at h; dsimp only at h
      split at h
      . rename_i v M1 n1 hz
        split at h
        . rename_i ob hob
          split at h
          . rename_i D1 hp
            cases h; obtain ⟨e1, e2⟩ := zdput_eq hp; refine .new v M1 n1 ob hw (by rw [hk]; rfl) hz hob (by rw [e1]) e2 (by rw [e1]) (by rw [e1]) (by rw [e1])
          . cases h
        . cases h
      . cases h
    | pure =>
      rw [hk] at h; dsimp only at h
      split at h
      . rename_i v M1 n1 hz
        obtain ⟨e1, e2⟩ := zdput_eq h; exact .look v M1 n1 hw (.inl (by rw [hk]; rfl)) hz (by rw [e1]) e2 (by rw [e1]) (by rw [e1]) (by rw [e1])
      . cases h
    | read =>
      rw [hk] at h; dsimp only at h
      split at h
      . rename_i v M1 n1 hz
        obtain ⟨e1, e2⟩ := zdput_eq h; exact .look v M1 n1 hw (.inr (by rw [hk]; rfl)) hz (by rw [e1]) e2 (by rw [e1]) (by rw [e1]) (by rw [e1])
      . cases h
  . rename_i hw
    split at h
    . rename_i D1 hp he
      cases h; obtain ⟨e1, e2⟩ := zdput_eq hp
      have hn : isNew (kind o.op) = false := by
        revert he
        cases kind o.op <;> simp [isEff, isNew]
      exact .skip hw (by rw [e1]) e2 (by rw [e1]) (by rw [hn]; simp [e1]) (by rw [he]; simp [e1])
    . rename_i D1 hp he
      obtain ⟨e1, e2⟩ := zdput_eq hp; split at h
      . rename_i hn
        cases h; exact .skip hw (by rw [e1]) e2 (by rw [e1]) (by rw [hn]; simp [e1]) (by rw [he]; simp [e1])
      . rename_i hn
        cases h; exact .skip hw (by rw [e1]) e2 (by rw [e1]) (by rw [hn]; simp [e1]) (by rw [he]; simp [e1])
    . cases h
end
end Go.Z
