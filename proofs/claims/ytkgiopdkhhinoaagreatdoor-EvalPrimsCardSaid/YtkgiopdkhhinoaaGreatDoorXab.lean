/- The engine, part 4: each operation is sound. The engine, part 5: more operations: stores, addresses, slices, calls. -/
import Derived.Test.YtkgiopdkhhinoaaGreatDoorXaa
import Derived.Laws.Slices
import Derived.Laws.OwnMore
import Derived.Great.FillDense
import Derived.Great.BuildSlice
import Derived.Deep.MidRow
import Derived.Laws.Strings
import Derived.Laws.Small
import Derived.Laws.BytesString
import Derived.Laws.Cover3
import Derived.Laws.StructEq
import Derived.Lib.SliceRun
set_option linter.all false
namespace Go.Eng
theorem not_stuck {P : Program} {tab : Nat -> TI} {Q : QT} {w : Nat} (h : Holds P tab Q (.stuck w)) : False := by cases h
section
variable {P : Program} {tab : Nat -> TI} {Q : QT} {E : Env} {t : List SV} {own : Own} {n : Nat} {K : SV -> Own -> Nat -> R} {a : Act} {w : World} {β : Nat -> Value} {S : Snap}
  {QQ : Exit -> Act -> World -> Prop}
structure TFacts (P : Program) (T : TypeId) (i : TI) : Prop where
  ex : ∃ info d z, P.info? T = some info /\ P.underlying T = some d /\ info.size = i.size /\ info.bytes = i.bytes /\ info.zero = some z /\ z.cells.toList = i.zero /\ tdOk P i.d d
theorem withT_sound (ht : TabOk P tab) (T : TypeId) (k : TI -> AP) (h : Holds P tab Q (runAP (withT tab T k) t own n K)) : TFacts P T (tab T) /\ Holds P tab Q (runAP (k (tab T)) t own n K) := by
  unfold withT at h; have hT := ht.ty T; rcases hT with hT | hT
  . split at h
    . exact (not_stuck (by simpa [runAP] using h)).elim
    . rename_i i hi
      exact absurd (show tab T = ⟨.bad, (tab T).size, (tab T).bytes, (tab T).zero, (tab T).eq⟩ by cases hh : tab T; simp_all) (by intro hh; exact hi _ _ _ _ hh)
  . refine ⟨⟨hT⟩, ?_⟩; split at h
    . exact (not_stuck (by simpa [runAP] using h)).elim
    . exact h
theorem when_sound {b : Bool} {k : AP} (h : Holds P tab Q (runAP (when b k) t own n K)) : b = true /\ Holds P tab Q (runAP k t own n K) := by
  cases b with
  | true => exact ⟨rfl, h⟩
  | false => exact (not_stuck (by simpa [when, runAP] using h)).elim
theorem isSl_sound {i : TI} {k : TypeId -> AP} (h : Holds P tab Q (runAP (isSl i k) t own n K)) : ∃ e, i.d = .sl e /\ Holds P tab Q (runAP (k e) t own n K) := by
  unfold isSl at h; split at h
  . exact ⟨_, by assumption, h⟩
  . exact (not_stuck (by simpa [runAP] using h)).elim
theorem isPos_sound {i : TI} {k : AP} (h : Holds P tab Q (runAP (isPos i k) t own n K)) : 0 < i.size /\ i.zero.length = i.size /\ Holds P tab Q (runAP k t own n K) := by
  obtain ⟨h1, h⟩ := when_sound h; obtain ⟨h2, h⟩ := when_sound h; exact ⟨by simpa [Nat.blt_eq] using h1, beq_true h2, h⟩
theorem need_sound {p : Unit -> Prop} [d : Decidable (p ())] {k : AP} (h : Holds P tab Q (runAP (.need p k) t own n K)) : p () /\ Holds P tab Q (runAP k t own n K) := by
  rw [runAP] at h; cases h; exact ⟨by assumption, by assumption⟩
theorem ret_sound {v : SV} (h : Holds P tab Q (runAP (.ret v) t own n K)) : Holds P tab Q (K v own n) := by
  rwa [runAP] at h
theorem rdB_sound {j : Nat} {k : Blk -> AP} (h : Holds P tab Q (runAP (.rdB j k) t own n K)) : ∃ b, lookB own j = some b /\ Holds P tab Q (runAP (k b) t own n K) := by
  rw [runAP] at h; split at h
  . exact ⟨_, by assumption, h⟩
  . exact (not_stuck h).elim
abbrev Snd (P : Program) (tab : Nat -> TI) (Q : QT) (E : Env) (t : List SV) (own : Own) (n : Nat) (K : SV -> Own -> Nat -> R) (o : Oper) (a : Act) (w : World) (QQ : Exit -> Act -> World -> Prop) : Prop :=
  ∀ (β : Nat -> Value) (S : Snap), Holds P tab Q (runAP (opProg tab o) t own n K) -> RelB E ⟨t, own, n⟩ a w β S -> o.wp P a w (Aft P tab Q E t K o a) QQ
theorem s_move {o : Oper} {x : Operand} (ho : o.op = .move x) : Snd P tab Q E t own n K o a w QQ := by
  intro β S h r; rw [show opProg tab o = rdO x .ret by unfold opProg; rw [ho]] at h
  obtain ⟨sv, h1, h2, h3⟩ := rdO_sound x _ h r; refine wp_value (v' := a.eval x) (w' := w) ?_ (.same r (ret_sound h1) h3 h2); simp only [execOp, ho]; rfl
theorem s_assign {o : Oper} {x : Operand} (ho : o.op = .assign x) : Snd P tab Q E t own n K o a w QQ := by
  intro β S h r; rw [show opProg tab o = rdO x .ret by unfold opProg; rw [ho]] at h
  obtain ⟨sv, h1, h2, h3⟩ := rdO_sound x _ h r; refine wp_value (v' := a.eval x) (w' := w) ?_ (.same r (ret_sound h1) h3 h2); simp only [execOp, ho]; rfl
theorem s_pick {o : Oper} {c x y : Operand} (ho : o.op = .pick c x y) : Snd P tab Q E t own n K o a w QQ := by
  intro β S h r; rw [show opProg tab o = rdO c fun vc => rdO x fun va => rdO y fun vb => pickOp vc va vb by unfold opProg; rw [ho]] at h
  obtain ⟨vc, h1, h2, h3⟩ := rdO_sound c _ h r; obtain ⟨vx, h1, g2, g3⟩ := rdO_sound x _ h1 r; obtain ⟨vy, h1, f2, f3⟩ := rdO_sound y _ h1 r
  have run : ∀ b : Bool, a.eval c = .bool b -> (execOp a.eval o).run P w = .ok (.value (if b then a.eval x else a.eval y)) w := by
    intro b hb; simp only [execOp, ho, hb, asBool]; cases b <;> rfl
  cases vc with
  | bool b =>
    rw [SRep] at h3
    cases b with
    | true => exact wp_value (run true h3) (.same r (ret_sound h1) g3 g2)
    | false => exact wp_value (run false h3) (.same r (ret_sound h1) f3 f2)
  | bs f =>
    rw [SRep] at h3; have h2 : Holds P tab Q (runAP (.split f (.ret vx) (.ret vy)) t own n K) := h1; rw [runAP] at h2
    cases h2 with
    | split ha hb =>
      cases hf : f () with
      | true => rw [hf] at h3; exact wp_value (run true h3) (.same r (ret_sound (ha hf)) g3 g2)
      | false => rw [hf] at h3; exact wp_value (run false h3) (.same r (ret_sound (hb hf)) f3 f2)
  | _ => exact (not_stuck (by simpa [pickOp, runAP] using h1)).elim
theorem bytes_toList_eq {x y : ByteArray} : (x.toList == y.toList) = decide (x = y) := by
  rw [ByteArray.toList_eq, ByteArray.toList_eq]; by_cases h : x = y
  . subst h; simp
  . have hd : ¬ x.data = y.data := fun e => h (by cases x; cases y; simp at e; simp [e])
    simp [h, hd]
theorem SRep_int (k : IntKind) (f : Unit -> Int) : SRep β S (.int k f) (.int k (f ())) := by simp [SRep]
theorem SRep_bs (f : Unit -> Bool) : SRep β S (.bs f) (.bool (f ())) := by simp [SRep]
theorem SRep_str (f : Unit -> ByteArray) : SRep β S (.str f) (.string (f ())) := by simp [SRep]
theorem intBin_sound {op : BinOp} {k : IntKind} {x y : Unit -> Int} (T : TypeId) (h : Holds P tab Q (runAP (intBin op k x y) t own n K)) :
    ∃ sv v, (binOp op T (.int k (x ())) (.int k (y ()))).run P w = .ok v w /\ Holds P tab Q (K sv own n) /\ SRep β S sv v /\ KB n sv := by
  cases op <;> simp only [intBin] at h
  case add =>
    refine ⟨_, _, ?_, ret_sound h, SRep_int _ _, by simp [KB]⟩
    simp [binOp, Op.intArith]
  case sub =>
    refine ⟨_, _, ?_, ret_sound h, SRep_int _ _, by simp [KB]⟩
    simp [binOp, Op.intArith]
  case mul =>
    refine ⟨_, _, ?_, ret_sound h, SRep_int _ _, by simp [KB]⟩
    simp [binOp, Op.intArith]
  case quo =>
    obtain ⟨h0, h⟩ := need_sound h; refine ⟨_, _, ?_, ret_sound h, SRep_int _ _, by simp [KB]⟩
    simp [binOp, Op.intDiv, h0]
  case rem =>
    obtain ⟨h0, h⟩ := need_sound h; refine ⟨_, _, ?_, ret_sound h, SRep_int _ _, by simp [KB]⟩
    simp [binOp, Op.intDiv, h0]
  case and =>
    refine ⟨_, _, ?_, ret_sound h, SRep_int _ _, by simp [KB]⟩
    simp [binOp, Op.intBits]
  case or =>
    refine ⟨_, _, ?_, ret_sound h, SRep_int _ _, by simp [KB]⟩
    simp [binOp, Op.intBits]
  case xor =>
    refine ⟨_, _, ?_, ret_sound h, SRep_int _ _, by simp [KB]⟩
    simp [binOp, Op.intBits]
  case shl =>
    obtain ⟨h0, h⟩ := need_sound h; have : ¬ y () < 0 := by omega
    refine ⟨_, _, ?_, ret_sound h, SRep_int _ _, by simp [KB]⟩
    simp [binOp, Op.shift, this]
  case shr =>
    obtain ⟨h0, h⟩ := need_sound h; have : ¬ y () < 0 := by omega
    refine ⟨_, _, ?_, ret_sound h, SRep_int _ _, by simp [KB]⟩
    simp [binOp, Op.shift, this]
  case eql =>
    refine ⟨_, _, ?_, ret_sound h, SRep_bs _, by simp [KB]⟩
    simp [binOp, Op.intCmp]
  case neq =>
    refine ⟨_, _, ?_, ret_sound h, SRep_bs _, by simp [KB]⟩
    simp [binOp, Op.intCmp]
  case lss =>
    refine ⟨_, _, ?_, ret_sound h, SRep_bs _, by simp [KB]⟩
    simp [binOp, Op.intCmp]
  case leq =>
    refine ⟨_, _, ?_, ret_sound h, SRep_bs _, by simp [KB]⟩
    simp [binOp, Op.intCmp]
  case gtr =>
    refine ⟨_, _, ?_, ret_sound h, SRep_bs _, by simp [KB]⟩
    simp [binOp, Op.intCmp]
  case geq =>
    refine ⟨_, _, ?_, ret_sound h, SRep_bs _, by simp [KB]⟩
    simp [binOp, Op.intCmp]
  case andNot => exact (not_stuck (by simpa [runAP] using h)).elim
theorem strBin_sound {op : BinOp} {x y : Unit -> ByteArray} (T : TypeId) (h : Holds P tab Q (runAP (strBin op x y) t own n K)) :
    ∃ sv v, (binOp op T (.string (x ())) (.string (y ()))).run P w = .ok v w /\ Holds P tab Q (K sv own n) /\ SRep β S sv v /\ KB n sv := by
  cases op <;> simp only [strBin] at h
  case add =>
    obtain ⟨h0, h⟩ := need_sound h; refine ⟨_, _, ?_, ret_sound h, SRep_str _, by simp [KB]⟩
    simp only [maxStr] at h0; have : ¬ (((x ()).size + (y ()).size : Nat) : Int) > IntKind.i64.max := by rw [IntKind.max_i64]; omega
    simp only [binOp, Op.stringOp, this, if_false]; rfl
  case eql =>
    refine ⟨_, _, ?_, ret_sound h, SRep_bs _, by simp [KB]⟩
    simp only [binOp, Op.stringOp, bytes_toList_eq]; rfl
  case neq =>
    refine ⟨_, _, ?_, ret_sound h, SRep_bs _, by simp [KB]⟩
    simp only [binOp, Op.stringOp, bytes_toList_eq]; rfl
  case lss =>
    refine ⟨_, _, ?_, ret_sound h, SRep_bs _, by simp [KB]⟩
    simp only [binOp, Op.stringOp]; rfl
  case leq =>
    refine ⟨_, _, ?_, ret_sound h, SRep_bs _, by simp [KB]⟩
    simp only [binOp, Op.stringOp, bytes_toList_eq]; rfl
  case gtr =>
    refine ⟨_, _, ?_, ret_sound h, SRep_bs _, by simp [KB]⟩
    simp only [binOp, Op.stringOp, bytes_toList_eq]; rfl
  case geq =>
    refine ⟨_, _, ?_, ret_sound h, SRep_bs _, by simp [KB]⟩
    simp only [binOp, Op.stringOp]; rfl
  all_goals exact (not_stuck (by simpa [runAP] using h)).elim
theorem isBool_rep {v : SV} {u : Value} (h : isBool v = true) (r : SRep β S v u) : u = .bool (boolOf v ()) := by
  cases v <;> simp [isBool] at h <;> (rw [SRep] at r; simpa [boolOf] using r)
theorem bin_sound {op : BinOp} {x y : SV} {u v : Value} (ht : TabOk P tab) (T : TypeId) (hx : SRep β S x u) (hy : SRep β S y v) (h : Holds P tab Q (runAP (bin (tab T).d op x y) t own n K)) :
    ∃ sv r, (binOp op T u v).run P w = .ok r w /\ Holds P tab Q (K sv own n) /\ SRep β S sv r /\ KB n sv /\ (∀ op' T' o1 o2, eqGuard op' T' o1 o2 u v = pure ()) := by
  unfold bin at h; split at h
  . rename_i k f k' g
    rw [SRep] at hx hy; subst hx hy
    have fin : ∀ {sv r}, (binOp op T (.int k (f ())) (.int k' (g ()))).run P w = .ok r w -> Holds P tab Q (K sv own n) -> SRep β S sv r -> KB n sv ->
        ∃ sv r, (binOp op T (.int k (f ())) (.int k' (g ()))).run P w = .ok r w /\ Holds P tab Q (K sv own n) /\ SRep β S sv r /\ KB n sv /\ (∀ op' T' o1 o2, eqGuard op' T' o1 o2 (.int k (f ())) (.int k' (g ())) = pure ()) :=
      fun h1 h2 h3 h4 => ⟨_, _, h1, h2, h3, h4, fun _ _ _ _ => eqGuard_at_int _ _ _ _ _ _ _⟩
    split at h
    . rename_i hk
      have hk := of_decide_eq_true hk; subst hk; obtain ⟨sv, r, h1, h2, h3, h4⟩ := intBin_sound (w := w) (β := β) (S := S) T h; exact fin h1 h2 h3 h4
    . split at h
      . obtain ⟨sv, r, h1, h2, h3, h4⟩ := intBin_sound (w := w) (β := β) (S := S) T h; refine fin ?_ h2 h3 h4; simpa [binOp, Op.shift] using h1
      . obtain ⟨sv, r, h1, h2, h3, h4⟩ := intBin_sound (w := w) (β := β) (S := S) T h; refine fin ?_ h2 h3 h4; simpa [binOp, Op.shift] using h1
      . exact (not_stuck (by simpa [runAP] using h)).elim
  . rw [SRep] at hx hy; subst hx hy; obtain ⟨sv, r, h1, h2, h3, h4⟩ := strBin_sound (w := w) (β := β) (S := S) T h; exact ⟨sv, r, h1, h2, h3, h4, fun _ _ _ _ => eqGuard_at_string _ _ _ _ _ _⟩
  . split at h
    . rename_i hbx hby hd
      rw [isBool_rep hbx hx, isBool_rep hby hy]
      have hu : P.underlying T = some .bool := by
        rcases ht.ty T with hT | ⟨info, d, z, _, hu, _, _, _, _, h5⟩
        . rw [hT] at hd; cases hd
        . rw [hd] at h5; rw [hu, h5]
      split at h
      . exact ⟨_, _, run_eql_bool w T _ _ hu, ret_sound h, SRep_bs _, by simp [KB], fun _ _ _ _ => eqGuard_at_bool _ _ _ _ _ _⟩
      . refine ⟨_, _, ?_, ret_sound h, SRep_bs _, by simp [KB], fun _ _ _ _ => eqGuard_at_bool _ _ _ _ _ _⟩
        simp [binOp, run_equal_bool w T _ _ hu, bne]
      . exact (not_stuck (by simpa [runAP] using h)).elim
    . exact (not_stuck (by simpa [runAP] using h)).elim
theorem byN_inj {a b : ByteArray} (h : byN a = byN b) : a = b := by
  obtain ⟨⟨a⟩⟩ := a; obtain ⟨⟨b⟩⟩ := b; have h : a.map UInt8.toNat = b.map UInt8.toNat := h
  have : ∀ (a b : List UInt8), a.map UInt8.toNat = b.map UInt8.toNat -> a = b := by
    intro a
    induction a with
    | nil => intro b h; cases b with
      | nil => rfl
      | cons _ _ => simp at h
    | cons x a ih => intro b h; cases b with
      | nil => simp at h
      | cons y b =>
        simp only [List.map_cons, List.cons.injEq] at h; rw [UInt8.toNat_inj.1 h.1, ih b h.2]
  rw [this a b h]
theorem eqN_iff : ∀ {a b : List Nat}, eqN a b = true ↔ a = b
  | [], [] => by simp [eqN]
  | [], _ :: _ => by simp [eqN]
  | _ :: _, [] => by simp [eqN]
  | x :: a, y :: b => by
    rw [eqN]
    cases h : Nat.beq x y with
    | true => simp only [eqN_iff, List.cons.injEq, beq_true h, true_and]
    | false =>
      have := beq_false h; simp [this]
theorem eqN_dec (a b : ByteArray) : eqN (byN a) (byN b) = decide (a = b) := by
  rw [Bool.eq_iff_iff, eqN_iff, decide_eq_true_eq]; exact ⟨byN_inj, fun h => by rw [h]⟩
theorem knownS_some {x : SV} {a : ByteArray} (h : knownS x = some a) : x = .raw (.string a) := by
  unfold knownS at h; split at h
  . cases h; rfl
  . cases h
theorem binS_sound {op : BinOp} {x y : SV} {u v : Value} (ht : TabOk P tab) (T : TypeId) (hd : (tab T).d = .str) (hx : SRep β S x u) (hy : SRep β S y v) (h : Holds P tab Q (runAP (binS op x y) t own n K)) :
    ∃ sv r, (binOp op T u v).run P w = .ok r w /\ Holds P tab Q (K sv own n) /\ SRep β S sv r /\ KB n sv /\ (∀ op' T' o1 o2, eqGuard op' T' o1 o2 u v = pure ()) := by
  unfold binS at h; split at h
  . rename_i a b hk
    rw [knownS_some hk, SRep] at hx; rw [SRep] at hy; subst hx hy; unfold strK at h; split at h
    . refine ⟨_, _, ?_, ret_sound h, by rw [SRep], by simp [KB], fun _ _ _ _ => eqGuard_at_string _ _ _ _ _ _⟩
      rw [eqN_dec]; simp only [binOp, Op.stringOp, bytes_toList_eq]; rfl
    . refine ⟨_, _, ?_, ret_sound h, by rw [SRep], by simp [KB], fun _ _ _ _ => eqGuard_at_string _ _ _ _ _ _⟩
      rw [eqN_dec]; simp only [binOp, Op.stringOp, bytes_toList_eq]; rfl
    . exact (not_stuck (by simpa [runAP] using h)).elim
  . rw [<- hd] at h; exact bin_sound ht T hx hy h
theorem fork_sound {p : Unit -> Prop} [d : Decidable (p ())] {x y : AP} (h : Holds P tab Q (runAP (.fork p x y) t own n K)) : (p () -> Holds P tab Q (runAP x t own n K)) /\ Holds P tab Q (runAP y t own n K) := by
  rw [runAP] at h
  cases h with
  | fork h1 h2 => exact ⟨h1, h2⟩
theorem nilTest_sound {pos : Bool} {x : SV} {u : Value} (hx : SRep β S x u) (m : Mem E.w0 E.X E.S0 β S own w) (h : Holds P tab Q (runAP (nilTest pos x) t own n K)) :
    ∃ (a : Option Addr) (l c : Nat) (b : Bool), u = .slice a l c /\ b = (if a.isNone then pos else !pos) /\ Holds P tab Q (K (.bool b) own n) := by
  unfold nilTest at h; split at h
  . rw [SRep] at hx; exact ⟨none, 0, 0, _, hx, rfl, ret_sound h⟩
  . obtain ⟨h1, h2⟩ := fork_sound h; rw [SRep, DRep] at hx; rcases hx with ⟨hl, a, cap, hx, ha⟩ | ⟨b, off, cap, c, T, fr, hx, _⟩
    . cases a with
      | none => exact ⟨none, 0, _, _, hx, rfl, ret_sound (h1 hl)⟩
      | some a => exact ⟨some a, _, _, _, hx, rfl, ret_sound h2⟩
    . exact ⟨some ⟨b, off, none⟩, _, _, _, hx, rfl, ret_sound h2⟩
  . obtain ⟨bk, hb, h1⟩ := rdB_sound h; split at h1
    . obtain ⟨h1, h2⟩ := fork_sound h1; rw [SRep] at hx; obtain ⟨xs, ⟨o1, o2⟩, o3⟩ := m.blk _ _ hb; rcases o2 with ⟨o2, o4⟩ | ⟨g, cap', cur, q1, _⟩
      . exact ⟨none, 0, 0, _, by rw [hx.1, o2], rfl, ret_sound (h1 (List.eq_nil_of_length_eq_zero o4))⟩
      . exact ⟨some ⟨g, 0, none⟩, _, _, _, by rw [hx.1, q1], rfl, ret_sound h2⟩
    . exact (not_stuck (by simpa [runAP] using h1)).elim
  . exact (not_stuck (by simpa [runAP] using h)).elim
theorem alike_sound : ∀ {zs : List Value} {l : List SV} {us : List Value}, alike zs l = true -> SReps β S l us -> Alike zs us
  | [], [], us, _, h => by rw [SReps] at h; rw [Alike]; exact h
  | [], _ :: _, us, ha, _ => by simp [alike] at ha
  | z :: zs, [], us, ha, _ => by cases z <;> simp [alike] at ha
  | z :: zs, v :: l, us, ha, h => by
    rw [SReps] at h; obtain ⟨u, us', rfl, h1, h2⟩ := h; cases z <;> cases v <;> simp only [alike] at ha <;> try (cases ha; done)
    . split at ha
      . rename_i hk
        have hk := of_decide_eq_true hk; subst hk; rw [SRep] at h1; rw [Alike]; exact ⟨_, _, by rw [h1], alike_sound ha h2⟩
      . cases ha
    . rw [SRep] at h1; rw [Alike]; exact ⟨_, _, by rw [h1], alike_sound ha h2⟩
theorem eqCells_sound : ∀ {zs : List Value} {l m : List SV} {f : Unit -> Bool} {us vs : List Value}, eqCells l m = some f -> alike zs l = true -> alike zs m = true -> SReps β S l us -> SReps β S m vs -> (f () = true ↔ us = vs)
  | zs, [], [], f, us, vs, h, _, _, h1, h2 => by
    rw [eqCells] at h; cases h; rw [SReps] at h1 h2; simp [h1, h2]
  | zs, v :: l, [], f, us, vs, h, _, _, _, _ => by cases v <;> simp [eqCells] at h
  | zs, [], v :: m, f, us, vs, h, _, _, _, _ => by cases v <;> simp [eqCells] at h
  | [], v :: l, u :: m, f, us, vs, h, a1, _, _, _ => by simp [alike] at a1
  | z :: zs, v :: l, u :: m, f, us, vs, h, a1, a2, h1, h2 => by
    rw [SReps] at h1 h2; obtain ⟨x, us', rfl, x1, x2⟩ := h1; obtain ⟨y, vs', rfl, y1, y2⟩ := h2; cases v <;> cases u <;> simp only [eqCells] at h <;> try (cases h; done)
    . split at h
      . rename_i g hg
        cases h; cases z <;> simp only [alike] at a1 a2 <;> try (cases a1; done)
        split at a1
        . rename_i k1
          split at a2
          . rename_i k2
            have k1 := of_decide_eq_true k1; have k2 := of_decide_eq_true k2; rw [SRep] at x1 y1; have ih := eqCells_sound hg a1 a2 x2 y2; subst k1; subst k2; rw [x1, y1]; simp [ih]
          . cases a2
        . cases a1
      . cases h
    . split at h
      . rename_i g hg
        cases h; cases z <;> simp only [alike] at a1 a2 <;> try (cases a1; done)
        rw [SRep] at x1 y1; have ih := eqCells_sound hg a1 a2 x2 y2; rw [x1, y1]; simp [ih]
      . cases h
theorem s_binOp {o : Oper} {op : BinOp} {T T' : TypeId} {x y : Operand} (ht : TabOk P tab) (ho : o.op = .binOp op T x y T') : Snd P tab Q E t own n K o a w QQ := by
  intro β S h r; rw [show opProg tab o = rdO x fun vx => rdO y fun vy => binT (tab T) op vx vy by unfold opProg; rw [ho]] at h
  obtain ⟨vx, h0, g2, g3⟩ := rdO_sound x _ h r; obtain ⟨vy, h1, f2, f3⟩ := rdO_sound y _ h0 r; clear h h0
  have plain : Holds P tab Q (runAP (bin (tab T).d op vx vy) t own n K) -> o.wp P a w (Aft P tab Q E t K o a) QQ := fun h1 => by
    obtain ⟨sv, v, e1, e2, e3, e4, e5⟩ := bin_sound (w := w) ht T g3 f3 h1; refine wp_value (v' := v) (w' := w) ?_ (.same r e2 e3 e4); simp only [execOp, ho, e5, Sem.run_bind, Sem.run_pure, Result.andThen_ok, e1]
  unfold binT at h1; split at h1
  . rename_i e hd
    have hu : P.underlying T = some (.slice e) := by
      rcases ht.ty T with hT | ⟨info, d, z, _, hu, _, _, _, _, h5⟩
      . rw [hT] at hd; cases hd
      . rw [hd] at h5; rw [hu, h5]
    unfold nilCmp at h1; split at h1
    . obtain ⟨ad, l, c, b, e1, e2, e3⟩ := nilTest_sound g3 r.mem h1; rw [SRep] at f3; refine wp_value (v' := .bool b) (w' := w) ?_ (.same r e3 (by rw [SRep]) (by simp [KB]))
      simp only [execOp, ho, e1, f3, eqGuard_at_slice, Sem.run_bind, Sem.run_pure, Result.andThen_ok, Lib.run_eql_slice_nil w T e ad l c 0 0 hu]; rw [e2]; cases ad <;> rfl
    . obtain ⟨ad, l, c, b, e1, e2, e3⟩ := nilTest_sound g3 r.mem h1; rw [SRep] at f3; refine wp_value (v' := .bool b) (w' := w) ?_ (.same r e3 (by rw [SRep]) (by simp [KB]))
      simp only [execOp, ho, e1, f3, eqGuard_at_slice, Sem.run_bind, Sem.run_pure, Result.andThen_ok, run_neq_slice_nil w T e ad l c hu]; rw [e2]; cases ad <;> rfl
    . exact (not_stuck (by simpa [runAP] using h1)).elim
  . unfold aggCmp at h1; split at h1
    . rename_i l m he
      rw [SRep] at g3 f3; obtain ⟨cs, e1, r1⟩ := g3; obtain ⟨ds, e2, r2⟩ := f3; clear plain; split at h1
      . rename_i f a1 a2 hf
        obtain ⟨⟨b, q1, q2⟩, q3⟩ := ht.eq T he w cs.toList ds.toList (alike_sound a1 r1) (alike_sound a2 r2)
        have hb : b = f () := by
          rw [Bool.eq_iff_iff, q2, eqCells_sound hf a1 a2 r1 r2]
        simp only [Array.toArray_toList] at q1 q3; have q1' : (Op.equal T (.agg cs) (.agg ds)).run P w = .ok b w := q1; split at h1
        . refine wp_value (v' := .bool (f ())) (w' := w) ?_ (.same r (ret_sound h1) (SRep_bs _) (by simp [KB]))
          simp only [execOp, ho, e1, e2, Sem.run_bind, q3, Result.andThen_ok]; simp [binOp, q1', hb]
        . refine wp_value (v' := .bool (!f ())) (w' := w) ?_ (.same r (ret_sound h1) (by rw [SRep]) (by simp [KB]))
          simp only [execOp, ho, e1, e2, Sem.run_bind, q3, Result.andThen_ok]; simp [binOp, q1', hb]
        . exact (not_stuck (by simpa [runAP] using h1)).elim
      . exact (not_stuck (by simpa [runAP] using h1)).elim
    . exact (not_stuck (by simpa [runAP] using h1)).elim
  . rename_i hd
    obtain ⟨sv, v, e1, e2, e3, e4, e5⟩ := binS_sound (w := w) ht T hd g3 f3 h1; refine wp_value (v' := v) (w' := w) ?_ (.same r e2 e3 e4); simp only [execOp, ho, e5, Sem.run_bind, Sem.run_pure, Result.andThen_ok, e1]
  . exact plain h1
theorem s_unOp {o : Oper} {op : UnOp} {T : TypeId} {x : Operand} (ho : o.op = .unOp op T x) : Snd P tab Q E t own n K o a w QQ := by
  intro β S h r; rw [show opProg tab o = rdO x (unOp op) by unfold opProg; rw [ho]] at h
  obtain ⟨vx, h1, g2, g3⟩ := rdO_sound x _ h r
  have run : ∀ v, (Op.unary op (a.eval x)).run P w = .ok v w -> (execOp a.eval o).run P w = .ok (.value v) w := by
    intro v hv; simp only [execOp, ho, Sem.run_bind, hv, Result.andThen_ok, Sem.run_pure]
  unfold unOp at h1; split at h1
  . rw [SRep] at g3; exact wp_value (run _ (by rw [g3]; rfl)) (.same r (ret_sound h1) (v' := .bool _) (by rw [SRep]) (by simp [KB]))
  . rw [SRep] at g3; exact wp_value (run _ (by rw [g3]; rfl)) (.same r (ret_sound h1) (SRep_bs _) (by simp [KB]))
  . rw [SRep] at g3; exact wp_value (run _ (by rw [g3]; rfl)) (.same r (ret_sound h1) (SRep_int _ _) (by simp [KB]))
  . exact (not_stuck (by simpa [runAP] using h1)).elim
theorem newB_sound {b : Blk} {k : Nat -> AP} (h : Holds P tab Q (runAP (.newB b k) t own n K)) : Holds P tab Q (runAP (k n) t ((n, b) :: own) (n + 1) K) := by
  rwa [runAP] at h
theorem ko_cons {b : Blk} (r : RelB E ⟨t, own, n⟩ a w β S) (hb : KBb (n + 1) b) : ∀ j c, lookB ((n, b) :: own) j = some c -> j < n + 1 /\ KBb (n + 1) c := by
  intro j c h; rw [lookB_cons] at h; split at h
  . cases h; subst_vars; exact ⟨by omega, hb⟩
  . have := r.ko j c h; refine ⟨by have := this.1; simp at this; omega, ?_⟩
    have h2 := this.2
    cases c with
    | cells T l => exact KBs_mono (by simp) _ h2
    | hole T l hh q => exact Nat.lt_succ_of_lt h2
    | _ => trivial
theorem newCells_sound {T : TypeId} {c : List SV} {cs : Array Value} (h : Holds P tab Q (runAP (newCells T c) t own n K)) (r : RelB E ⟨t, own, n⟩ a w β S) (hc : SReps β S c cs.toList) (hk : KBs n c) :
    Post P tab Q E t K a (.pointer (some ⟨w.heap.size, 0, none⟩)) (w.alloc (.cells cs T)) := by
  obtain ⟨ho, h⟩ := when_sound h; have h2 := ret_sound (newB_sound h); refine ⟨_, _, _, ext β n (.pointer (some ⟨w.heap.size, 0, none⟩)), S, h2, ?_, by simp [KB], ?_⟩
  . rw [SRep]; exact ⟨w.heap.size, ext_same, rfl⟩
  . exact r.mem' (by omega) (fun j hj => ext_lt hj) (Sub.refl S) (ko_cons r (KBs_mono (by omega) _ hk)) (r.mem.newCells r.ko T hc hk ho)
theorem cells_sound {v : SV} {u : Value} (h : SRep β S v u) (hk : KB n v) (hv : allOne (cellsOf v) = true) : SReps β S (cellsOf v) u.cells.toList /\ KBs n (cellsOf v) := by
  have one : ∀ {u : Value}, u.oneCell' = true -> u.cells = #[u] := by
    intro u hu; cases u <;> first | rfl | (simp [Value.oneCell'] at hu)
  have fin : ∀ (v : SV) (u : Value), u.cells = #[u] -> cellsOf v = [v] -> SRep β S v u -> KB n v -> SReps β S (cellsOf v) u.cells.toList /\ KBs n (cellsOf v) := by
    intro v u h1 h2 h3 h4; rw [h1, h2]; exact ⟨by rw [SReps]; exact ⟨u, [], rfl, h3, by rw [SReps]⟩, by rw [KBs]; exact ⟨h4, trivial⟩⟩
  cases v with
  | agg l =>
    rw [SRep] at h; obtain ⟨cs, rfl, h2⟩ := h; rw [KB] at hk; exact ⟨h2, hk⟩
  | tup l => simp [cellsOf, allOne, SV.one] at hv
  | any => simp [cellsOf, allOne, SV.one] at hv
  | raw x =>
    have hx : x.oneCell' = true := by
      simp only [cellsOf, allOne, SV.one] at hv; cases hh : x.oneCell' <;> simp_all
    have h' := h; rw [SRep] at h'; subst h'; exact fin _ _ (one hx) rfl h hk
  | int k f => have h' := h; rw [SRep] at h'; subst h'; exact fin _ _ rfl rfl h hk
  | bool b => have h' := h; rw [SRep] at h'; subst h'; exact fin _ _ rfl rfl h hk
  | bs b => have h' := h; rw [SRep] at h'; subst h'; exact fin _ _ rfl rfl h hk
  | str b => have h' := h; rw [SRep] at h'; subst h'; exact fin _ _ rfl rfl h hk
  | nils => have h' := h; rw [SRep] at h'; subst h'; exact fin _ _ rfl rfl h hk
  | ds sz l => have h' := h; rw [SRep] at h'; exact fin _ _ (one (DRep_one h')) rfl h hk
  | dp sz l i off => have h' := h; rw [SRep] at h'; obtain ⟨b, o, c, T, fr, _, _, _, _, rfl⟩ := h'; exact fin _ _ rfl rfl h hk
  | op j off => have h' := h; rw [SRep] at h'; obtain ⟨b, _, rfl⟩ := h'; exact fin _ _ rfl rfl h hk
  | oe j sz i off => have h' := h; rw [SRep] at h'; obtain ⟨_, b, _, _, _, _, rfl⟩ := h'; exact fin _ _ rfl rfl h hk
  | fn f caps => have h' := h; rw [SRep] at h'; obtain ⟨b, rfl, _⟩ := h'; exact fin _ _ rfl rfl h hk
  | fno f caps => have h' := h; rw [SRep] at h'; obtain ⟨_, b, rfl, _⟩ := h'; exact fin _ _ rfl rfl h hk
  | os j => have h' := h; rw [SRep] at h'; exact fin _ _ (one h'.2) rfl h hk
  | om j => have h' := h; rw [SRep] at h'; exact fin _ _ (one h'.2) rfl h hk
  | ov j sz a b => have h' := h; rw [SRep] at h'; rcases h'.2.2 with ⟨_, _, _, _, _, _, _, _, rfl⟩ | ⟨_, _, rfl⟩ <;> exact fin _ _ rfl rfl h hk
theorem s_box {o : Oper} {T : TypeId} {x : Operand} (ho : o.op = .box T x) : Snd P tab Q E t own n K o a w QQ := by
  intro β S h r; rw [show opProg tab o = rdO x fun v => newCells T (cellsOf v) by unfold opProg; rw [ho]] at h
  obtain ⟨vx, h1, g2, g3⟩ := rdO_sound x _ h r; have hv := (when_sound h1).1; obtain ⟨c1, c2⟩ := cells_sound g3 g2 hv; refine wp_value (v' := .pointer (some ⟨w.heap.size, 0, none⟩)) (w' := w.alloc (.cells (a.eval x).cells T)) ?_ (newCells_sound h1 r c1 c2); simp [execOp, ho, Instr.box, newVar, newRow]
theorem SReps_map_ofValue : ∀ (l : List Value), SReps β S (l.map ofValue) l /\ KBs n (l.map ofValue)
  | [] => by simp [SReps, KBs]
  | v :: l => by
    obtain ⟨h1, h2⟩ := SReps_map_ofValue l; rw [List.map_cons, SReps, KBs]; exact ⟨⟨v, l, rfl, (SRep_ofValue (n := 0) v).1, h1⟩, (SRep_ofValue (β := β) (S := S) v).2, h2⟩
theorem SReps_map_zeroV : ∀ (l : List Value), SReps β S (l.map zeroV) l /\ KBs n (l.map zeroV)
  | [] => by simp [SReps, KBs]
  | v :: l => by
    obtain ⟨h1, h2⟩ := SReps_map_zeroV l
    have h : SRep β S (zeroV v) v /\ KB n (zeroV v) := by
      unfold zeroV; split
      . simp [SRep, KB]
      . exact ⟨(SRep_ofValue (n := 0) v).1, (SRep_ofValue (β := β) (S := S) v).2⟩
    rw [List.map_cons, SReps, KBs]; exact ⟨⟨v, l, rfl, h.1, h1⟩, h.2, h2⟩
theorem s_alloc {o : Oper} {T : TypeId} (ht : TabOk P tab) (ho : o.op = .alloc T) : Snd P tab Q E t own n K o a w QQ := by
  intro β S h r; rw [show opProg tab o = withT tab T fun i => newCells T (i.zero.map ofValue) by unfold opProg; rw [ho]] at h
  obtain ⟨⟨i1, d1, z1, hi, hu1, _, _, hz, hzc, _⟩, h1⟩ := withT_sound ht T _ h; refine wp_value (v' := .pointer (some ⟨w.heap.size, 0, none⟩)) (w' := w.alloc (.cells z1.cells T)) ?_ (newCells_sound h1 r (by rw [hzc]; exact (SReps_map_ofValue (n := n) _).1) (SReps_map_ofValue (β := β) (S := S) _).2)
  simp [execOp, ho, Instr.alloc, newVar, newRow, zeroValue, typeInfo, hi, hz]
theorem SReps_toSV : ∀ {r : List DV} {vs : List Value}, DCells S r vs -> SReps β S (r.map DV.toSV) vs /\ KBs n (r.map DV.toSV)
  | [], vs, h => by rw [DCells] at h; subst h; simp [SReps, KBs]
  | d :: r, vs, h => by
    rw [DCells] at h; obtain ⟨v, us, rfl, h1, h2⟩ := h; obtain ⟨g1, g2⟩ := SReps_toSV h2; rw [List.map_cons, SReps, KBs]; refine ⟨⟨v, us, rfl, ?_, g1⟩, ?_, g2⟩
    . cases d <;> rw [DRep] at h1 <;> simp only [DV.toSV, SRep]
      . exact h1
      . exact h1
      . exact h1
      . rw [DRep]; exact h1
      . exact h1.1
    . cases d <;> simp [DV.toSV, KB]
theorem SReps_drop : ∀ {c : List SV} {vs : List Value} (k : Nat), SReps β S c vs -> SReps β S (c.drop k) (vs.drop k)
  | c, vs, 0, h => by simpa using h
  | [], vs, k + 1, h => by rw [SReps] at h; subst h; simp [SReps]
  | s :: c, vs, k + 1, h => by
    rw [SReps] at h; obtain ⟨v, us, rfl, _, h2⟩ := h; simpa using SReps_drop k h2
theorem SReps_take : ∀ {c : List SV} {vs : List Value} (k : Nat), SReps β S c vs -> SReps β S (c.take k) (vs.take k)
  | c, vs, 0, h => by simp [SReps]
  | [], vs, k + 1, h => by rw [SReps] at h; subst h; simp [SReps]
  | s :: c, vs, k + 1, h => by
    rw [SReps] at h; obtain ⟨v, us, rfl, h1, h2⟩ := h; rw [List.take_succ_cons, List.take_succ_cons, SReps]; exact ⟨v, us.take k, rfl, h1, SReps_take k h2⟩
theorem KBs_drop : ∀ {c : List SV} (k : Nat), KBs n c -> KBs n (c.drop k)
  | c, 0, h => by simpa using h
  | [], k + 1, h => by simp [KBs]
  | s :: c, k + 1, h => by rw [KBs] at h; simpa using KBs_drop k h.2
theorem KBs_take : ∀ {c : List SV} (k : Nat), KBs n c -> KBs n (c.take k)
  | c, 0, h => by simp [KBs]
  | [], k + 1, h => by simp [KBs]
  | s :: c, k + 1, h => by rw [KBs] at h; rw [List.take_succ_cons, KBs]; exact ⟨h.1, KBs_take k h.2⟩
theorem takeAt_sound {T : TypeId} (hT : TFacts P T (tab T)) {c : List SV} {vs : List Value} {off b o : Nat} (h : Holds P tab Q (runAP (takeAt (tab T) c off .ret) t own n K))
    (hc : SReps β S c vs) (hk : KBs n c) (hw : w.rangeAt b o vs) :
    ∃ sv v, (loadVar T ⟨b, o + off, none⟩).run P w = .ok v w /\ Holds P tab Q (K sv own n) /\ SRep β S sv v /\ KB n sv := by
  obtain ⟨info, d, z, hi, hu, hs, _, hz, hzc, hd⟩ := hT; have hl := SReps_length hc; unfold takeAt at h; split at h
  . rename_i hagg
    obtain ⟨hb, h⟩ := when_sound h; have hb : off + (tab T).size <= c.length := Nat.le_of_ble_eq_true hb
    have hstr : ∃ fs, d = .struct fs := by
      generalize (tab T).d = dd at hagg hd; cases dd <;> simp [isAggD] at hagg
      obtain ⟨a, rfl, _⟩ := hd; exact ⟨a, rfl⟩
    obtain ⟨fs, rfl⟩ := hstr; refine ⟨_, .agg ((vs.drop off).take (tab T).size).toArray, ?_, ret_sound h, ?_, ?_⟩
    . refine run_loadVar_mid w b (o + off) T _ _ ?_ hu rfl ?_
      . intro j v hv; rw [List.getElem?_take] at hv; split at hv
        . rw [List.getElem?_drop] at hv; have := hw (off + j) v hv; rwa [show o + off + j = o + (off + j) by omega]
        . cases hv
      . rw [hi]; simp [hs]; omega
    . rw [SRep]; exact ⟨_, rfl, by simpa [slice'] using SReps_take _ (SReps_drop off hc)⟩
    . rw [KB]; exact KBs_take _ (KBs_drop off hk)
  . rename_i hagg
    obtain ⟨hb, h⟩ := when_sound h; have hb : off < c.length := by simpa [Nat.blt_eq] using hb
    have hnr : d.isRow = false := by
      generalize (tab T).d = dd at hagg hd; cases dd <;> simp [isAggD, tdOk] at hagg hd
      all_goals first
        | (subst hd; rfl)
        | (cases d <;> first | rfl | exact absurd hd (by simp))
    have hlt : off < vs.length := by omega
    refine ⟨_, vs.getD off undef, ?_, ret_sound h, SReps_nth off hc, KBs_nth off hk⟩; have hcell := hw off (vs.getD off undef) (by simp [List.getD, List.getElem?_eq_getElem hlt])
    have hagg' : (isAgg T).run P w = .ok false w := by
      unfold isAgg; rw [Sem.run_bind, run_underlying hu w]; cases d <;> simp_all [TypeDesc.isRow]
    simp [loadVar, Sem.run_bind, hagg', hcell]
theorem run_loadOp {o : Oper} {T : TypeId} {x : Operand} (ho : o.op = .load T x) {b k : Nat} {v : Value} (hx : a.eval x = .pointer (some ⟨b, k, none⟩)) (hl : (loadVar T ⟨b, k, none⟩).run P w = .ok v w) :
    (execOp a.eval o).run P w = .ok (.value v) w := by
  simp [execOp, ho, hx, Instr.loadAt, Instr.sureAddr, hl]
theorem rangeAt_of_cells {b o k : Nat} {c : Array Value} {T : TypeId} {fr : Nat × Nat} (h : w.heap[b]? = some (.cells c T fr)) : w.rangeAt b o ((c.toList.drop o).take k) := by
  intro j v hv; rw [cell_of_row w b (o + j) c T fr h]; rw [List.getElem?_take] at hv; split at hv
  . simpa [List.getElem?_drop] using hv
  . cases hv
theorem row_sound {l : Unit -> List (List DV)} {i : Unit -> Int} {k : List SV -> AP} (h : Holds P tab Q (runAP (.row l i k) t own n K)) :
    ∃ r, (l ())[(i ()).toNat]? = some r /\ Holds P tab Q (runAP (k (r.map DV.toSV)) t own n K) := by
  rw [runAP] at h
  cases h with
  | row r cs h1 h2 h3 => subst h2; exact ⟨r, h1, h3⟩
theorem mul_le_of_lt {i n sz : Nat} (h : i < n) : i * sz + sz <= n * sz := by
  have : (i + 1) * sz <= n * sz := Nat.mul_le_mul_right _ h; rw [Nat.add_mul] at this; omega
theorem load_sound {T : TypeId} {vx : SV} {p : Value} (ht : TabOk P tab) (h1 : Holds P tab Q (runAP (loadOp tab T vx) t own n K)) (g3 : SRep β S vx p) (r : RelB E ⟨t, own, n⟩ a w β S) :
    ∃ b k sv v, p = .pointer (some ⟨b, k, none⟩) /\ (loadVar T ⟨b, k, none⟩).run P w = .ok v w /\ Holds P tab Q (K sv own n) /\ SRep β S sv v /\ KB n sv := by
  obtain ⟨hT, h1⟩ := withT_sound ht T _ h1
  cases vx with
  | op j off =>
    simp only [loadAt] at h1; obtain ⟨bk, hb, h1⟩ := rdB_sound h1
    cases bk with
    | cells T' c =>
      simp only [loadC] at h1; rw [SRep] at g3; obtain ⟨bb, e1, e2⟩ := g3; obtain ⟨b', cs, f1, f2, f3, f4⟩ := r.mem.blk j _ hb; rw [e1] at f1; cases f1; have hkb := (r.ko j _ hb).2
      obtain ⟨sv, v, l1, l2, l3, l4⟩ := takeAt_sound (w := w) (b := bb) (o := 0) hT h1 f3 hkb (by
        have := rangeAt_of_cells (w := w) (o := 0) (k := cs.toList.length) f2; rwa [List.drop_zero, List.take_length] at this)
      rw [Nat.zero_add] at l1; exact ⟨_, _, sv, v, e2, l1, l2, l3, l4⟩
    | _ => exact (not_stuck (by simpa [loadC, runAP] using h1)).elim
  | dp sz l ix off =>
    simp only [loadAt] at h1; obtain ⟨row, hr, h1⟩ := row_sound h1; rw [SRep] at g3; obtain ⟨bb, oo, c, T', fr, e1, e2, e3, e4, e5⟩ := g3; obtain ⟨d1, d2⟩ := DRows_get _ _ e2 hr; obtain ⟨k1, k2⟩ := SReps_toSV (β := β) (n := n) d2; have hlt : (ix ()).toNat < (l ()).length := (List.getElem?_eq_some_iff.1 hr).1; have hm := mul_le_of_lt (sz := sz) hlt
    obtain ⟨sv, v, l1, l2, l3, l4⟩ := takeAt_sound (w := w) (b := bb) (o := oo + (ix ()).toNat * sz) hT h1 k1 k2 (by
      have := rangeAt_of_cells (w := w) (o := oo + (ix ()).toNat * sz) (k := sz) (r.mem.sat _ _ e1); rw [List.drop_take, List.take_take, List.drop_drop, show min sz ((l ()).length * sz - (ix ()).toNat * sz) = sz by omega]
      exact this)
    exact ⟨_, _, sv, v, e5, l1, l2, l3, l4⟩
  | oe j sz ix off =>
    simp only [loadAt] at h1; obtain ⟨bk, hb, h1⟩ := rdB_sound h1
    cases bk with
    | arr T' sz' l =>
      simp only [loadE] at h1; obtain ⟨hsz, h5⟩ := when_sound h1; clear h1; have hsz := beq_true hsz; subst hsz; obtain ⟨row, hr, h1⟩ := row_sound h5; rw [SRep] at g3; obtain ⟨e0, bb, nn, cap, e1, e2, e3⟩ := g3; obtain ⟨xs, ⟨o1, o2⟩, o3⟩ := r.mem.blk j _ hb; rcases o2 with ⟨o2, _⟩ | ⟨g, cap', cur, q1, q2, q3, q4, q5, q6, q7⟩
      . rw [o2] at e1; cases e1
      . rw [q1] at e1; cases e1; obtain ⟨d1, d2⟩ := DRows_get _ _ o3 hr; obtain ⟨k1, k2⟩ := SReps_toSV (β := β) (n := n) d2; have hlt : (ix ()).toNat < (l ()).length := (List.getElem?_eq_some_iff.1 hr).1; have hm := mul_le_of_lt (sz := sz) hlt
        obtain ⟨sv, v, l1, l2, l3, l4⟩ := takeAt_sound (w := w) (b := bb) (o := (ix ()).toNat * sz) hT h1 k1 k2 (by
          have := rangeAt_of_cells (w := w) (o := (ix ()).toNat * sz) (k := sz) q3; rw [<- q7, List.drop_take, List.take_take, show min sz ((l ()).length * sz - (ix ()).toNat * sz) = sz by omega]
          exact this)
        exact ⟨_, _, sv, v, e3, l1, l2, l3, l4⟩
    | hole T' l hh q =>
      simp only [loadE] at h1; obtain ⟨hsz, h2⟩ := when_sound h1; obtain ⟨hof, h3⟩ := when_sound h2; clear h1 h2; obtain rfl : sz = 1 := beq_true hsz; obtain rfl : off = 0 := beq_true hof; obtain ⟨hag, h1⟩ := when_sound h3; clear h3; obtain ⟨⟨n1, n2, n3⟩, h1⟩ := need_sound h1; have hag : isAggD (tab T).d = false := by simpa using hag
      have h1' : Holds P tab Q (runAP (takeAt (tab T) [.os q] 0 .ret) t own n K) := by
        rw [show takeAt (tab T) [.os q] 0 .ret = .ret (.os q) by unfold takeAt; rw [hag]; rfl]
        exact h1
      rw [SRep] at g3; obtain ⟨e0, bb, nn, cap, e1, e2, e3⟩ := g3; have hkq : q < n := (r.ko _ _ hb).2; obtain ⟨xs, ⟨o1, o2⟩, o3⟩ := r.mem.blk j _ hb; have hlt0 : (hh ()).toNat < (l ()).length := by omega
      have hr : ((l ()).set (hh ()).toNat [DV.raw (β q)])[(ix ()).toNat]? = some [.raw (β q)] := by rw [n1, List.getElem?_set_self hlt0]
      generalize (l ()).set (hh ()).toNat [DV.raw (β q)] = L at *; rcases o2 with ⟨o2, _⟩ | ⟨g, cap', cur, q1, q2, q3, q4, q5, q6, q7⟩
      . rw [o2] at e1; cases e1
      . rw [q1] at e1; cases e1; obtain ⟨d1, d2⟩ := DRows_get _ _ o3 hr
        have k1 : ∀ {vs : List Value}, DCells S [.raw (β q)] vs -> SReps β S [.os q] vs := by
          intro vs h; rw [DCells] at h; obtain ⟨v, vs, rfl, h2, h3⟩ := h; rw [DCells] at h3; subst h3; rw [DRep] at h2; rw [SReps]; exact ⟨v, [], rfl, by rw [SRep]; exact ⟨h2.1, by rw [h2.1]; exact h2.2⟩, by rw [SReps]⟩
        have hlt : (ix ()).toNat < L.length := (List.getElem?_eq_some_iff.1 hr).1; have hm := mul_le_of_lt (sz := 1) hlt
        obtain ⟨sv, v, l1, l2, l3, l4⟩ := takeAt_sound (w := w) (b := bb) (o := (ix ()).toNat * 1) hT h1' (k1 d2) (by simp [KBs, KB, hkq]) (by
          have := rangeAt_of_cells (w := w) (o := (ix ()).toNat * 1) (k := 1) q3; rw [<- q7, List.drop_take, List.take_take, show min 1 (L.length * 1 - (ix ()).toNat * 1) = 1 by omega]
          exact this)
        exact ⟨_, _, sv, v, e3, l1, l2, l3, l4⟩
    | _ => exact (not_stuck (by simpa [loadE, runAP] using h1)).elim
  | _ => exact (not_stuck (by simpa [loadAt, runAP] using h1)).elim
theorem s_load {o : Oper} {T : TypeId} {x : Operand} (ht : TabOk P tab) (ho : o.op = .load T x) : Snd P tab Q E t own n K o a w QQ := by
  intro β S h r; rw [show opProg tab o = rdO x fun v => loadOp tab T v by unfold opProg; rw [ho]] at h
  obtain ⟨vx, h1, g2, g3⟩ := rdO_sound x _ h r; obtain ⟨b, k, sv, v, e, l1, l2, l3, l4⟩ := load_sound ht h1 g3 r; exact wp_value (run_loadOp ho e l1) (.same r l2 l3 l4)
theorem splice_length {α : Type} : ∀ (vs l : List α) (o : Nat), (splice l o vs).length = l.length
  | [], l, o => rfl
  | v :: vs, l, o => by
    have hu : ∀ (l : List α) (i : Nat), (upd v l i).length = l.length := by
      intro l
      induction l with
      | nil => intro i; cases i <;> rfl
      | cons a l ih => intro i; cases i <;> simp [upd, ih]
    rw [splice, splice_length vs, hu]
theorem upd_set {α : Type} (v : α) : ∀ (l : List α) (i : Nat), upd v l i = l.set i v
  | [], i => by cases i <;> rfl
  | a :: l, 0 => rfl
  | a :: l, i + 1 => by simp [upd, upd_set v l i]
theorem splice_eq {α : Type} : ∀ (vs l : List α) (o : Nat), o + vs.length <= l.length -> splice l o vs = l.take o ++ vs ++ l.drop (o + vs.length)
  | [], l, o, h => by simp [splice]
  | v :: vs, l, o, h => by
    simp only [List.length_cons] at h; rw [splice, splice_eq vs (upd v l o) (o + 1) (by rw [upd_set, List.length_set]; omega), upd_set]
    have h1 : (l.set o v).take (o + 1) = l.take o ++ [v] := by
      rw [List.take_add_one, List.getElem?_set_self (by omega)]
      simp [List.take_set_of_le]
    have h2 : (l.set o v).drop (o + 1 + vs.length) = l.drop (o + 1 + vs.length) := by
      rw [List.drop_set_of_lt (by omega)]
    rw [h1, h2]; simp [Nat.add_comm, Nat.add_left_comm]
theorem SReps_splice : ∀ {vs c : List SV} {us xs : List Value} (o : Nat), SReps β S vs us -> SReps β S c xs -> SReps β S (splice c o vs) (splice xs o us)
  | [], c, us, xs, o, h, k => by rw [SReps] at h; subst h; exact k
  | v :: vs, c, us, xs, o, h, k => by
    rw [SReps] at h; obtain ⟨u, us, rfl, h1, h2⟩ := h; rw [splice, splice]; refine SReps_splice (o + 1) h2 ?_; rw [upd_set u xs o]; exact SReps_upd h1 o k
theorem KBs_splice : ∀ {vs c : List SV} (o : Nat), KBs n vs -> KBs n c -> KBs n (splice c o vs)
  | [], c, o, h, k => k
  | v :: vs, c, o, h, k => by
    rw [KBs] at h; rw [splice]; exact KBs_splice (o + 1) h.2 (KBs_upd h.1 o k)
theorem allOne_iff : ∀ {c : List SV}, allOne c = true ↔ ∀ v ∈ c, v.one = true
  | [] => by simp [allOne]
  | v :: c => by
    rw [allOne]
    cases h : v.one with
    | true => simp [h, allOne_iff (c := c)]
    | false => simp [h]
theorem allOne_splice {vs c : List SV} (o : Nat) (h : allOne vs = true) (k : allOne c = true) : allOne (splice c o vs) = true := by
  rw [allOne_iff] at *
  induction vs generalizing c o with
  | nil => exact k
  | cons v vs ih =>
    rw [splice]; refine ih (o + 1) (fun x hx => h x (by simp [hx])) ?_
    intro x hx; rw [upd_set] at hx; rcases List.mem_or_eq_of_mem_set hx with hx | hx
    . exact k x hx
    . subst hx; exact h _ (by simp)
theorem one_rep {v : SV} {u : Value} (h : SRep β S v u) (hv : v.one = true) : u.oneCell' = true := by
  cases v with
  | agg l => simp [SV.one] at hv
  | tup l => simp [SV.one] at hv
  | any => simp [SV.one] at hv
  | raw x => rw [SRep] at h; subst h; exact hv
  | int k f => rw [SRep] at h; subst h; rfl
  | bool b => rw [SRep] at h; subst h; rfl
  | bs b => rw [SRep] at h; subst h; rfl
  | str b => rw [SRep] at h; subst h; rfl
  | nils => rw [SRep] at h; subst h; rfl
  | ds sz l => rw [SRep] at h; exact DRep_one h
  | dp sz l i off => rw [SRep] at h; obtain ⟨b, o, c, T, fr, _, _, _, _, rfl⟩ := h; rfl
  | op j off => rw [SRep] at h; obtain ⟨b, _, rfl⟩ := h; rfl
  | oe j sz i off => rw [SRep] at h; obtain ⟨_, b, _, _, _, _, rfl⟩ := h; rfl
  | fn f caps => rw [SRep] at h; obtain ⟨b, rfl, _⟩ := h; rfl
  | fno f caps => rw [SRep] at h; obtain ⟨_, b, rfl, _⟩ := h; rfl
  | os j => rw [SRep] at h; exact h.2
  | om j => rw [SRep] at h; exact h.2
  | ov j sz a b => rw [SRep] at h; rcases h.2.2 with ⟨_, _, _, _, _, _, _, _, rfl⟩ | ⟨_, _, rfl⟩ <;> rfl
theorem ones_rep : ∀ {c : List SV} {us : List Value}, SReps β S c us -> allOne c = true -> ∀ u ∈ us, u.oneCell' = true
  | [], us, h, _ => by rw [SReps] at h; simp [h]
  | v :: c, us, h, hc => by
    rw [SReps] at h; obtain ⟨u, us, rfl, h1, h2⟩ := h; rw [allOne_iff] at hc; intro x hx; rcases List.mem_cons.1 hx with rfl | hx
    . exact one_rep h1 (hc v (by simp))
    . exact ones_rep h2 (allOne_iff.2 fun y hy => hc y (by simp [hy])) x hx
theorem run_store_cells {b off : Nat} {T0 T : TypeId} {cs : Array Value} {u : Value} {i : TI} (hT : TFacts P T i) (hb : w.heap[b]? = some (.cells cs T0 (0, 0))) (hl : u.cells.toList.length = i.size)
    (hfit : off + u.cells.toList.length <= cs.size) (h1 : ∀ x ∈ u.cells.toList, x.oneCell' = true) :
    ∃ w', (storeVar T ⟨b, off, none⟩ u).run P w = .ok () w' /\ w'.heap[b]? = some (.cells (splice cs.toList off u.cells.toList).toArray T0 (0, 0)) /\
      (∀ x, x ≠ b -> w'.heap[x]? = w.heap[x]?) /\ w'.os = w.os /\ w'.tape = w.tape /\ w'.output = w.output /\ w'.heap.size = w.heap.size := by
  obtain ⟨info, d, z, hi, hu, hs, _⟩ := hT; have hrun := run_storeCells_at P b off T0 u.cells.toList 0 cs w hb (by omega) h1
  rw [Nat.add_zero, <- splice_eq _ _ _ (by simpa using hfit)] at hrun
  refine ⟨_, ?_, setRow_heap w b cs _ T0 (0, 0) hb, fun x hx => setRow_other w b x _ hx, rfl, rfl, rfl, by simp⟩
  have hsz : u.cells.size = info.size := by rw [hs]; simpa using hl
  simp [storeVar, sizeOf, typeInfo, hi, hsz, hrun]
theorem s_convert {o : Oper} {T T' : TypeId} {x : Operand} (ht : TabOk P tab) (ho : o.op = .convert T T' x) : Snd P tab Q E t own n K o a w QQ := by
  intro β S h r; rw [show opProg tab o = rdO x fun v => withT tab T fun is => withT tab T' fun i => convT tab is i v by unfold opProg; rw [ho]] at h
  obtain ⟨vx, h01, g2, g3⟩ := rdO_sound x _ h r; obtain ⟨⟨i1, d1, z1, _, hu1, _, _, _, _, hd1⟩, h02⟩ := withT_sound ht T _ h01; obtain ⟨⟨i2, d2, z2, _, hu2, _, _, _, _, hd2⟩, h1⟩ := withT_sound ht T' _ h02; clear h h01 h02
  have run : ∀ v, (convert T T' (a.eval x)).run P w = .ok v w -> (execOp a.eval o).run P w = .ok (.value v) w := by
    intro v hv; simp only [execOp, ho, Sem.run_bind, hv, Result.andThen_ok, Sem.run_pure]
  have plain : Holds P tab Q (runAP (convOp (tab T').d vx) t own n K) -> o.wp P a w (Aft P tab Q E t K o a) QQ := fun h1 => by
    unfold convOp at h1; generalize (tab T').d = dd at h1 hd2; split at h1
    . rw [SRep] at g3; simp only [tdOk] at hd2; subst hd2; refine wp_value (run _ ?_) (.same r (ret_sound h1) (SRep_int _ _) (by simp [KB]))
      rw [g3]; simp [convert, run_underlying hu1, run_underlying hu2, Conv.intToInt]
    . rw [SRep] at g3; simp only [tdOk] at hd2; subst hd2; refine wp_value (run _ ?_) (.same r (ret_sound h1) (SRep_str _) (by simp [KB]))
      rw [g3]; simp [convert, run_underlying hu1, run_underlying hu2]
    . exact (not_stuck (by simpa [runAP] using h1)).elim
  unfold convT at h1; split at h1
  . rename_i e he
    clear plain; rw [he] at hd1; simp only [tdOk] at hd1; subst hd1; obtain ⟨⟨i3, d3, z3, _, hu3, _, _, _, _, hd3⟩, h3⟩ := withT_sound ht e _ h1; clear h1; unfold convSl at h3; split at h3
    . rename_i j hde hdd
      have h1 := h3; clear h3; rw [hde] at hd3; rw [hdd] at hd2; simp only [tdOk] at hd2 hd3; subst hd2 hd3; obtain ⟨bk, hb, h1⟩ := rdB_sound h1
      cases bk with
      | arr T0 sz l =>
        simp only [strB] at h1; obtain ⟨hsz, h1⟩ := when_sound h1; have hsz := beq_true hsz; subst hsz; obtain ⟨hok, h1⟩ := need_sound h1; rw [SRep] at g3; obtain ⟨xs, ⟨o1, o2⟩, o3⟩ := r.mem.blk _ _ hb; refine wp_value (run (.string (bytesOf (l ()))) ?_) (.same r (ret_sound h1) (by rw [SRep]) (by simp [KB]))
        rw [g3.1]; rcases o2 with ⟨o2, o4⟩ | ⟨g, cap', cur, q1, q2, q3, q4, q5, q6, q7⟩
        . rw [o2, run_convert_bytes_string w T T' e none 0 0 hu1 hu3 hu2]; have : l () = [] := List.eq_nil_of_length_eq_zero o4; rw [this]; rfl
        . have bytes : ∀ (l : List (List DV)) (xs : List Value), bytesOk l -> DRows S 1 l xs -> ∃ ns : List Int, xs = ns.map (fun n => .int .u8 n) /\ l.map byteOfRow = ns.map (fun n => UInt8.ofNat n.toNat) := by
            intro l
            induction l with
            | nil => intro xs _ h; rw [DRows] at h; subst h; exact ⟨[], rfl, rfl⟩
            | cons r l ih =>
              intro xs hok h; rw [DRows] at h; obtain ⟨p, q, rfl, _, h2, h3⟩ := h; obtain ⟨m, hm⟩ := hok r (by simp)
              subst hm; rw [DCells] at h2; obtain ⟨v, vs, rfl, h4, h5⟩ := h2; rw [DCells] at h5; subst h5; rw [DRep] at h4; subst h4; obtain ⟨ns, e1, e2⟩ := ih q (fun r hr => hok r (by simp [hr])) h3
              exact ⟨m.toNat :: ns, by simp [e1], by simp [e2, byteOfRow]⟩
          obtain ⟨ns, e1, e2⟩ := bytes _ _ hok o3; have hlen : ns.length = (l ()).length := by have := congrArg List.length e2; simpa using this.symm
          rw [q1, run_convert_bytes_string w T T' e _ _ _ hu1 hu3 hu2, run_bytesToString w ⟨g, 0, none⟩ (l ()).length cap' ns ?_]
          . have push : ∀ (ns : List Int) (r : ByteArray), ns.foldl (fun r n => r.push (UInt8.ofNat n.toNat)) r = ⟨r.data ++ (ns.map fun n => UInt8.ofNat n.toNat).toArray⟩ := by
              intro ns
              induction ns with
              | nil => intro r; simp
              | cons n ns ih => intro r; rw [List.foldl_cons, ih]; simp [ByteArray.push, Array.push, Array.append_assoc]
            rw [push]; unfold bytesOf; rw [e2]; simp
          . have hlen2 : xs.length = (l ()).length := by rw [e1]; simpa using hlen
            have := run_loadCells_list (P := P) w ⟨g, 0, none⟩ xs (fun j v hj => by
              rw [Addr.add_mid]; refine rangeAt_of_cells (o := 0) (k := (l ()).length * 1) q3 j v ?_; rw [List.drop_zero, q7]; exact hj)
            rw [hlen2] at this; rw [this, e1]
      | _ => exact (not_stuck (by simpa [strB, runAP] using h1)).elim
    . exact (not_stuck (by simpa [runAP] using h3)).elim
  . exact plain h1
end
end Go.Eng
namespace Go.Eng
section
variable {P : Program} {tab : Nat -> TI} {Q : QT} {E : Env} {t : List SV} {own : Own} {n : Nat} {K : SV -> Own -> Nat -> R} {a : Act} {w : World} {β : Nat -> Value} {S : Snap}
  {QQ : Exit -> Act -> World -> Prop}
theorem wrB_sound {j : Nat} {b : Blk} {k : AP} (h : Holds P tab Q (runAP (.wrB j b k) t own n K)) : Holds P tab Q (runAP k t (setB own j b) n K) := by
  rwa [runAP] at h
theorem ko_setB {b : Blk} {j : Nat} {b0 : Blk} (r : RelB E ⟨t, own, n⟩ a w β S) (hj : lookB own j = some b0) (hb : KBb n b) : ∀ i c, lookB (setB own j b) i = some c -> i < n /\ KBb n c := by
  intro i c h; rw [lookB_setB] at h; split at h
  . cases h; subst_vars; exact ⟨(r.ko _ _ hj).1, hb⟩
  . exact r.ko i c h
theorem run_storeOp {o : Oper} {T : TypeId} {x y : Operand} (ho : o.op = .store T x y) {b k : Nat} {w' : World} (hx : a.eval x = .pointer (some ⟨b, k, none⟩)) (hl : (storeVar T ⟨b, k, none⟩ (a.eval y)).run P w = .ok () w') :
    (execOp a.eval o).run P w = .ok .skip w' := by
  simp [execOp, ho, hx, Instr.storeAt, Instr.sureAddr, hl]
theorem sealCs_sound : ∀ (vs : List SV) (us : List Value) (k : List SV -> AP) (own : Own) (S : Snap), Holds P tab Q (runAP (sealCs vs k) t own n K) -> RelB E ⟨t, own, n⟩ a w β S -> SReps β S vs us -> KBs n vs ->
    ∃ vs' own' S', Sub S S' /\ Holds P tab Q (runAP (k vs') t own' n K) /\ RelB E ⟨t, own', n⟩ a w β S' /\ SReps β S' vs' us /\ KBs n vs' /\ (∀ j b, lookB own' j = some b -> lookB own j = some b)
  | [], us, k, own, S, h, r, hs, hk => ⟨[], own, S, Sub.refl S, by simpa [sealCs] using h, r, hs, hk, fun _ _ h => h⟩
  | v :: vs, us, k, own, S, h, r, hs, hk => by
    rw [SReps] at hs; obtain ⟨u, us, rfl, h1, h2⟩ := hs; rw [KBs] at hk
    have rest : ∀ v', KB n v' -> ∀ own1 S1, Sub S S1 -> (∀ S', Sub S1 S' -> SRep β S' v' u) -> Holds P tab Q (runAP (sealCs vs fun ws => k (v' :: ws)) t own1 n K) -> RelB E ⟨t, own1, n⟩ a w β S1 -> (∀ j b, lookB own1 j = some b -> lookB own j = some b) ->
        ∃ vs' own' S', Sub S S' /\ Holds P tab Q (runAP (k vs') t own' n K) /\ RelB E ⟨t, own', n⟩ a w β S' /\ SReps β S' vs' (u :: us) /\ KBs n vs' /\ (∀ j b, lookB own' j = some b -> lookB own j = some b) := by
      intro v' hkv own1 S1 hS1 hv' hh rr hsub; obtain ⟨vs', own', S', e1, e2, e3, e4, e5, e6⟩ := sealCs_sound vs us _ own1 S1 hh rr (SReps_congr hS1 (n := n) (fun _ _ => rfl) _ _ hk.2 h2) hk.2
      exact ⟨v' :: vs', own', S', hS1.trans e1, e2, e3, by rw [SReps]; exact ⟨u, us, rfl, hv' S' e1, e4⟩, by rw [KBs]; exact ⟨hkv, e5⟩, fun j b hj => hsub j b (e6 j b hj)⟩
    have keep : ∀ S', Sub S S' -> SRep β S' v u := fun S' hS => SRep_congr hS (n := n) (fun _ _ => rfl) v u hk.1 h1
    cases v with
    | os j =>
      simp only [sealCs] at h; rw [runAP] at h; split at h
      . rename_i T sz l hl
        obtain ⟨S1, s1, s2, s3⟩ := r.mem.shut r.ko hl; rw [SRep] at h1; refine rest (.ds sz l) (by simp [KB]) (delB own j) S1 s1 (fun S' hS => ?_) h ?_ ?_
        . rw [SRep, h1.1]; exact DRep_mono hS _ _ s3
        . refine r.mem' (Nat.le_refl _) (fun _ _ => rfl) s1 ?_ s2
          intro i b hi; rw [lookB_delB] at hi; split at hi
          . cases hi
          . exact r.ko i b hi
        . intro i b hi; rw [lookB_delB] at hi; split at hi
          . cases hi
          . exact hi
      . exact (not_stuck h).elim
    | _ => exact rest _ hk.1 own S (Sub.refl S) keep (by simpa [sealCs] using h) r (fun _ _ h => h)
theorem toDV_sound {v : SV} {u : Value} {d : Unit -> DV} (h : toDV v = some d) (r : SRep β S v u) : DRep S (d ()) u := by
  cases v <;> simp only [toDV] at h
  case raw x =>
    split at h
    . cases h; rw [SRep] at r; rw [DRep]; exact ⟨r, by subst r; assumption⟩
    . cases h
  all_goals first
    | cases h; done
    | (cases h; rw [SRep] at r; first | exact r | (rw [DRep]; exact r) | (rw [DRep]; exact ⟨r, rfl⟩))
theorem toDVs_sound : ∀ {vs : List SV} {us : List Value} {d : Unit -> List DV}, toDVs vs = some d -> SReps β S vs us -> DCells S (d ()) us /\ (d ()).length = vs.length
  | [], us, d, h, r => by
    rw [SReps] at r; subst r; simp only [toDVs] at h; cases h; exact ⟨by rw [DCells], rfl⟩
  | v :: vs, us, d, h, r => by
    rw [SReps] at r; obtain ⟨u, us, rfl, r1, r2⟩ := r; simp only [toDVs] at h; split at h
    . rename_i d1 d2 e1 e2
      cases h; obtain ⟨g1, g2⟩ := toDVs_sound e2 r2; exact ⟨by rw [DCells]; exact ⟨u, us, rfl, toDV_sound e1 r1, g1⟩, by simp [g2]⟩
    . cases h
theorem DCells_upd {d : DV} {u : Value} (hd : DRep S d u) : ∀ {l : List DV} {xs : List Value} (i : Nat), DCells S l xs -> DCells S (upd d l i) (upd u xs i)
  | [], xs, i, h => by rw [DCells] at h; subst h; cases i <;> simp [upd, DCells]
  | e :: l, xs, i, h => by
    rw [DCells] at h; obtain ⟨v, vs, rfl, h1, h2⟩ := h
    cases i with
    | zero => rw [upd, upd, DCells]; exact ⟨u, vs, rfl, hd, h2⟩
    | succ i => rw [upd, upd, DCells]; exact ⟨v, upd u vs i, rfl, h1, DCells_upd hd i h2⟩
theorem DCells_splice : ∀ {ds : List DV} {us : List Value} {l : List DV} {xs : List Value} (o : Nat), DCells S ds us -> DCells S l xs -> DCells S (splice l o ds) (splice xs o us)
  | [], us, l, xs, o, h, k => by rw [DCells] at h; subst h; exact k
  | d :: ds, us, l, xs, o, h, k => by
    rw [DCells] at h; obtain ⟨v, vs, rfl, h1, h2⟩ := h; rw [splice, splice]; exact DCells_splice (o + 1) h2 (DCells_upd h1 o k)
theorem splice_append_left {α : Type} (us a b : List α) (o : Nat) (h : o + us.length <= a.length) : splice (a ++ b) o us = splice a o us ++ b := by
  rw [splice_eq _ _ _ (by simp; omega), splice_eq _ _ _ h, List.take_append_of_le_length (by omega), List.drop_append_of_le_length h]
  simp
theorem splice_append_right {α : Type} (us a b : List α) (o : Nat) (h : o + us.length <= b.length) : splice (a ++ b) (a.length + o) us = a ++ splice b o us := by
  rw [splice_eq _ _ _ (by simp; omega), splice_eq _ _ _ h, List.take_append, List.take_of_length_le (by omega), List.drop_append, List.drop_eq_nil_of_le (by omega)]
  rw [show a.length + o - a.length = o by omega, show a.length + o + us.length - a.length = o + us.length by omega]
  simp
theorem DRows_set {sz : Nat} {ds : List DV} {us : List Value} (hd : DCells S ds us) : ∀ {l : List (List DV)} {xs : List Value} (i off : Nat), DRows S sz l xs -> i < l.length -> off + ds.length <= sz ->
    DRows S sz (setRow l i off ds) (splice xs (i * sz + off) us)
  | [], xs, i, off, h, hi, _ => by simp at hi
  | r :: l, xs, i, off, h, hi, hf => by
    rw [DRows] at h; obtain ⟨x, y, rfl, h0, h1, h2⟩ := h; have hx := DCells_length h1; have hu := DCells_length hd
    cases i with
    | zero =>
      simp only [setRow, List.getElem?_cons_zero, Option.getD_some, List.set_cons_zero, Nat.zero_mul, Nat.zero_add]; rw [splice_append_left us x y off (by omega), DRows]
      exact ⟨splice x off us, y, rfl, by rw [splice_length]; exact h0, DCells_splice off hd h1, h2⟩
    | succ i =>
      have hi' : i < l.length := by simpa using hi
      have ih := DRows_set hd i off h2 hi' hf; have hy := DRows_length h2; have hm := mul_le_of_lt (sz := sz) hi'; simp only [setRow, List.getElem?_cons_succ, List.set_cons_succ]; rw [show (i + 1) * sz + off = x.length + (i * sz + off) by rw [hx, h0, Nat.add_mul]; omega, splice_append_right us x y _ (by omega), DRows]
      exact ⟨x, _, rfl, h0, h1, ih⟩
theorem ownsRow_splice {T : TypeId} {sz nn g cap : Nat} {xs us : List Value} {cur : Array Value} {w' : World} (h1 : nn <= cap) (h2 : cap <= maxLen) (h3 : cur.size = cap * sz) (h4 : cur.toList.take (nn * sz) = xs) (hx : xs.length = nn * sz) (o : Nat)
    (ho : o + us.length <= nn * sz) (hh : w'.heap[g]? = some (.cells (splice cur.toList o us).toArray T (0, 0))) :
    w'.ownsRow 0 T sz (.slice (some ⟨g, 0, none⟩) nn cap) nn (splice xs o us) := by
  have hle : nn * sz <= cap * sz := Nat.mul_le_mul_right _ h1; refine ⟨by rw [splice_length, hx], .inr ⟨g, cap, _, rfl, Nat.zero_le _, hh, h1, h2, by simp [splice_length, h3], ?_⟩⟩
  have hcl : cur.toList = xs ++ cur.toList.drop (nn * sz) := by rw [<- h4, List.take_append_drop]
  have := splice_append_left us xs (cur.toList.drop (nn * sz)) o (by omega)
  rw [<- hcl] at this; simp only [this]; rw [List.take_append_of_le_length (by rw [splice_length, hx]; exact Nat.le_refl _), List.take_of_length_le (by rw [splice_length, hx]; exact Nat.le_refl _)]
theorem s_store {o : Oper} {T : TypeId} {x y : Operand} (ht : TabOk P tab) (ho : o.op = .store T x y) : Snd P tab Q E t own n K o a w QQ := by
  intro β S h r; rw [show opProg tab o = rdO x fun va => rdO y fun vx => storeOp tab T va vx by unfold opProg; rw [ho]] at h
  obtain ⟨vp, h1, g2, g3⟩ := rdO_sound x _ h r; obtain ⟨vy, h1, f2, f3⟩ := rdO_sound y _ h1 r; obtain ⟨hT, h1⟩ := withT_sound ht T _ h1; obtain ⟨hlen, h1⟩ := when_sound h1; have hlen := beq_true hlen
  cases vp with
  | op j off =>
    simp only [storeAt] at h1; obtain ⟨bk, hb, h1⟩ := rdB_sound h1
    cases bk with
    | cells T' c =>
      simp only [storeC] at h1; obtain ⟨hfit, h1⟩ := when_sound h1; have hfit := Nat.le_of_ble_eq_true hfit; obtain ⟨hone, h1⟩ := when_sound h1; have h2 := ret_sound (wrB_sound h1); rw [SRep] at g3; obtain ⟨bb, e1, e2⟩ := g3; obtain ⟨b', cs, q1, q2, q3, q4⟩ := r.mem.blk j _ hb; rw [e1] at q1; cases q1; obtain ⟨c1, c2⟩ := cells_sound f3 f2 hone; have hcl := SReps_length c1; have hcc := SReps_length q3; simp only [Array.length_toList] at hcc; obtain ⟨w', s1, s2, s3, s4, s5, s6, s7⟩ := run_store_cells (off := off) (u := a.eval y) hT q2 (by rw [hcl]; exact hlen) (by rw [hcl]; omega) (ones_rep c1 hone)
      refine wp_skip' (run_storeOp ho e2 s1) ⟨.any, _, _, β, S, h2, by simp [SRep], by simp [KB], ?_⟩
      have hkb := (r.ko j _ hb).2; refine r.mem' (Nat.le_refl _) (fun _ _ => rfl) (Sub.refl S) (ko_setB r hb (KBs_splice off c2 hkb)) ?_
      exact r.mem.setCells r.ko hb e1 s4 s5 s6 (by rw [s7]; exact Nat.le_refl _) s3 s2 (by simpa using SReps_splice off c1 q3) (allOne_splice off hone q4)
    | _ => exact (not_stuck (by simpa [storeC, runAP] using h1)).elim
  | oe j sz ix off =>
    simp only [storeAt] at h1; obtain ⟨b0, hb0, h1⟩ := rdB_sound h1; split at h1
    . rename_i T0 l0 hh q0 q hve
      obtain ⟨hsz, h2⟩ := when_sound h1; obtain ⟨hof, h3⟩ := when_sound h2; clear h1 h2; obtain rfl : sz = 1 := beq_true hsz; obtain rfl : off = 0 := beq_true hof; obtain ⟨⟨n1, n2, n3⟩, h4⟩ := need_sound h3; have k9 := ret_sound (wrB_sound h4); have hone := cells_sound f3 f2 (by rw [hve]; rfl)
      rw [hve] at hone hlen; have h1c := ones_rep hone.1 rfl; rw [SRep] at g3; obtain ⟨e0, bb, nn, cap, e1, e2, e3⟩ := g3; have hkb := (r.ko j _ hb0).2; have hB := r.mem.blk j _ hb0; obtain ⟨xs, ⟨o1, o2⟩, o3⟩ := hB; have hlt0 : (hh ()).toNat < (l0 ()).length := by omega
      have hL : setRow ((l0 ()).set (hh ()).toNat [DV.raw (β q0)]) (ix ()).toNat 0 [DV.raw (β q)] = (l0 ()).set (hh ()).toNat [DV.raw (β q)] := by
        unfold setRow; rw [n1, List.getElem?_set_self hlt0, List.set_set]; rfl
      have d1 : DCells S [DV.raw (β q)] (a.eval y).cells.toList := by
        have := hone.1; rw [SReps] at this; obtain ⟨v, vs, e, g1, g2⟩ := this; rw [SReps] at g2; subst g2; rw [SRep] at g1; rw [e, DCells]; exact ⟨v, [], rfl, by rw [DRep]; exact ⟨g1.1, by rw [<- g1.1]; exact g1.2⟩, by rw [DCells]⟩
      have hul := DCells_length d1; have hul1 : (a.eval y).cells.size = 1 := by simpa using hul
      have hul2 : (a.eval y).cells.toList.length = 1 := by simpa using hul
      have hlen0 : ((l0 ()).set (hh ()).toNat [DV.raw (β q0)]).length = ((l0 ()).set (hh ()).toNat [DV.raw (β q)]).length := by simp
      have hix : (ix ()).toNat < ((l0 ()).set (hh ()).toNat [DV.raw (β q0)]).length := by rw [n1, List.length_set]; exact hlt0
      rcases o2 with ⟨o2, _⟩ | ⟨g, cap', cur, q1, q2, q3, q4, q5, q6, q7⟩
      . rw [o2] at e1; cases e1
      . rw [q1] at e1; cases e1; have hset := DRows_set d1 (ix ()).toNat 0 o3 hix (by simp)
        have hsl : (setRow ((l0 ()).set (hh ()).toNat [DV.raw (β q0)]) (ix ()).toNat 0 [DV.raw (β q)]).length = ((l0 ()).set (hh ()).toNat [DV.raw (β q0)]).length := by simp [setRow]
        rw [hL] at hset hsl; generalize hL0 : (l0 ()).set (hh ()).toNat [DV.raw (β q0)] = L at *; have hm := mul_le_of_lt (sz := 1) hix; have hle : L.length * 1 <= cap * 1 := Nat.mul_le_mul_right _ q4; obtain ⟨w', s1, s2, s3, s4, s5, s6, s7⟩ := run_store_cells (off := (ix ()).toNat * 1 + 0) (u := a.eval y) hT q3 (by rw [SReps_length hone.1]; exact hlen) (by omega) h1c
        refine wp_skip' (run_storeOp ho e3 s1) ⟨.any, _, _, β, S, k9, by simp [SRep], by simp [KB], ?_⟩
        have hkq : q < n := by have := hone.2; simp only [KBs, KB] at this; exact this.1
        refine r.mem' (Nat.le_refl _) (fun _ _ => rfl) (Sub.refl S) (ko_setB r hb0 hkq) ?_
        refine r.mem.setAny r.ko hb0 (by rw [q1]; rfl) s4 s5 s6 (by rw [s7]; exact Nat.le_refl _) s3 ⟨_, ?_, hset⟩
        rw [q1, hsl]; exact ownsRow_splice q4 q5 q6 q7 o1 _ (by omega) s2
    rename_i hbn
    obtain ⟨hall, h1⟩ := when_sound h1; have hone := cells_sound f3 f2 hall; have h1c := ones_rep hone.1 hall; obtain ⟨vs', own', S', k1, k2, k3, k4, k5, k6⟩ := sealCs_sound _ _ _ own S h1 r hone.1 hone.2; clear h1; obtain ⟨bk, hb, k2⟩ := rdB_sound k2
    cases bk with
    | arr T' sz' l =>
      simp only [storeE] at k2; split at k2
      . rename_i T2 sz2 l2 ds hbe hds
        cases hbe; obtain ⟨hsz, k7⟩ := when_sound k2; clear k2; have hsz := beq_true hsz; subst hsz; obtain ⟨hfit, k8⟩ := when_sound k7; have hfit := Nat.le_of_ble_eq_true hfit; have k9 := ret_sound (wrB_sound k8); have g3' := SRep_congr k1 (n := n) (fun _ _ => rfl) _ _ g2 g3
        rw [SRep] at g3'; obtain ⟨e0, bb, nn, cap, e1, e2, e3⟩ := g3'; obtain ⟨xs, ⟨o1, o2⟩, o3⟩ := k3.mem.blk j _ hb; obtain ⟨d1, d2⟩ := toDVs_sound hds k4; have hul := DCells_length d1; have hvl := SReps_length k4; rcases o2 with ⟨o2, _⟩ | ⟨g, cap', cur, q1, q2, q3, q4, q5, q6, q7⟩
        . rw [o2] at e1; cases e1
        . rw [q1] at e1; cases e1; have hlt : (ix ()).toNat < (l ()).length := by omega
          have hm := mul_le_of_lt (sz := sz) hlt; have hle : (l ()).length * sz <= cap * sz := Nat.mul_le_mul_right _ q4; obtain ⟨w', s1, s2, s3, s4, s5, s6, s7⟩ := run_store_cells (off := (ix ()).toNat * sz + off) (u := a.eval y) hT q3 (by rw [SReps_length hone.1]; exact hlen) (by omega) h1c
          refine wp_skip' (run_storeOp ho e3 s1) ⟨.any, _, _, β, S', k9, by simp [SRep], by simp [KB], ?_⟩
          refine k3.mem' (Nat.le_refl _) (fun _ _ => rfl) (Sub.refl S') (ko_setB k3 hb trivial) ?_
          refine k3.mem.setArr k3.ko hb (by rw [q1]; rfl) s4 s5 s6 (by rw [s7]; exact Nat.le_refl _) s3 ?_ (DRows_set d1 (ix ()).toNat off o3 hlt (by omega))
          rw [q1]; have hsl : (setRow (l ()) (ix ()).toNat off (ds ())).length = (l ()).length := by simp [setRow]
          simp only [hsl]; exact ownsRow_splice q4 q5 q6 q7 o1 _ (by omega) s2
      . exact (not_stuck (by simpa [runAP] using k2)).elim
    | _ => exact (not_stuck (by simpa [storeE, runAP] using k2)).elim
  | _ => exact (not_stuck (by simpa [storeAt, runAP] using h1)).elim
theorem s_nilCheck {o : Oper} {x : Operand} (ho : o.op = .nilCheck x) : Snd P tab Q E t own n K o a w QQ := by
  intro β S h r; rw [show opProg tab o = rdO x nilOp by unfold opProg; rw [ho]] at h
  obtain ⟨vx, h1, g2, g3⟩ := rdO_sound x _ h r
  cases vx with
  | op j off =>
    have g3' := g3; rw [SRep] at g3'; obtain ⟨b, _, e⟩ := g3'; exact wp_value (v' := a.eval x) (by simp [execOp, ho, e]) (.same r (ret_sound h1) g3 g2)
  | dp sz l i off =>
    have g3' := g3; rw [SRep] at g3'; obtain ⟨b, _, _, _, _, _, _, _, _, e⟩ := g3'; exact wp_value (v' := a.eval x) (by simp [execOp, ho, e]) (.same r (ret_sound h1) g3 g2)
  | oe j sz i off =>
    have g3' := g3; rw [SRep] at g3'; obtain ⟨_, b, _, _, _, _, e⟩ := g3'; exact wp_value (v' := a.eval x) (by simp [execOp, ho, e]) (.same r (ret_sound h1) g3 g2)
  | fn f c =>
    have g3' := g3; rw [SRep] at g3'; obtain ⟨b, e, _⟩ := g3'; exact wp_value (v' := a.eval x) (by simp [execOp, ho, e]) (.same r (ret_sound h1) g3 g2)
  | _ => exact (not_stuck (by simpa [nilOp, runAP] using h1)).elim
theorem s_fieldAddr {o : Oper} {T f : Nat} {x : Operand} (ht : TabOk P tab) (ho : o.op = .fieldAddr T x f) : Snd P tab Q E t own n K o a w QQ := by
  intro β S h r; rw [show opProg tab o = rdO x fun v => withT tab T fun i => fieldOp (fieldOff i f) v by unfold opProg; rw [ho]] at h
  obtain ⟨vx, h1, g2, g3⟩ := rdO_sound x _ h r; obtain ⟨⟨i1, d1, z1, hi, hu, _, _, _, _, hd⟩, h1⟩ := withT_sound ht T _ h1; obtain ⟨hpos, h1⟩ := when_sound h1; have hpos : 0 < (fieldOff (tab T) f).2 := by simpa [Nat.blt_eq] using hpos
  have hf : ∃ (fs : Array Field) (fd : Field), d1 = .struct fs /\ fs[f]? = some fd /\ (fd.offset, P.cellsOf fd.type) = fieldOff (tab T) f := by
    unfold fieldOff at hpos ⊢; generalize (tab T).d = dd at hpos hd ⊢
    cases dd with
    | struct os =>
      obtain ⟨fs, rfl, h2, _⟩ := hd
      have hn : ∀ (os : List (Nat × Nat)) (f : Nat), 0 < (nth (0, 0) os f).2 -> os[f]? = some (nth (0, 0) os f) := by
        intro os
        induction os with
        | nil => intro f hf; cases f <;> simp [nth] at hf
        | cons p os ih => intro f hf; cases f with
          | zero => rfl
          | succ f => simpa [nth] using ih f (by simpa [nth] using hf)
      have := hn os f hpos; rw [<- h2, List.getElem?_map] at this
      cases hfd : fs.toList[f]? with
      | none => rw [hfd] at this; simp at this
      | some fd =>
        rw [hfd] at this; simp only [Option.map_some, Option.some.injEq] at this; exact ⟨fs, fd, rfl, by simpa using hfd, by rw [this, h2]⟩
    | _ => simp at hpos
  obtain ⟨fs, fd, rfl, hfd, he⟩ := hf; have ho1 : fd.offset = (fieldOff (tab T) f).1 := by rw [<- he]
  have hsz : P.cellsOf fd.type ≠ 0 := by have : P.cellsOf fd.type = (fieldOff (tab T) f).2 := by rw [<- he]
                                         omega
  have run : ∀ b k, a.eval x = .pointer (some ⟨b, k, none⟩) -> (execOp a.eval o).run P w = .ok (.value (.pointer (some ⟨b, k + (fieldOff (tab T) f).1, none⟩))) w := by
    intro b k hx
    have hinfo : ∃ i, P.info? fd.type = some i /\ i.size ≠ 0 := by
      unfold Program.cellsOf at hsz
      cases hq : P.info? fd.type with
      | none => simp [hq] at hsz
      | some i => simp [hq] at hsz; exact ⟨i, rfl, hsz⟩
    obtain ⟨i, hi1, hi2⟩ := hinfo; simp [execOp, ho, hx, Instr.fieldAt, run_underlying hu, hfd, Instr.sureAddr, fieldPlace, sizeOf, typeInfo, hi1, hi2, Addr.add_mid, <- ho1]
  cases vx with
  | op j off =>
    rw [SRep] at g3; obtain ⟨b, e1, e⟩ := g3; exact wp_value (run _ _ e) (.same r (ret_sound h1) (by rw [SRep]; exact ⟨b, e1, rfl⟩) (by simpa [KB] using g2))
  | dp sz l i off =>
    rw [SRep] at g3; obtain ⟨b, oo, c, T', fr, e1, e2, e3, e4, e⟩ := g3; exact wp_value (run _ _ e) (.same r (ret_sound h1) (by rw [SRep]; exact ⟨b, oo, c, T', fr, e1, e2, e3, e4, by rw [Nat.add_assoc]⟩) (by simp [KB]))
  | oe j sz i off =>
    rw [SRep] at g3; obtain ⟨e0, b, nn, cap, e1, e2, e⟩ := g3; exact wp_value (run _ _ e) (.same r (ret_sound h1) (by rw [SRep]; exact ⟨e0, b, nn, cap, e1, e2, by rw [Nat.add_assoc]⟩) (by simpa [KB] using g2))
  | _ => exact (not_stuck (by simpa [runAP] using h1)).elim
end
end Go.Eng
