/- The engine, part 3: contracts; what a tree of obligations says; reading operands. -/
import Derived.Test.YtkgiopdkhhinoaaGreatDoorXa
import Derived.Laws.Entries
import Derived.RangeFuncSeq
set_option linter.all false
namespace Go.Eng
def Callable (P : Program) (f : FuncId) : Prop := ∃ fn, P.funcs[f]? = some fn ∧ fn.body.isNone = false ∧ (fn.name == "runtime.NumGoroutine") = false
def blocksOf (H : Own) (β : Nat -> Value) : Nat -> Prop := fun x => ∃ j b, lookB H j = some b /\ blkOf (β j) = some x
def Spec (P : Program) (f : FuncId) (args : List SV) (H : Own) (n : Nat) {α : Type} (Pa : α -> Prop) (res : α -> SV) (H' : α -> Own) : Prop :=
  Callable P f /\ ∀ (w : World) (β : Nat -> Value) (S : Snap) (vals : List Value), SReps β S args vals -> KBs n args -> (∀ j b, lookB H j = some b -> j < n /\ KBb n b) ->
    Mem w (blocksOf H β) S β S H w ->
    Calls P f vals.toArray w fun e w' => ∃ v, e = .returned v /\ ∃ x β' S', Pa x /\ (∀ j, j < n -> β' j = β j) /\ SRep β' S' (res x) v /\ Mem w (blocksOf H β) S β' S' (H' x) w'
def delBs : Own -> Own -> Own
  | own, [] => own
  | own, (j, _) :: H => delBs (delB own j) H
theorem lookB_delBs : ∀ (H own : Own) (i : Nat), lookB (delBs own H) i = if (lookB H i).isSome then none else lookB own i
  | [], own, i => by simp [delBs, lookB]
  | (j, b) :: H, own, i => by
    rw [delBs, lookB_delBs H, lookB_delB, lookB_cons]; by_cases e : j = i
    . simp [e]
    . simp [e]
theorem lookB_delKs : ∀ (ks : List Nat) (own : Own) (i : Nat), lookB (delKs own ks) i = if i ∈ ks then none else lookB own i
  | [], own, i => by simp [delKs]
  | j :: ks, own, i => by
    rw [delKs, lookB_delKs ks, lookB_delB]; by_cases e : i ∈ ks
    . simp [e]
    . by_cases e2 : j = i
      . simp [e2]
      . simp [e, e2]; intro h; exact absurd h.symm e2
theorem lookB_append : ∀ (H own : Own) (i : Nat), lookB (H ++ own) i = if (lookB H i).isSome then lookB H i else lookB own i
  | [], own, i => by simp [lookB]
  | (j, b) :: H, own, i => by
    rw [List.cons_append, lookB_cons, lookB_cons, lookB_append H]; by_cases e : j = i
    . simp [e]
    . simp [e]
mutual
def SV.plain : SV -> Bool
  | .int _ _ => true
  | .bool _ => true
  | .bs _ => true
  | .str _ => true
  | .any => true
  | .nils => true
  | .raw _ => true
  | .tup l => SV.plains l
  | .agg l => SV.plains l
  | _ => false
def SV.plains : List SV -> Bool
  | [] => true
  | s :: l => s.plain && SV.plains l
end
structure Env where
  w0 : World
  X : Nat -> Prop
  S0 : Snap
  β0 : Nat -> Value
  nx : Nat
abbrev RelB (E : Env) (st : St) (a : Act) (w : World) (β : Nat -> Value) (S : Snap) : Prop := Rel E.w0 E.X E.S0 E.β0 E.nx st a w β S
def Le (n : Nat) (st st' : St) : Prop := ∀ (E : Env) a w β S, E.nx = n -> RelB E st a w β S -> ∃ β' S', RelB E st' a w β' S' /\ Sub S S'
structure Grow (w w' : World) : Prop where
  os : w'.os = w.os
  tape : w'.tape = w.tape
  output : w'.output = w.output
  size : w.heap.size <= w'.heap.size
  same : ∀ b, b < w.heap.size -> w'.heap[b]? = w.heap[b]?
structure Keep (Z : Nat -> Prop) (w w' : World) : Prop where
  size : w.heap.size <= w'.heap.size
  same : ∀ b, b < w.heap.size -> ¬ Z b -> w'.heap[b]? = w.heap[b]?
def IterSpec (P : Program) (f : FuncId) (caps : List SV) (items : List (List SV)) : Prop :=
  Callable P f /\ ∀ (l : Nat) (β : Nat -> Value) (S : Snap) (us : List Value) (w : World) (J : Nat -> (Nat -> Prop) -> World -> Prop) (Jx : World -> Prop) (Z : Nat -> Prop), SReps β S caps us ->
    (∀ i Z w, J i Z w -> (∀ b o, S b = some o -> w.heap[b]? = some o) /\ ∀ b, Z b -> b < w.heap.size) ->
    (∀ i Z w w', J i Z w -> Grow w w' -> J i Z w') -> (∀ w w', Jx w -> Grow w w' -> Jx w') ->
    (∀ i item Z w1 vals S', items[i]? = some item -> J i Z w1 -> Sub S S' -> (∀ b o, S' b = some o -> w1.heap[b]? = some o /\ (S b = none -> w.heap.size <= b /\ ¬ Z b)) -> SReps β S' item vals -> YieldAt Fence.wide 0 P l vals.toArray w1 fun e w2 =>
      (∃ Z', e = .returned (.bool true) /\ J (i + 1) Z' w2 /\ Keep Z w1 w2 /\ ∀ b, Z' b -> Z b \/ w1.heap.size <= b) \/ (e = .returned (.bool false) /\ Jx w2)) ->
    J 0 Z w -> Calls P f (#[.func (.yield l) #[] #[]] ++ us.toArray) w fun e w' => (∃ v, e = .returned v) /\ ((∃ Z', J items.length Z' w') \/ Jx w')
structure QT where
  n : Nat
  q : AE -> St -> Prop
def forget : List SV -> List Nat -> List SV
  | t, [] => t
  | t, i :: is => forget (upd .any t i) is
def setTs : List SV -> List (Nat × SV) -> List SV
  | t, [] => t
  | t, (i, v) :: l => setTs (upd v t i) l
def headSt (st : St) (mods : List Nat) (u : List (Nat × SV)) (own : Own) (next : Nat) : St :=
  ⟨setTs (forget st.t mods) u, own, next⟩
def ExtSpec (P : Program) (f : FuncId) (args : List SV) (own : Own) (res : SV) : Prop :=
  ∀ (w : World) (β : Nat -> Value) (S : Snap) (vals : List Value), SReps β S args vals -> (∀ j b, lookB own j = some b -> BRep β S w j b) -> (∀ i j bi bj x, lookB own i = some bi -> lookB own j = some bj -> blkOf (β i) = some x -> blkOf (β j) = some x -> i = j) -> ∃ v, (callFunc f vals.toArray).run P w = .ok (.value v) w /\ SRep β S res v
def SpecC (P : Program) (f : FuncId) (args : List SV) (H : Own) (n : Nat) (v : SV) (H' : Own) (n' : Nat) : Prop :=
  Callable P f /\ ∀ (w : World) (β : Nat -> Value) (S : Snap) (vals : List Value), SReps β S args vals -> KBs n args -> (∀ j b, lookB H j = some b -> j < n /\ KBb n b) ->
    Mem w (blocksOf H β) S β S H w ->
    Calls P f vals.toArray w fun e w' => ∃ u, e = .returned u /\ ∃ β' S', (∀ j, j < n -> β' j = β j) /\ SRep β' S' v u /\ Mem w (blocksOf H β) S β' S' H' w' /\ n <= n' /\ KB n' v /\ ∀ j b, lookB H' j = some b -> j < n' /\ KBb n' b
inductive Holds (P : Program) (tab : Nat -> TI) (Q : QT) : R -> Prop
  | done {e st} : Q.q e st -> Holds P tab Q (.done e st)
  | prop {p} : p () -> Holds P tab Q (.prop p)
  | need {p k} : p () -> Holds P tab Q k -> Holds P tab Q (.need p k)
  | split {b x y} : (b () = true -> Holds P tab Q x) -> (b () = false -> Holds P tab Q y) -> Holds P tab Q (.split b x y)
  | fork {p x y} : (p () -> Holds P tab Q x) -> Holds P tab Q y -> Holds P tab Q (.fork p x y)
  | row {l i k} (r : List DV) (cs : List SV) : (l ())[(i ()).toNat]? = some r -> r.map DV.toSV = cs -> Holds P tab Q (k cs) -> Holds P tab Q (.row l i k)
  | call {f args own n k} (H : Own) {α : Type} (Pa : α -> Prop) (res : α -> SV) (H' : α -> Own) (n' : Nat) :
      Spec P f args H n Pa res H' -> (∀ j b, lookB H j = some b -> lookB own j = some b) -> n <= n' ->
      (∀ x, Pa x -> KB n' (res x) /\ ∀ j b, lookB (H' x) j = some b -> j < n' /\ KBb n' b) ->
      (∀ x, Pa x -> ∀ j b, lookB (H' x) j = some b -> (lookB H j).isSome \/ n <= j) ->
      (∀ x, Pa x -> Holds P tab Q (k (res x) (H' x ++ delBs own H) n')) -> Holds P tab Q (.call f args own n k)
  | lend {f args own n k} (args' : List SV) {α : Type} (Pa : α -> Prop) (res : α -> SV) :
      lendVs own args = some args' -> Spec P f args' [] n Pa res (fun _ => []) -> (∀ x, (res x).plain = true) ->
      (∀ x, Pa x -> Holds P tab Q (k (res x) own n)) -> Holds P tab Q (.call f args own n k)
  | callC {f args own n k} (v : SV) (own' : Own) (n' : Nat) : SpecC P f args own n v own' n' -> Holds P tab Q (k v own' n') -> Holds P tab Q (.call f args own n k)
  | ext {f args own n k} (res : SV) : ExtSpec P f args own res -> KB n res -> Holds P tab Q (k res own n) -> Holds P tab Q (.call f args own n k)
  | shut {f args own n k} (args' : List SV) {α : Type} (Pa : α -> Prop) (res : α -> SV) (H' : α -> Own) (n' : Nat) :
      lendVs own args = some args' -> Spec P f args' [] n Pa res H' -> n <= n' ->
      (∀ x, Pa x -> KB n' (res x) /\ ∀ j b, lookB (H' x) j = some b -> j < n' /\ KBb n' b /\ n <= j) ->
      (∀ x, Pa x -> Holds P tab Q (k (res x) (H' x ++ delKs own (keysL own args)) n')) -> Holds P tab Q (.call f args own n k)
  | range {f caps ps a b mods st k} (caps' : List SV) (items : List (List SV)) (α : Type) (Pa : α -> Prop) (ix : α -> Nat) (own : α -> Own) (next : Nat) (x0 : α) :
      lendWs st.own caps = some caps' -> IterSpec P f caps' items -> (∀ item ∈ items, item.length = ps.length /\ KBs 0 item) ->
      Pa x0 -> ix x0 = 0 -> Le Q.n ⟨st.t, delKs st.own (keysWs st.own caps), st.next⟩ ⟨forget st.t mods, own x0, next⟩ ->
      (∀ x, Pa x -> ∀ item, items[ix x]? = some item -> Holds P tab Q (roundR tab a b ⟨setTs (forget st.t mods) (ps.zip item), own x, next⟩ fun e st' => match e with
        | .normal => .prop fun _ => ∃ x', Pa x' /\ ix x' = ix x + 1 /\ Le Q.n ⟨forget st'.t mods, st'.own, st'.next⟩ ⟨forget st.t mods, own x', next⟩
        | .exit i => k (.exit i) ⟨forget st'.t mods, st'.own, st'.next⟩
        | .goto i => k (.goto i) ⟨forget st'.t mods, st'.own, st'.next⟩
        | .ret => k .ret ⟨forget st'.t mods, st'.own, st'.next⟩)) ->
      (∀ x, Pa x -> ix x = items.length -> Holds P tab Q (k .normal ⟨forget st.t mods, own x, next⟩)) -> Holds P tab Q (.range (.fn f caps) ps a b mods st k)
  | callD {lent f args k kS} (res : SV) : Spec P f args [] 0 (fun _ : Unit => True) (fun _ => res) (fun _ => []) -> KBs 0 args -> KB 0 res -> (lent = true -> res.plain = true) -> Holds P tab Q (k res) -> Holds P tab Q (.callD lent f args k kS)
  | callDS {lent f args k kS} (res : SV) : Spec P f args [] 0 (fun _ : Unit => True) (fun _ => res) (fun _ => []) -> KBs 0 args -> KB 0 res -> Holds P tab Q (kS res) -> Holds P tab Q (.callD lent f args k kS)
  | loop {c mods st k} (α : Type) (Pa : α -> Prop) (u : α -> List (Nat × SV)) (own : α -> Own) (next : Nat) (μ : α -> Nat) (x0 : α) :
      Pa x0 -> Le Q.n st (headSt st mods (u x0) (own x0) next) ->
      (∀ x, Pa x -> Holds P tab Q (exec tab c (headSt st mods (u x) (own x) next) fun e st' => match e with
        | .normal => .prop fun _ => ∃ x', Pa x' /\ μ x' < μ x /\ Le Q.n st' (headSt st mods (u x') (own x') next)
        | .exit i => k (.exit i) st'
        | .goto i => k (.goto i) st'
        | .ret => k .ret st')) -> Holds P tab Q (.loop c mods st k)
def tdOk (P : Program) : TD -> TypeDesc -> Prop
  | .int k, d => d = .int k
  | .bool, d => d = .bool
  | .str, d => d = .string
  | .sl e, d => d = .slice e
  | .ptr e, d => d = .pointer e
  | .map k e, d => d = .map k e
  | .struct fs, d => ∃ a : Array Field, d = .struct a /\ a.toList.map (fun f => (f.offset, P.cellsOf f.type)) = fs /\ ∀ f ∈ a.toList, (P.info? f.type).isSome = true
  | .other, d => (match d with | .struct _ => false | .array _ _ => false | _ => true) = true
  | .bad, _ => False
def Alike : List Value -> List Value -> Prop
  | [], xs => xs = []
  | .int k _ :: zs, xs => ∃ n r, xs = .int k n :: r /\ Alike zs r
  | .string _ :: zs, xs => ∃ s r, xs = .string s :: r /\ Alike zs r
  | _ :: _, _ => False
def EqSem (P : Program) (T : TypeId) (zs : List Value) : Prop := ∀ (w : World) (xs ys : List Value), Alike zs xs -> Alike zs ys ->
  (∃ b : Bool, (Op.equalIn 10000 T (.agg xs.toArray) (.agg ys.toArray)).run P w = .ok b w /\ (b = true ↔ xs = ys)) /\ ∀ op (x y : Operand), (eqGuard op T x y (.agg xs.toArray) (.agg ys.toArray)).run P w = .ok () w
def tiOk (P : Program) (t : Nat) (i : TI) : Prop :=
  i.d = .bad \/ ∃ info d z, P.info? t = some info /\ P.underlying t = some d /\ info.size = i.size /\ info.bytes = i.bytes /\ info.zero = some z /\ z.cells.toList = i.zero /\ tdOk P i.d d
structure TabOk (P : Program) (tab : Nat -> TI) : Prop where
  ty : ∀ t, tiOk P t (tab t)
  mix : P.follows .mixedOrders = true
  eq : ∀ t, (tab t).eq = true -> EqSem P t (tab t).zero
  nz : ∀ t info z, (tab t).d ≠ .bad -> isAggD (tab t).d = false -> P.info? t = some info -> info.zero = some z -> ∀ cs, z ≠ .agg cs
section
variable {P : Program} {tab : Nat -> TI} {Q : QT} {E : Env} {t : List SV} {own : Own} {n : Nat} {K : SV -> Own -> Nat -> R} {a : Act} {w : World} {β : Nat -> Value} {S : Snap}
theorem SRep_ofValue (v : Value) : SRep β S (ofValue v) v /\ KB n (ofValue v) := by
  unfold ofValue; split <;> simp [SRep, KB]
theorem getD_toList (a : Array Value) (i : Nat) (d : Value) : a.getD i d = a.toList.getD i d := by
  simp [Array.getD, List.getD, Array.getElem?_toList]; by_cases h : i < a.size <;> simp [h]
theorem rdO_sound (o : Operand) (k : SV -> AP) (h : Holds P tab Q (runAP (rdO o k) t own n K)) (r : RelB E ⟨t, own, n⟩ a w β S) :
    ∃ sv, Holds P tab Q (runAP (k sv) t own n K) /\ KB n sv /\ SRep β S sv (a.eval o) := by
  cases o with
  | tmp i =>
    refine ⟨nth .any t i, by simpa [rdO, runAP] using h, KBs_nth i r.kt, ?_⟩
    have := SReps_nth i r.tm; show SRep β S _ (a.tmps.getD i undef); rw [getD_toList]; exact this
  | const v => exact ⟨ofValue v, by simpa [rdO] using h, (SRep_ofValue (β := β) (S := S) v).2, (SRep_ofValue (n := n) v).1⟩
  | global g => exact ⟨_, by simpa [rdO] using h, by simp [KB], by simp [SRep, Act.eval]⟩
  | func f => exact ⟨_, by simpa [rdO] using h, by simp [KB, KBs], by simp [SRep, Act.eval, SReps]⟩
theorem rdOs_sound : ∀ (os : List Operand) (k : List SV -> AP), Holds P tab Q (runAP (rdOs os k) t own n K) -> RelB E ⟨t, own, n⟩ a w β S ->
    ∃ svs, Holds P tab Q (runAP (k svs) t own n K) /\ KBs n svs /\ SReps β S svs (os.map a.eval)
  | [], k, h, _ => ⟨[], by simpa [rdOs] using h, by simp [KBs], by simp [SReps]⟩
  | o :: os, k, h, r => by
    obtain ⟨sv, h1, h2, h3⟩ := rdO_sound o _ (by simpa [rdOs] using h) r
    obtain ⟨svs, g1, g2, g3⟩ := rdOs_sound os _ h1 r; exact ⟨sv :: svs, g1, by rw [KBs]; exact ⟨h2, g2⟩, by rw [List.map_cons, SReps]; exact ⟨_, _, rfl, h3, g3⟩⟩
def Post (P : Program) (tab : Nat -> TI) (Q : QT) (E : Env) (t : List SV) (K : SV -> Own -> Nat -> R) (a : Act) (v' : Value) (w' : World) : Prop :=
  ∃ v own' n' β' S', Holds P tab Q (K v own' n') /\ SRep β' S' v v' /\ KB n' v /\ RelB E ⟨t, own', n'⟩ a w' β' S'
theorem Post.same {v : SV} {v' : Value} (r : RelB E ⟨t, own, n⟩ a w β S) (h : Holds P tab Q (K v own n)) (hs : SRep β S v v') (hk : KB n v) : Post P tab Q E t K a v' w :=
  ⟨v, own, n, β, S, h, hs, hk, r⟩
abbrev Aft (P : Program) (tab : Nat -> TI) (Q : QT) (E : Env) (t : List SV) (K : SV -> Own -> Nat -> R) (o : Oper) (a : Act) : Act -> World -> Prop :=
  fun a' w' => ∃ v', a' = a.put o.dst v' /\ Post P tab Q E t K a v' w'
theorem wp_value {o : Oper} {v' : Value} {w' : World} {QQ : Exit -> Act -> World -> Prop} (hr : (execOp a.eval o).run P w = .ok (.value v') w') (h : Post P tab Q E t K a v' w') :
    o.wp P a w (Aft P tab Q E t K o a) QQ := by
  unfold Oper.wp; rw [hr]; exact ⟨v', rfl, h⟩
theorem wp_skip' {o : Oper} {w' : World} {QQ : Exit -> Act -> World -> Prop} (hr : (execOp a.eval o).run P w = .ok .skip w') (h : Post P tab Q E t K a undef w') :
    o.wp P a w (Aft P tab Q E t K o a) QQ := by
  unfold Oper.wp; rw [hr]; exact ⟨undef, rfl, h⟩
theorem RelB.mem' {own' : Own} {n' : Nat} {β' : Nat -> Value} {S' : Snap} {w' : World} (r : RelB E ⟨t, own, n⟩ a w β S) (hn : n <= n') (hβ : ∀ j, j < n -> β' j = β j) (hS : Sub S S')
    (ko : ∀ j b, lookB own' j = some b -> j < n' /\ KBb n' b) (m : Mem E.w0 E.X E.S0 β' S' own' w') : RelB E ⟨t, own', n'⟩ a w' β' S' :=
  ⟨SReps_congr hS hβ _ _ r.kt r.tm, r.df.mono hS, KBs_mono hn _ r.kt, ko, Nat.le_trans r.ge hn, fun j hj => (hβ j (Nat.lt_of_lt_of_le hj r.ge)).trans (r.old j hj), m⟩
end
end Go.Eng
