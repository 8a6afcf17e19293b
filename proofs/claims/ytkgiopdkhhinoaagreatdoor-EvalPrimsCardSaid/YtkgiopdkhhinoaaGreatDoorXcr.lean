/- The engine: arguments read as deep values; what a contract says of a statement's call. -/
import Derived.Test.YtkgiopdkhhinoaaGreatDoorXc
import Derived.ProofKit
import Derived.ChangeArms
set_option linter.all false
namespace Go.Eng
open Go.ChangeShapes Go.WideShapes Go.ChangeAt Go.RowKit
abbrev snapW (w : World) : Snap := fun b => w.heap[b]?
theorem mem0 (w : World) (β : Nat -> Value) : Mem w (blocksOf [] β) (snapW w) β (snapW w) [] w :=
  ⟨rfl, rfl, rfl, Nat.le_refl _, fun _ _ _ => rfl, Sub.refl _, (fun b o h k => by rw [h] at k; cases k), fun _ _ h => h, (fun j b h => by simp [lookB] at h), (fun i j bi bj x h => by simp [lookB] at h), (fun j b x h => by simp [lookB] at h), (fun j b x h => by simp [lookB] at h)⟩
theorem pure_calls {P : Program} {f : FuncId} {args : List SV} {res : SV} (h : Pure P f args res) (ha : kbVs 0 args = true) {w : World} {vals : List Value} (hv : SReps (fun _ => undef) (snapW w) args vals) :
    Calls P f vals.toArray w fun e w' => ∃ v β S, e = .returned v /\ SRep β S res v /\ Below w.heap.size w w' := by
  refine (h.2 w (fun _ => undef) (snapW w) vals hv (kbVs_sound _ ha) (fun j b h => by simp [lookB] at h) (mem0 w _)).mono ?_
  rintro e w' ⟨v, rfl, x, β, S, _, _, hr, m⟩; refine ⟨v, β, S, rfl, hr, m.os, m.tape, m.output, m.size, fun k hk => m.frame k hk ?_⟩
  rintro ⟨j, b, hj, _⟩; simp [lookB] at hj
section
variable {H : Type} {enc : TypeId × Value -> H} {P : Program} {w : World} {spare : Nat -> Bool} {held : Bool}
theorem rd_int {t : TypeId} {k : IntKind} {n : Nat} {cs : List Value} {x : DataW H × List MemPlace} (ht : P.underlying t = some (.int k)) (h : DataW.trod enc P w 0 spare held n t cs = some x) : ∃ m, cs = [.int k m] /\ (Lit.int k m).wf = true /\ x.1 = .lit (.int k m) := by
  cases n with
  | zero => simp [DataW.trod] at h
  | succ n =>
    unfold DataW.trod at h; rw [ht] at h; split at h <;> try (rename_i e _; cases e; done)
    all_goals try (simp_all; done)
    rename_i k1 k2 m e
    cases e; split at h
    . rename_i hk
      cases h; obtain ⟨rfl, hw⟩ := hk; exact ⟨m, rfl, hw, rfl⟩
    . cases h
def SliceAt (w : World) (k : Nat) (l : List (List Value)) (v : Value) : Prop :=
  (l = [] /\ ∃ a cap, v = .slice a 0 cap /\ (a = none -> cap = 0)) \/
  ∃ b off cap c T fr, v = .slice (some ⟨b, off, none⟩) l.length cap /\ l.length <= cap /\ w.heap[b]? = some (.cells c T fr) /\ (c.toList.drop off).take (l.length * k) = l.flatten /\ ∀ x ∈ l, x.length = k
theorem flat_of (k : Nat) (hk : 0 < k) : ∀ (l : List (List Value)) (xs : List Value), (∀ x ∈ l, x.length = k) -> (∀ (i : Nat) (x : List Value), l[i]? = some x -> ∀ j, j < k -> xs[i * k + j]? = x[j]?) -> xs.take (l.length * k) = l.flatten
  | [], xs, _, _ => by simp
  | a :: l, xs, h, hx => by
    have ha := h a List.mem_cons_self
    have ih := flat_of k hk l (xs.drop k) (fun x hx => h x (List.mem_cons_of_mem _ hx)) (fun i x hi j hj => by
      rw [List.getElem?_drop, show k + (i * k + j) = (i + 1) * k + j by rw [Nat.succ_mul]; omega]
      exact hx (i + 1) x (by simpa using hi) j hj)
    have h0 : xs.take k = a := by
      apply List.ext_getElem?; intro j; by_cases hj : j < k
      . rw [List.getElem?_take, if_pos hj]; have := hx 0 a rfl j hj; simpa using this
      . rw [List.getElem?_eq_none (by simp; omega), List.getElem?_eq_none (by omega)]
    rw [List.flatten_cons, List.length_cons, Nat.succ_mul, Nat.add_comm, List.take_add, h0, ih]
theorem rd_slice {t e : TypeId} {n : Nat} {cs : List Value} {x : DataW H × List MemPlace} (ht : P.underlying t = some (.slice e)) (hk : 0 < P.cellsOf e) (h : DataW.trod enc P w 0 spare held n t cs = some x) :
    ∃ (v : Value) (l : List (List Value)) (ds : List (DataW H)) (m : Nat), cs = [v] /\ n = m + 1 /\ SliceAt w (P.cellsOf e) l v /\ l.length <= maxLen /\ ds.length = l.length /\ ((x.1 = .nil /\ ds = []) \/ ∃ sp, x.1 = .slice ds sp) /\
      ∀ (i : Nat) (c : List Value), l[i]? = some c -> ∃ d p, ds[i]? = some d /\ DataW.trod enc P w 0 spare held m e c = some (d, p) := by
  rcases DataW.trod_slice ht h with ⟨rfl, rfl⟩ | ⟨a, len, cap, elems, rest, m, rfl, rfl, rfl, hb, hl, hm, hlen, hel, hsp, hns⟩
  . cases n with
    | zero => simp [DataW.trod] at h
    | succ m => exact ⟨_, [], [], m, rfl, rfl, .inl ⟨rfl, none, 0, rfl, fun _ => rfl⟩, by simp, rfl, .inl ⟨rfl, rfl⟩, fun i c hi => by simp at hi⟩
  . have hall : ∀ i, i < len -> ∃ cs', w.cells? 0 (a.add (i * P.cellsOf e)) (P.cellsOf e) = some cs' /\ DataW.trod enc P w 0 spare held m e cs' = elems[i]? := by
      intro i hi; have := hel i hi; rw [List.getElem?_eq_getElem (show i < elems.length by omega)] at this
      obtain ⟨cs', h1, h2⟩ := Option.bind_eq_some_iff.1 this; exact ⟨cs', h1, by rw [h2, List.getElem?_eq_getElem]⟩
    obtain ⟨f, hf⟩ : ∃ f : Nat -> List Value, ∀ i, i < len -> w.cells? 0 (a.add (i * P.cellsOf e)) (P.cellsOf e) = some (f i) /\ DataW.trod enc P w 0 spare held m e (f i) = elems[i]? :=
      ⟨fun i => if hi : i < len then (hall i hi).choose else [], fun i hi => by simp only [hi, dif_pos]; exact (hall i hi).choose_spec⟩
    refine ⟨_, (List.range len).map f, elems.map (·.1), m, rfl, rfl, ?_, by simp; omega, by simp [hlen], .inr ⟨_, rfl⟩, ?_⟩
    . by_cases h0 : len = 0
      . subst h0; exact .inl ⟨by simp, some a, cap, rfl, fun h => by cases h⟩
      . obtain ⟨h1, _⟩ := hf 0 (by omega)
        obtain ⟨_, q2, q3⟩ := World.cells?_some h1; have q4 := q3 0 hk; have ea : (a.add (0 * P.cellsOf e)).add 0 = a := by rw [Nat.zero_mul]; rfl
        rw [ea] at q4; have q5 : (f 0)[0]? = some (f 0)[0] := List.getElem?_eq_getElem (by omega)
        rw [q5] at q4
        have hsp0 : ∃ c T fr, w.heap[a.block]? = some (.cells c T fr) /\ a.spot = none := by
          unfold World.cell? at q4; split at q4
          . rename_i c T fr hc
            split at q4
            . cases q4
            . rename_i hs
              refine ⟨c, T, fr, hc, ?_⟩; simpa using hs
          . cases q4
        obtain ⟨c, T, fr, hc, hs⟩ := hsp0; obtain ⟨ab, ao, asp⟩ := a; simp only at hs hc; subst hs; refine .inr ⟨ab, ao, cap, c, T, fr, by simp, by simpa using hl, hc, ?_, ?_⟩
        . refine flat_of _ hk _ _ (fun x hx => ?_) fun i x hi j hj => ?_
          . obtain ⟨i, hi, rfl⟩ := List.mem_map.1 hx; obtain ⟨h1, _⟩ := hf i (List.mem_range.1 hi); exact (World.cells?_some h1).2.1
          . rw [List.getElem?_map] at hi; by_cases hil : i < len
            . rw [List.getElem?_range hil] at hi; simp at hi; subst hi; obtain ⟨h1, _⟩ := hf i hil; have := (World.cells?_some h1).2.2 j hj; rw [<- this]; rw [Addr.add_mid, Addr.add_mid]; unfold World.cell?; simp only [hc]; simp [Nat.add_assoc]
            . rw [List.getElem?_eq_none (by simpa using hil)] at hi
              cases hi
        . intro x hx; obtain ⟨i, hi, rfl⟩ := List.mem_map.1 hx; obtain ⟨h1, _⟩ := hf i (List.mem_range.1 hi); exact (World.cells?_some h1).2.1
    . intro i c hi; rw [List.getElem?_map] at hi; by_cases hil : i < len
      . rw [List.getElem?_range hil] at hi; simp at hi; subst hi; obtain ⟨_, h2⟩ := hf i hil; have hx := List.getElem?_eq_getElem (show i < elems.length by omega)
        rw [hx] at h2; exact ⟨_, _, by rw [List.getElem?_map, hx]; rfl, h2⟩
      . rw [List.getElem?_eq_none (by simpa using hil)] at hi
        cases hi
inductive RowsAre (S : Snap) : List (List DV) -> List (List Value) -> Prop
  | nil : RowsAre S [] []
  | cons {r c rs l} : DCells S r c -> RowsAre S rs l -> RowsAre S (r :: rs) (c :: l)
theorem RowsAre.length {S : Snap} {rs : List (List DV)} {l : List (List Value)} (h : RowsAre S rs l) : rs.length = l.length := by
  induction h with
  | nil => rfl
  | cons _ _ ih => simp [ih]
theorem RowsAre.rows {S : Snap} {k : Nat} {rs : List (List DV)} {l : List (List Value)} (h : RowsAre S rs l) (hk : ∀ x ∈ l, x.length = k) : DRows S k rs l.flatten := by
  induction h with
  | nil => rw [DRows]; rfl
  | cons h1 _ ih =>
    rw [DRows]; refine ⟨_, _, List.flatten_cons, ?_, h1, ih fun x hx => hk x (List.mem_cons_of_mem _ hx)⟩
    rw [<- hk _ List.mem_cons_self, DCells_length h1]
theorem SliceAt.rep {k : Nat} {rs : List (List DV)} {l : List (List Value)} {v : Value} (h : SliceAt w k l v) (hr : RowsAre (snapW w) rs l) : DRep (snapW w) (.sl k rs) v := by
  rw [DRep]; rcases h with ⟨rfl, h⟩ | ⟨b, off, cap, c, T, fr, h1, h2, h3, h4, h5⟩
  . cases hr; exact .inl ⟨rfl, h⟩
  . refine .inr ⟨b, off, cap, c, T, fr, by rw [hr.length]; exact h1, by rw [hr.length]; exact h2, h3, ?_⟩
    rw [hr.length, h4]; exact hr.rows h5
theorem rd_rows {α : Type} {row : α -> List DV} {G : α -> DataW H -> Prop} {t e : TypeId} {n : Nat} {cs : List Value} {x : DataW H × List MemPlace} (ht : P.underlying t = some (.slice e)) (hk : 0 < P.cellsOf e)
    (h : DataW.trod enc P w 0 spare held n t cs = some x) (he : ∀ m c d p, m < n -> DataW.trod enc P w 0 spare held m e c = some (d, p) -> ∃ a, DCells (snapW w) (row a) c /\ G a d) :
    ∃ (v : Value) (l : List α) (ds : List (DataW H)), cs = [v] /\ DRep (snapW w) (.sl (P.cellsOf e) (l.map row)) v /\ l.length <= maxLen /\ ds.length = l.length /\ ((x.1 = .nil /\ ds = []) \/ ∃ sp, x.1 = .slice ds sp) /\ ∀ (i : Nat) (a : α) (d : DataW H), l[i]? = some a -> ds[i]? = some d -> G a d := by
  obtain ⟨v, l, ds, m, h1, h2, h3, h4, h5, h6, h7⟩ := rd_slice ht hk h
  have go : ∀ (l : List (List Value)) (ds : List (DataW H)), ds.length = l.length -> (∀ (i : Nat) (c : List Value), l[i]? = some c -> ∃ d p, ds[i]? = some d /\ DataW.trod enc P w 0 spare held m e c = some (d, p)) ->
      ∃ as : List α, as.length = l.length /\ RowsAre (snapW w) (as.map row) l /\ ∀ (i : Nat) (a : α) (d : DataW H), as[i]? = some a -> ds[i]? = some d -> G a d := by
    intro l
    induction l with
    | nil => intro ds _ _; exact ⟨[], rfl, .nil, fun i a d h => by simp at h⟩
    | cons c l ih =>
      intro ds hl hx
      cases ds with
      | nil => simp at hl
      | cons d ds =>
        obtain ⟨as, q1, q2, q3⟩ := ih ds (by simpa using hl) fun i c hi => hx (i + 1) c (by simpa using hi)
        obtain ⟨d', p, e1, e2⟩ := hx 0 c rfl; simp at e1; subst e1; obtain ⟨a, r1, r2⟩ := he m c d p (by omega) e2
        refine ⟨a :: as, by simp [q1], .cons r1 q2, fun i b d' hb hd => ?_⟩
        cases i with
        | zero => simp at hb hd; subst hb hd; exact r2
        | succ i => exact q3 i b d' (by simpa using hb) (by simpa using hd)
  obtain ⟨as, q1, q2, q3⟩ := go l ds h5 h7; exact ⟨v, as, ds, h1, h3.rep q2, by omega, by omega, h6, q3⟩
end
end Go.Eng
