/- The engine, part 8: the executor is sound; contracts out of it. The engine, part 9: one state covers another: a check that is computed. The engine, part A: the table of types of a program. The engine, part B: the form in which contracts are proved (the program and what is to come out stand behind a binder: 'cbv' leaves them alone). The engine, part D: contracts over own memory, under other keys. The engine: a call by a contract over own memory that is kept under its keys. -/
import Derived.Test.YtkgiopdkhhinoaaGreatDoorXbb
import Derived.Deep.LoopGhost
import Derived.KernelRfl
set_option linter.all false
namespace Go.Eng
open Go.RowKit
section
variable {P : Program} {tab : Nat -> TI} {Q : QT} {E : Env} {a : Act} {w : World} {β : Nat -> Value} {S : Snap} {QQ : Exit -> Act -> World -> Prop}
theorem splitT_sound {t : List SV} {own : Own} {n : Nat} (o : Operand) (k : Bool -> List SV -> R) (h : Holds P tab Q (splitT t o k)) (r : RelB E ⟨t, own, n⟩ a w β S) :
    ∃ b t', a.eval o = .bool b /\ Holds P tab Q (k b t') /\ RelB E ⟨t', own, n⟩ a w β S := by
  cases o with
  | tmp i =>
    simp only [splitT] at h; have hi := SReps_nth i r.tm; have he : a.eval (.tmp i) = a.tmps.toList.getD i undef := getD_toList a.tmps i undef; generalize hv : nth .any t i = v at h hi
    cases v with
    | bool b => rw [SRep] at hi; exact ⟨b, t, by rw [he, hi], h, r⟩
    | bs f =>
      rw [SRep] at hi
      have upd' : ∀ b, f () = b -> RelB E ⟨upd (.bool b) t i, own, n⟩ a w β S := fun b hb =>
        ⟨SReps_upd_same i r.tm (by rw [SRep, hi, hb]), r.df, KBs_upd (by simp [KB]) i r.kt, r.ko, r.ge, r.old, r.mem⟩
      cases h with
      | split ha hb =>
        cases hf : f () with
        | true => exact ⟨true, _, by rw [he, hi, hf], ha hf, upd' true hf⟩
        | false => exact ⟨false, _, by rw [he, hi, hf], hb hf, upd' false hf⟩
    | _ => exact (not_stuck h).elim
  | const v =>
    cases v with
    | bool b => exact ⟨b, t, rfl, h, r⟩
    | _ => exact (not_stuck (by simpa [splitT] using h)).elim
  | global g => exact (not_stuck (by simpa [splitT] using h)).elim
  | func f => exact (not_stuck (by simpa [splitT] using h)).elim
theorem execOps_sound (ht : TabOk P tab) {W : List Nat} {a0 : Act} {ro : Option Nat} {nn : Nat} {ops : Array Oper} {rest : List Oper} : ∀ (os : List Oper) (st : St) (k : St -> R) (a : Act) (w : World) (β : Nat -> Value) (S : Snap), (∀ o ∈ os, ∀ d, o.dst = some d -> d ∈ W) -> Same W a0 a -> Holds P tab Q (execOps tab ops.toList os st k) -> RelB E st a w β S ->
    (∀ st' a' w' β' S', Holds P tab Q (k st') -> RelB E st' a' w' β' S' -> Same W a0 a' -> wpListIn (FW ro) nn P ops QQ rest a' w') -> wpListIn (FW ro) nn P ops QQ (os ++ rest) a w
  | [], st, k, a, w, β, S, hW, hs, h, r, hq => hq st a w β S (by simpa [execOps] using h) r hs
  | o :: os, st, k, a, w, β, S, hW, hs, h, r, hq => by
    have hdW : ∀ d, o.dst = some d -> d ∈ W := fun d hd => hW o (by simp) d hd
    have hW' : ∀ o ∈ os, ∀ d, o.dst = some d -> d ∈ W := fun o ho d hd => hW o (by simp [ho]) d hd
    have go : ∀ t, RelB E ⟨t, st.own, st.next⟩ a w β S -> Holds P tab Q (runAP (opProg tab o) t st.own st.next fun v own n => execOps tab ops.toList os ⟨setT t o.dst v, own, n⟩ k) -> o.wpIn (FW ro) nn P a w (wpListIn (FW ro) nn P ops QQ (os ++ rest)) QQ := by
      intro t rt hh; have hnd : ∀ c, o.op ≠ .defer c := fun c hc => by rw [opProg_defer hc, runAP] at hh; exact not_stuck hh
      refine oper_in hnd (Oper.wp_mono ?_ (op_sound ht o β S hh rt)); rintro a' w' ⟨v', rfl, v, own', n', β', S', e1, e2, e3, e4⟩; exact execOps_sound ht os _ k _ w' β' S' hW' (hs.put _ _ hdW) e1 (e4.put e2 e3 o.dst) hq
    rw [List.cons_append, wpListIn]; rw [execOps] at h
    cases hg : o.guard with
    | none =>
      rw [hg] at h; rw [if_pos (by simp [Region.wanted, hg])]
      exact go st.t r h
    | some jw =>
      obtain ⟨j, want⟩ := jw; rw [hg] at h; simp only at h
      cases hj : ops.toList[j]? with
      | none => rw [hj] at h; exact (not_stuck h).elim
      | some g =>
        rw [hj] at h; simp only at h
        cases hd : g.dst with
        | none => rw [hd] at h; exact (not_stuck h).elim
        | some d =>
          rw [hd] at h; simp only at h
          have skip : ∀ t', Region.wanted o (yielded ops a.tmps) = false -> RelB E ⟨t', st.own, st.next⟩ a w β S -> Holds P tab Q (execOps tab ops.toList os ⟨setT t' o.dst (.raw undef), st.own, st.next⟩ k) ->
              if Region.wanted o (yielded ops a.tmps) then o.wpIn (FW ro) nn P a w (wpListIn (FW ro) nn P ops QQ (os ++ rest)) QQ else (∀ f, o.about P w a.eval = some f -> (FW ro).fn f) /\ wpListIn (FW ro) nn P ops QQ (os ++ rest) (a.put o.dst undef) w := by
            intro t' hn rt hh; rw [hn]; exact ⟨fun _ _ => trivial, execOps_sound ht os _ k _ w β S hW' (hs.put _ _ hdW) hh (rt.put (by simp [SRep]) (by simp [KB]) o.dst) hq⟩
          unfold guardT at h; split at h
          . rename_i v hv
            have hx := SReps_nth d r.tm; rw [hv, SRep] at hx; split at h
            . exact (not_stuck h).elim
            . rename_i hnb
              refine skip st.t ?_ r h; have hy : yielded ops a.tmps j = none := yielded_none hj hd (fun b e => hnb b (by rw [<- hx]; exact e))
              simp [Region.wanted, hg, hy]
          . obtain ⟨b, t', e1, e2, e3⟩ := splitT_sound _ _ h r; have hy : yielded ops a.tmps j = some b := yielded_of hj hd (by rw [<- e1]; exact (getD_toList a.tmps d undef).symm)
            cases hb : b == want with
            | true =>
              rw [hb] at e2; rw [if_pos (by simp [Region.wanted, hg, hy]; simpa using hb)]
              exact go t' e3 e2
            | false =>
              rw [hb] at e2; exact skip t' (by simp [Region.wanted, hg, hy]; simpa using hb) e3 e2
def AE.toExit : AE -> Exit
  | .normal => .normal
  | .exit i => .exit i
  | .goto l => .goto l
  | .ret => .ret
def RoOK (E : Env) (ro : Option Nat) : Prop := ∀ l, ro = some l -> (∃ rec, E.w0.heap[l]? = some (.loop rec)) /\ ¬ E.X l
def CodeOK (P : Program) (tab : Nat -> TI) (Q : QT) (c : Code) : Prop :=
  ∀ (E : Env) (ro : Option Nat) (nn : Nat) (W : List Nat) (a0 : Act) (st : St) (k : AE -> St -> R) (QQ : Exit -> Act -> World -> Prop) (a : Act) (w : World) (β : Nat -> Value) (S : Snap), E.nx = Q.n -> RoOK E ro -> (∀ d ∈ writes c, d ∈ W) -> Same W a0 a ->
    Holds P tab Q (exec tab c st k) -> RelB E st a w β S -> (∀ e st' a' w' β' S', Holds P tab Q (k e st') -> RelB E st' a' w' β' S' -> Same W a0 a' -> QQ e.toExit a' w') -> c.wpIn (FW ro) nn P QQ a w
theorem wpIn_loop_least {F : Fence} {nn : Nat} {c : Code} (I : Nat -> Act -> World -> Prop) (n₀ : Nat) (h₀ : I n₀ a w)
    (round : ∀ n a w, I n a w -> c.wpIn F nn P (Exit.then (fun a' w' => ∃ n', n' < n /\ I n' a' w') QQ) a w) : (Code.loop c).wpIn F nn P QQ a w := by
  refine wpIn_loop (fun a w => ∃ n, I n a w) (fun a w => leastOf (fun n => I n a w)) ⟨n₀, h₀⟩ ?_
  intro a w hI; refine wpIn_mono (round _ a w (leastOf_spec hI).1) ?_; intro e a' w' hq
  cases e with
  | normal =>
    obtain ⟨n', hlt, hI'⟩ := hq; exact show (∃ n, I n a' w') /\ leastOf (fun n => I n a' w') < leastOf (fun n => I n a w) from ⟨⟨n', hI'⟩, Nat.lt_of_le_of_lt ((leastOf_spec ⟨n', hI'⟩).2 n' hI') hlt⟩
  | exit id => exact hq
  | goto l => exact hq
  | ret => exact hq
  | panic ch => exact hq
  | outgrown => exact hq
theorem lendS_none {w : World} {S : Snap} {own : Own} {β : Nat -> Value} {ks : List Nat} {x : Nat} (h : S x = none) (ho : ∀ j b, lookB own j = some b -> blkOf (β j) ≠ some x) : lendS w S own β ks x = none := by
  unfold lendS; rw [h]; simp only; rw [if_neg]; intro ha; obtain ⟨j, _, h2⟩ := List.any_eq_true.1 ha; rw [Bool.and_eq_true] at h2; obtain ⟨b, hb⟩ := Option.isSome_iff_exists.1 h2.1; exact ho j b hb (by simpa using h2.2)
theorem range_turn {t1 t2 t2' t3 : List SV} {own1 own2 own3 : Own} {n1 n2 n3 l : Nat} {a2 : Act} {w1 w1' w2 : World} {β1 β2 : Nat -> Value} {S1 S2 : Snap} (hE : E.nx = Q.n)
    (r1 : RelB E ⟨t1, own1, n1⟩ a w1 β1 S1) (r2 : RelB (baseE E w1' own1 β1 S1) ⟨t2, own2, n2⟩ a2 w2 β2 S2)
    (hs : w1'.heap.size = w1.heap.size) (hos : w1'.os = w1.os) (htp : w1'.tape = w1.tape) (hou : w1'.output = w1.output) (hb : ∀ b, b < E.w0.heap.size -> w1'.heap[b]? = w1.heap[b]?)
    (ht : SReps β2 S2 t2' a.tmps.toList) (hk : KBs n2 t2') (hle : Le Q.n ⟨t2', own2, n2⟩ ⟨t3, own3, n3⟩) (hl : l < w1.heap.size) (hSl : S1 l = none) (hol : ¬ blocksOf own1 β1 l) :
    ∃ β3 S3, RelB E ⟨t3, own3, n3⟩ a w2 β3 S3 /\ Sub S1 S3 /\ S3 l = none /\ ¬ blocksOf own3 β3 l /\ ∀ b, blocksOf own3 β3 b -> blocksOf own1 β1 b \/ w1.heap.size <= b := by
  have r2' : RelB (baseE E w1' own1 β1 S1) ⟨t2', own2, n2⟩ { tmps := a.tmps, defers := [] } w2 β2 S2 := ⟨ht, trivial, hk, r2.ko, r2.ge, r2.old, r2.mem⟩; obtain ⟨β3, S3, r3, s3⟩ := hle (baseE E w1' own1 β1 S1) _ w2 β2 S2 hE r2'; have r4 := r1.back r3 hs hos htp hou hb (t3 := t3) r3.tm r3.kt; obtain ⟨f1, f2, _⟩ := r3.free (l := l) hSl hol (by show l < w1'.heap.size; omega)
  refine ⟨β3, S3, r4, r3.mem.sub, f1, fun ⟨j, b, h1, h2⟩ => f2 j b h1 h2, ?_⟩
  rintro b ⟨j, bk, h1, h2⟩; rcases r3.mem.mine j bk b h1 h2 with h | h
  . exact .inl h
  . have h : w1'.heap.size <= b := h; exact .inr (by omega)
def jumpOf : AE -> Option Code
  | .normal => none
  | .exit i => some (.exit i)
  | .goto i => some (.goto i)
  | .ret => some .ret
theorem enter_sound {st : St} {ro : Option Nat} (hro : RoOK E ro) (r : RelB E st a w β S) (fn : FuncId) (ps : Array Tmp) (x y : Code) :
    ∃ (l : Nat) (mark : List Deferred) (w₁ : World) (D : Nat) (S1 : Snap), (Instr.enterLoop fn a.tmps ps x y ro).run P w = .ok (l, mark) w₁ /\
      w₁.heap[l]? = some (.loop { state := .ready, pending := none, fn, tmps := a.tmps, params := ps, assign := x, body := y, defers := D }) /\ w.heap.size <= l /\ Sub S S1 /\ S1 l = none /\ RelB E st { a with defers := mark ++ a.defers } w₁ β S1 := by
  obtain ⟨hS, hO⟩ := r.lt
  have hSn : ∀ b, w.heap.size <= b -> S b = none := fun b hb => by
    cases h : S b with
    | none => rfl
    | some o => have := hS b o h; omega
  cases ro with
  | none =>
    let w1 := (w.alloc (.deferred (some []))).alloc (.loop { state := .ready, pending := none, fn, tmps := a.tmps, params := ps, assign := x, body := y, defers := w.heap.size })
    have hK1 : w1.heap[w.heap.size]? = some (.deferred (some [])) := (Below.heap_alloc _ _ _ (by simp)).trans (World.alloc_heap_new w _)
    have hL1 : w1.heap[w.heap.size + 1]? = some (.loop { state := .ready, pending := none, fn, tmps := a.tmps, params := ps, assign := x, body := y, defers := w.heap.size }) := by
      have := World.alloc_heap_new (w.alloc (.deferred (some []))) (.loop { state := .ready, pending := none, fn, tmps := a.tmps, params := ps, assign := x, body := y, defers := w.heap.size }); rwa [World.size_alloc] at this
    have rg : RelB E st a w1 β S := r.grow ((Grow.alloc _ _).trans (Grow.alloc _ _))
    obtain ⟨S1, s1, s2, s3⟩ := rg.mark hK1 (hSn _ (Nat.le_refl _)) (fun j b h1 h2 => by have := hO j b _ h1 h2; omega) r.mem.size (by
      cases h : E.S0 w.heap.size with
      | none => rfl
      | some o => have := hSn _ (Nat.le_refl _); rw [r.mem.sub _ _ h] at this; cases this)
    exact ⟨w.heap.size + 1, _, w1, w.heap.size, S1, run_enterLoop_outer _ _ _ _ _, hL1, by omega, s1, by rw [s2 _ (by omega)]; exact hSn _ (by omega), s3⟩
  | some l0 =>
    obtain ⟨⟨rec, h0⟩, hX⟩ := hro l0 rfl; have h1 : w.heap[l0]? = some (.loop rec) := (r.mem.frame l0 (Array.getElem?_eq_some_iff.1 h0).1 hX).trans h0; refine ⟨w.heap.size, [], _, rec.defers, S, run_enterLoop_inner h1 _ _ _ _ _, World.alloc_heap_new w _, Nat.le_refl _, Sub.refl S, hSn _ (Nat.le_refl _), ?_⟩; exact r.grow (Grow.alloc _ _)
theorem range_sound (ht : TabOk P tab) {ro : Option Nat} {nn : Nat} {W : List Nat} {a0 : Act} {i : Nat} {ps : Array Tmp} {x y : Code} {st : St} {k : AE -> St -> R} (okX : CodeOK P tab Q x) (okY : CodeOK P tab Q y) (hE : E.nx = Q.n) (hro : RoOK E ro) (hW : 999999 ∈ W) (hs : Same W a0 a)
    (h : Holds P tab Q (.range (nth .any st.t i) ps.toList x y (ps.toList ++ (writes x ++ writes y)) st k)) (r : RelB E st a w β S) (hq : ∀ e st' a' w' β' S', Holds P tab Q (k e st') -> RelB E st' a' w' β' S' -> Same W a0 a' -> QQ e.toExit a' w') :
    (Code.rangeFunc (.tmp i) ps x y).wpIn (FW ro) nn P QQ a w := by
  have hi := SReps_nth i r.tm; have hkg := KBs_nth i r.kt; generalize nth .any st.t i = g at h hi hkg; obtain ⟨mods, hmods⟩ : ∃ m, ps.toList ++ (writes x ++ writes y) = m := ⟨_, rfl⟩; rw [hmods] at h
  cases h with
  | range caps' items α Pa ix own next x0 hl hI hitems hx0 hix0 hle hround hend =>
  rename_i f caps
  rw [SRep] at hi; rw [KB] at hkg; obtain ⟨cs, ev, hcs⟩ := hi; have heval : a.eval (.tmp i) = .func (.func f) #[] cs := (getD_toList a.tmps i undef).trans ev; refine wpIn_rangeFunc fun fn _ => ?_
  obtain ⟨l, mark, w₁, D, S1, hen, hrec1, hlw, hs1, hS1l, r1⟩ := enter_sound (P := P) hro r fn ps x y; obtain ⟨rec, hrec⟩ : ∃ rec : LoopState -> Option Code -> Loop, rec = fun s p => { state := s, pending := p, fn, tmps := a.tmps, params := ps, assign := x, body := y, defers := D } := ⟨_, rfl⟩
  have hrec1 : w₁.heap[l]? = some (.loop (rec .ready none)) := by rw [hrec]; exact hrec1
  obtain ⟨a', ha'⟩ : ∃ a' : Act, { a with defers := mark ++ a.defers } = a' := ⟨_, rfl⟩
  have hat : a'.tmps = a.tmps := by rw [<- ha']
  have hsa : Same W a0 a' := ⟨by rw [hat]; exact hs.sz, fun h => absurd hW h, by rw [hat]; exact hs.tm⟩
  rw [ha'] at r1; have hE0 : E.w0.heap.size <= l := Nat.le_trans r.mem.size hlw; have hol1 : ∀ j b, lookB st.own j = some b -> blkOf (β j) ≠ some l := fun j b h1 h2 => by have := r.lt.2 j b l h1 h2; omega
  obtain ⟨c1, c2⟩ := lendWs_sound (n := st.next) (ks := keysWs st.own caps) r1.mem r1.ko caps caps' cs.toList hl (SReps_congr hs1 (n := st.next) (fun _ _ => rfl) _ _ hkg hcs) hkg (fun _ h => h)
  obtain ⟨S2, hS2⟩ : ∃ S2, lendS w₁ S1 st.own β (keysWs st.own caps) = S2 := ⟨_, rfl⟩; have hS2l : S2 l = none := by rw [<- hS2]; exact lendS_none hS1l hol1
  have hko' : ∀ j b, lookB (delKs st.own (keysWs st.own caps)) j = some b -> lookB st.own j = some b := by
    intro j b h; rw [lookB_delKs] at h; split at h
    . cases h
    . exact h
  have r2 : RelB E ⟨st.t, delKs st.own (keysWs st.own caps), st.next⟩ a' w₁ β S2 := by
    rw [<- hS2]; exact r1.mem' (Nat.le_refl _) (fun _ _ => rfl) lendS_sub (fun j b h => r1.ko j b (hko' j b h)) (r1.mem.shutK r1.ko)
  rw [hS2] at c1; have hlw1 : l < w₁.heap.size := (Array.getElem?_eq_some_iff.1 hrec1).1; obtain ⟨β0, S0, q1, q2, q3, q4, q5⟩ := range_turn (l := l) hE r2 r2.base rfl rfl rfl rfl (fun _ _ => rfl) r2.tm r2.kt hle hlw1 hS2l (fun ⟨j, b, h1, h2⟩ => hol1 j b (hko' j b h1) h2)
  let J : Nat -> (Nat -> Prop) -> World -> Prop := fun m Z w => ∃ x β S, Pa x /\ ix x = m /\ RelB E ⟨forget st.t mods, own x, next⟩ a' w β S /\ Sub S2 S /\ S l = none /\ ¬ blocksOf (own x) β l /\ (∀ b, Z b ↔ b = l \/ blocksOf (own x) β b) /\ w.heap[l]? = some (.loop (rec .ready none))
  let Jx : World -> Prop := fun w => ∃ e st' c β S, jumpOf e = some c /\ Holds P tab Q (k e st') /\ RelB E st' a' w β S /\ S l = none /\ ¬ blocksOf st'.own β l /\ w.heap[l]? = some (.loop (rec .done (some c)))
  obtain ⟨fnI, i1, i2, i3⟩ := hI.1; have hcall := hI.2 l β S2 cs.toList w₁ J Jx (fun b => b = l \/ blocksOf (own x0) β0 b) c1 ?fact ?grow ?growx ?round ⟨x0, β0, S0, hx0, hix0, q1, q2, q3, q4, fun _ => Iff.rfl, hrec1⟩
  case fact =>
    rintro m Z w ⟨x, β, S, hx, hm, rx, hsub, _, _, hZ, hr⟩; refine ⟨fun b o h => rx.mem.sat b o (hsub b o h), fun b hb => ?_⟩
    rcases (hZ b).1 hb with rfl | ⟨j, bk, h1, h2⟩
    . exact (Array.getElem?_eq_some_iff.1 hr).1
    . exact rx.lt.2 j bk b h1 h2
  case grow =>
    rintro m Z w w' ⟨x, β, S, hx, hm, rx, hsub, h1, h2, hZ, hr⟩ hg; exact ⟨x, β, S, hx, hm, rx.grow hg, hsub, h1, h2, hZ, (hg.same l (Array.getElem?_eq_some_iff.1 hr).1).trans hr⟩
  case growx =>
    rintro w w' ⟨e, st', c, β, S, h1, h2, h3, h4, h5, h6⟩ hg; exact ⟨e, st', c, β, S, h1, h2, h3.grow hg, h4, h5, (hg.same l (Array.getElem?_eq_some_iff.1 h6).1).trans h6⟩
  case round =>
    rintro m item Z w1 vals Sx hit ⟨z, β1, S0', hz, hm, rx0, hsub0, hSl0, hol, hZ, hr⟩ hsx hsat hvals; subst hm; obtain ⟨S1', hS1'⟩ : ∃ S1', orS S0' Sx = S1' := ⟨_, rfl⟩; have hinv : ∀ b o, S1' b = some o -> S0' b = some o \/ S0' b = none /\ Sx b = some o := fun b o h => by rw [<- hS1'] at h; exact orS_inv h
    have hxn : ∀ b o, Sx b = some o -> S0' b = none -> w₁.heap.size <= b /\ ¬ Z b := fun b o h h0 => (hsat b o h).2 (by
      cases h2 : S2 b with
      | none => rfl
      | some o' => rw [hsub0 b o' h2] at h0; cases h0)
    have rx : RelB E ⟨forget st.t mods, own z, next⟩ a' w1 β1 S1' := by
      refine rx0.more (by rw [<- hS1']; exact orS_left) (fun b o h => ?_) (fun b o h h0 => ?_)
      . rcases hinv b o h with h | ⟨_, h⟩
        . exact rx0.mem.sat b o h
        . exact (hsat b o h).1
      . rcases hinv b o h with h | ⟨_, h⟩
        . rw [h0] at h; cases h
        . obtain ⟨g1, g2⟩ := hxn b o h h0; exact ⟨by have := q1.mem.size; omega, fun j bk hj hx => g2 ((hZ b).2 (.inr ⟨j, bk, hj, hx⟩))⟩
    have hSl : S1' l = none := by
      cases h : S1' l with
      | none => rfl
      | some o =>
        rcases hinv l o h with h | ⟨_, h⟩
        . rw [hSl0] at h; cases h
        . exact absurd ((hZ l).2 (.inl rfl)) (hxn l o h hSl0).2
    have hsub : Sub S2 S1' := hsub0.trans (by rw [<- hS1']; exact orS_left)
    have hsubx : Sub Sx S1' := by rw [<- hS1']; exact orS_right rx0.mem.sat (fun b o h => (hsat b o h).1)
    obtain ⟨hlen, hkit⟩ := hitems item (List.mem_of_getElem? hit); have hlv := SReps_length hvals; have hlw2 : l < w1.heap.size := (Array.getElem?_eq_some_iff.1 hr).1; have hy := run_yield (P := P) (args := vals.toArray) hr (by rw [hrec]; simp [hlv, hlen])
    rw [hrec] at hy; obtain ⟨am, ham⟩ : ∃ am : Act, am = { tmps := (ps.zip vals.toArray).foldl (fun tmps (t, a) => tmps.setIfInBounds t a) a.tmps, defers := [] } := ⟨_, rfl⟩
    have hpl := params_list ps vals a.tmps; obtain ⟨fs1, fs2⟩ := foldl_set (ps.toList.zip vals) a.tmps.toList; have hamt : am.tmps.toList = (ps.toList.zip vals).foldl (fun l (i, x) => l.set i x) a.tmps.toList := by rw [ham]; exact hpl
    have hrep : SReps β1 S1' item vals := SReps_congr hsubx (n := 0) (fun j hj => absurd hj (Nat.not_lt_zero j)) _ _ hkit hvals
    have rb : RelB (baseE E w1 (own z) β1 S1') ⟨setTs (forget st.t mods) (ps.toList.zip item), own z, next⟩ am w1 β1 S1' := by
      refine ⟨?_, by rw [ham]; trivial, KBs_setTs _ _ _ (KBs_mono (Nat.zero_le _) _ hkit) rx.kt, rx.ko, rx.ge, fun _ _ => rfl, rx.mem.sub' (fun _ _ h => h)⟩
      rw [hamt]; refine SReps_setTs _ _ _ _ _ hrep ?_; have := rx.tm; rw [hat] at this; exact this
    have hroB : RoOK (baseE E w1 (own z) β1 S1') (some l) := fun l' e => by cases e; exact ⟨⟨_, hr⟩, hol⟩
    have hrnd := hround z hz item hit; unfold roundR at hrnd; refine ⟨fn, _, x, y, hy, roundIn_of_wpIn (F := Fence.wide) trivial ?_⟩; rw [<- ham]; refine okX (baseE E w1 (own z) β1 S1') (some l) 0 mods am _ _ _ am w1 β1 S1' hE hroB (fun d hd => by rw [<- hmods]; simp [hd]) (Same.refl _ _) hrnd rb ?_
    intro e st1 a1 w2 β2 S2' h1 r1' hsm1
    cases e with
    | exit _ => exact (not_stuck h1).elim
    | goto _ => exact (not_stuck h1).elim
    | ret => exact (not_stuck h1).elim
    | normal =>
    obtain ⟨f1, f2, f3⟩ := r1'.free (l := l) hSl hol hlw2; have f3 : w2.heap[l]? = some (.loop (rec .ready none)) := f3.trans hr; refine ⟨_, run_beginRound f3 (by rw [hrec]), ?_⟩
    obtain ⟨ob, hob⟩ : ∃ ob : Obj, ob = .loop { rec .ready none with state := .busy } := ⟨_, rfl⟩
    rw [<- hob]; have r2' : RelB (baseE E (w1.putObj l ob) (own z) β1 S1') st1 a1 (w2.putObj l ob) β2 S2' := r1'.poke0 ob hSl hol hlw2; have hl3 : (w1.putObj l ob).heap[l]? = some ob := World.putObj_heap_same hlw2; have hroB2 : RoOK (baseE E (w1.putObj l ob) (own z) β1 S1') (some l) := fun l' e => by cases e; exact ⟨⟨_, by rw [<- hob]; exact hl3⟩, hol⟩
    refine okY (baseE E (w1.putObj l ob) (own z) β1 S1') (some l) 0 mods am st1 _ _ a1 _ β2 S2' hE hroB2 (fun d hd => by rw [<- hmods]; simp [hd]) hsm1 h1 r2' ?_
    intro e st2 a2 w3 β3 S3 h2 r3 hsm2; obtain ⟨g1, g2, g3⟩ := r3.free (l := l) hSl hol (by show l < (w1.putObj l ob).heap.size; simpa using hlw2)
    have g3 : w3.heap[l]? = some (.loop { rec .ready none with state := .busy }) := by rw [<- hob]; exact g3.trans hl3
    have hlw3 : l < w3.heap.size := (Array.getElem?_eq_some_iff.1 g3).1
    have hfor : SReps β3 S3 (forget st2.t mods) a'.tmps.toList := by
      refine SReps_forget r3.tm mods ?_ ?_
      . rw [hat]; have : am.tmps.size = a.tmps.size := by rw [<- Array.length_toList, hamt, fs1, Array.length_toList]
        have := hsm2.sz; simp; omega
      . intro i hi; rw [hat]; have e1 := hsm2.tm i hi
        have e2 : am.tmps.toList[i]? = a.tmps.toList[i]? := by
          rw [hamt]; refine fs2 i (fun hmem => hi ?_)
          obtain ⟨p, hp, rfl⟩ := List.mem_map.1 hmem; rw [<- hmods]; exact List.mem_append_left _ (List.of_mem_zip hp).1
        rw [Array.getElem?_toList (xs := a2.tmps), e1, <- Array.getElem?_toList, e2]
    have hkfor : KBs st2.next (forget st2.t mods) := KBs_forget mods r3.kt; have out : ∀ (o : Obj), RelB (baseE E ((w1.putObj l ob).putObj l o) (own z) β1 S1') st2 a2 (w3.putObj l o) β3 S3 := fun o => r3.poke0 o hSl hol (by show l < (w1.putObj l ob).heap.size; simpa using hlw2)
    have hsame : ∀ (o : Obj) b, b ≠ l -> ((w1.putObj l ob).putObj l o).heap[b]? = w1.heap[b]? := fun o b hb => by rw [World.putObj_heap_other hb, World.putObj_heap_other hb]
    have leave : ∀ (e : AE) (c : Code), jumpOf e = some c -> Holds P tab Q (k e ⟨forget st2.t mods, st2.own, st2.next⟩) ->
        ∃ v w', (Instr.endRound l (some c)).run P w3 = .ok v w' /\ ((∃ Z', Ending.returned v = .returned (.bool true) /\ J (ix z + 1) Z' w' /\ Keep Z w1 w' /\ ∀ b, Z' b -> Z b \/ w1.heap.size <= b) \/ (Ending.returned v = .returned (.bool false) /\ Jx w')) := by
      intro e c he hh; refine ⟨_, _, run_endRound (some c) g3, .inr ⟨rfl, e, _, c, β3, S3, he, hh, ?_, g1, fun ⟨j, b, h1, h2⟩ => g2 j b h1 h2, ?_⟩⟩
      . exact rx.back (out _) (by simp) rfl rfl rfl (fun b hb => hsame _ b (by omega)) hfor hkfor
      . rw [World.putObj_heap_same hlw3, hrec]; rfl
    cases e with
    | exit j => exact leave (.exit j) _ rfl h2
    | goto j => exact leave (.goto j) _ rfl h2
    | ret => exact leave .ret _ rfl h2
    | normal =>
    cases h2 with
    | prop hp =>
    obtain ⟨z', hz', hiz, hle'⟩ := hp; obtain ⟨β4, S4, p1, p2, p3, p4, p5⟩ := range_turn (l := l) hE rx (out (.loop { rec .ready none with state := if (none : Option Code).isNone then .ready else .done, pending := none })) (by simp) rfl rfl rfl (fun b hb => hsame _ b (by omega)) hfor hkfor hle' hlw2 hSl hol
    refine ⟨_, _, run_endRound none g3, .inl ⟨fun b => b = l \/ blocksOf (own z') β4 b, rfl, ⟨z', β4, S4, hz', hiz, ?_, hsub.trans p2, p3, p4, fun _ => Iff.rfl, ?_⟩, ⟨?_, ?_⟩, ?_⟩⟩
    . exact p1
    . rw [World.putObj_heap_same hlw3, hrec]; rfl
    . have : (w1.putObj l ob).heap.size <= w3.heap.size := r3.mem.size; simpa using this
    . intro b hb hnZ; have hbl : b ≠ l := fun e => hnZ ((hZ b).2 (.inl e))
      rw [World.putObj_heap_other hbl]; refine (r3.mem.frame b (by show b < (w1.putObj l ob).heap.size; simpa using hb) (fun h => hnZ ((hZ b).2 (.inr h)))).trans ?_
      exact World.putObj_heap_other hbl
    . rintro b (rfl | hb)
      . exact .inl ((hZ b).2 (.inl rfl))
      . rcases p5 b hb with h | h
        . exact .inl ((hZ b).2 (.inr h))
        . exact .inr h
  refine ⟨l, mark, w₁, { target := .fn (.func f) cs, args := #[.func (.yield l) #[] #[]] }, w₁, f, #[.func (.yield l) #[] #[]] ++ cs, w₁, hen, ?_, fun _ _ => trivial, ?_, (fun h => by cases h), ?_⟩
  . simp only [resolve, heval]; simp [go_sem]
  . simp only [invoke, callFunc, Sem.run_bind, Sem.run_pure, Result.andThen_ok, run_program, i1, i2, i3]; simp
  . rw [ha']; have hcall : Calls P f (#[.func (.yield l) #[] #[]] ++ cs) w₁ fun e w' => (∃ v, e = .returned v) /\ ((∃ Z', J items.length Z' w') \/ Jx w') := by simpa using hcall
    refine CallsIn.mono (callsIn_FW hcall) ?_; rintro e w' ⟨⟨v, rfl⟩, hj⟩; rcases hj with ⟨Z', z, β', S', hz, hiz, rx, _, hSl, hol, _, hr⟩ | ⟨e, st', c, β', S', hjmp, hh, rx, hSl, hol, hr⟩
    . refine ⟨_, _, run_endLoop hr (by rw [hrec]; simp), ?_⟩
      rw [hrec]; exact hq .normal _ a' _ β' S' (hend z hz hiz) (rx.poke _ hSl (fun j b h1 h2 => hol ⟨j, b, h1, h2⟩) hE0) hsa
    . refine ⟨_, _, run_endLoop hr (by rw [hrec]; simp), ?_⟩
      rw [hrec]; have rx' := rx.poke (.loop { rec .done (some c) with state := .exhausted }) hSl (fun j b h1 h2 => hol ⟨j, b, h1, h2⟩) hE0
      rw [hrec] at rx'
      cases e with
      | normal => cases hjmp
      | exit j => cases hjmp; exact wpIn_exit (hq (.exit j) st' a' _ β' S' hh rx' hsa)
      | goto j => cases hjmp; exact wpIn_goto (hq (.goto j) st' a' _ β' S' hh rx' hsa)
      | ret => cases hjmp; exact wpIn_ret (hq .ret st' a' _ β' S' hh rx' hsa)
theorem pureSuf_eq : ∀ (l : List Oper), (pureSuf l).1 ++ (pureSuf l).2 = l
  | [] => rfl
  | o :: os => by
    have ih := pureSuf_eq os; rw [pureSuf]; split
    . rename_i s hs
      rw [hs] at ih; simp only [List.nil_append] at ih; split <;> simp [ih]
    . rename_i x p s hs
      rw [hs] at ih; simpa using ih
theorem execReg_sound (ht : TabOk P tab) {W : List Nat} {a0 : Act} {ro : Option Nat} {nn : Nat} {ops : Array Oper} (st : St) (k : St -> R) (a : Act) (w : World) (β : Nat -> Value) (S : Snap) (hW : ∀ o ∈ ops.toList, ∀ d, o.dst = some d -> d ∈ W) (hs : Same W a0 a) (h : Holds P tab Q (execReg tab ops.toList st k)) (r : RelB E st a w β S)
    (hq : ∀ st' a' w' β' S', Holds P tab Q (k st') -> RelB E st' a' w' β' S' -> Same W a0 a' -> QQ .normal a' w') : wpListIn (FW ro) nn P ops QQ ops.toList a w := by
  have plain : Holds P tab Q (execOps tab ops.toList ops.toList st k) -> wpListIn (FW ro) nn P ops QQ ops.toList a w := fun h => by
    have := execOps_sound (QQ := QQ) (rest := []) ht ops.toList st k a w β S hW hs h r (ro := ro) (nn := nn) (by simpa [wpListIn] using hq)
    rwa [List.append_nil] at this
  unfold execReg at h
  cases hps : pureSuf ops.toList with
  | mk p s =>
    have he := pureSuf_eq ops.toList; rw [hps] at h he; simp only at h he
    cases hg : isNil (guardsOf s) with
    | true => rw [hg] at h; exact plain h
    | false =>
      rw [hg] at h; simp only at h; have hWp : ∀ o ∈ p, ∀ d, o.dst = some d -> d ∈ W := fun o ho => hW o (by rw [<- he]; simp [ho])
      have hWs : ∀ o ∈ s, ∀ d, o.dst = some d -> d ∈ W := fun o ho => hW o (by rw [<- he]; simp [ho])
      have := execOps_sound (QQ := QQ) (rest := s) ht p st _ a w β S hWp hs h r (ro := ro) (nn := nn) (by
        intro st1 a1 w1 β1 S1 h1 r1 s1
        have tail : ∀ (Q' : QT) (k' : St -> R), Holds P tab Q' (execOps tab ops.toList s st1 k') -> (∀ st' a' w' β' S', Holds P tab Q' (k' st') -> RelB E st' a' w' β' S' -> Same W a0 a' -> QQ .normal a' w') -> wpListIn (FW ro) nn P ops QQ s a1 w1 := fun Q' k' h' hq' => by
          have := execOps_sound (Q := Q') (QQ := QQ) (rest := []) ht s st1 k' a1 w1 β1 S1 hWs s1 h' r1 (ro := ro) (nn := nn) (by simpa [wpListIn] using hq')
          rwa [List.append_nil] at this
        cases hm : mergePT (writesOps s) st1.t (pOps tab ops.toList s st1.t st1.own .leaf) with
        | none => rw [hm] at h1; exact tail Q k h1 hq
        | some m =>
          rw [hm] at h1; simp only at h1; obtain ⟨m1, m2, m3⟩ := merge_sound _ m hm; refine tail ⟨0, fun _ st' => st'.own = st1.own /\ st'.next = st1.next /\ Ref (writesOps s) st1.t st'.t /\ Cov (writesOps s) st'.t m⟩ (fun st' => .done .normal st') ?_ ?_
          . exact pOps_holds (p := fun t' => t'.length = st1.t.length -> Cov (writesOps s) t' m) (k := PT.leaf) (Q := ⟨0, fun _ st' => st'.own = st1.own /\ st'.next = st1.next /\ Ref (writesOps s) st1.t st'.t /\ Cov (writesOps s) st'.t m⟩) (t0 := st1.t) (W := writesOps s) (own := st1.own) (n := st1.next) (K := fun st' => .done .normal st') (fun t hr hp => .done ⟨rfl, rfl, hr, hp hr.len⟩) s st1.t (fun i hi => mem_inN.2 hi) (Ref.refl _ _) m1
          . rintro ⟨t', own', n'⟩ a' w' β' S' hd r' s'
            cases hd with
            | done hd =>
              obtain ⟨e1, e2, e3, e4⟩ := hd; simp only at e1 e2 e3 e4; subst e1 e2; exact hq _ _ _ _ _ h1 (join_rel r' e4 e3 m2 m3) s')
      rwa [he] at this
theorem exec0_sound (ht : TabOk P tab) {W : List Nat} {a0 : Act} {ro : Option Nat} {nn : Nat} : ∀ (c : Code) (st : St) (k : St -> R) (QQ : Exit -> Act -> World -> Prop) (a : Act) (w : World) (β : Nat -> Value) (S : Snap), (∀ d ∈ writes c, d ∈ W) -> Same W a0 a -> Holds P tab Q (exec0 tab c st k) -> RelB E st a w β S ->
    (∀ st' a' w' β' S', Holds P tab Q (k st') -> RelB E st' a' w' β' S' -> Same W a0 a' -> QQ .normal a' w') -> c.wpIn (FW ro) nn P QQ a w
  | .skip, st, k, QQ, a, w, β, S, hW, hs, h, r, hq => wpIn_skip (hq st a w β S h r hs)
  | .region id ops false, st, k, QQ, a, w, β, S, hW, hs, h, r, hq => by
    have h : Holds P tab Q (execOps tab ops.toList ops.toList st k) := h; exact wpIn_region_list (List.append_nil ops.toList ▸ execOps_sound (rest := []) ht ops.toList st k a w β S (fun o ho d hd => hW d (by rw [writes]; exact writesOps_mem ho hd)) hs h r (by simpa [wpListIn] using hq))
  | .region id ops true, st, k, QQ, a, w, β, S, hW, hs, h, r, hq => (not_stuck h).elim
  | .seq x y, st, k, QQ, a, w, β, S, hW, hs, h, r, hq => by
    rw [exec0] at h; rw [writes] at hW; refine wpIn_seq (exec0_sound ht x st _ _ a w β S (fun d hd => hW d (by simp [hd])) hs h r ?_)
    intro st' a' w' β' S' h1 h2 h3; exact exec0_sound ht y st' k QQ a' w' β' S' (fun d hd => hW d (by simp [hd])) h3 h1 h2 hq
  | .cond c x y, st, k, QQ, a, w, β, S, hW, hs, h, r, hq => by
    rw [exec0] at h; rw [writes] at hW; obtain ⟨b, t', e1, e2, e3⟩ := splitT_sound c _ h r
    cases b with
    | true => exact wpIn_cond_true e1 (exec0_sound ht x _ k QQ a w β S (fun d hd => hW d (by simp [hd])) hs e2 e3 hq)
    | false => exact wpIn_cond_false e1 (exec0_sound ht y _ k QQ a w β S (fun d hd => hW d (by simp [hd])) hs e2 e3 hq)
  | .block _ _, st, k, QQ, a, w, β, S, hW, hs, h, r, hq => (not_stuck h).elim
  | .loop _, st, k, QQ, a, w, β, S, hW, hs, h, r, hq => (not_stuck h).elim
  | .rangeFunc _ _ _ _, st, k, QQ, a, w, β, S, hW, hs, h, r, hq => (not_stuck h).elim
  | .exit _, st, k, QQ, a, w, β, S, hW, hs, h, r, hq => (not_stuck h).elim
  | .scope _, st, k, QQ, a, w, β, S, hW, hs, h, r, hq => (not_stuck h).elim
  | .label _, st, k, QQ, a, w, β, S, hW, hs, h, r, hq => (not_stuck h).elim
  | .goto _, st, k, QQ, a, w, β, S, hW, hs, h, r, hq => (not_stuck h).elim
  | .ret, st, k, QQ, a, w, β, S, hW, hs, h, r, hq => (not_stuck h).elim
  | .refuse _, st, k, QQ, a, w, β, S, hW, hs, h, r, hq => (not_stuck h).elim
theorem exec_sound (ht : TabOk P tab) : ∀ (c : Code), CodeOK P tab Q c
  | .skip, E, ro, nn, W, a0, st, k, QQ, a, w, β, S, hE, hro, hW, hs, h, r, hq => wpIn_skip (hq .normal st a w β S (by simpa [exec] using h) r hs)
  | .label l, E, ro, nn, W, a0, st, k, QQ, a, w, β, S, hE, hro, hW, hs, h, r, hq => wpIn_label (hq .normal st a w β S (by simpa [exec] using h) r hs)
  | .exit i, E, ro, nn, W, a0, st, k, QQ, a, w, β, S, hE, hro, hW, hs, h, r, hq => wpIn_exit (hq (.exit i) st a w β S (by simpa [exec] using h) r hs)
  | .goto i, E, ro, nn, W, a0, st, k, QQ, a, w, β, S, hE, hro, hW, hs, h, r, hq => wpIn_goto (hq (.goto i) st a w β S (by simpa [exec] using h) r hs)
  | .ret, E, ro, nn, W, a0, st, k, QQ, a, w, β, S, hE, hro, hW, hs, h, r, hq => wpIn_ret (hq .ret st a w β S (by simpa [exec] using h) r hs)
  | .region id ops d, E, ro, nn, W, a0, st, k, QQ, a, w, β, S, hE, hro, hW, hs, h, r, hq => by
    cases d with
    | false => exact wpIn_region_list (execReg_sound ht st (k .normal) a w β S (fun o ho d hd => hW d (by rw [writes]; exact writesOps_mem ho hd)) hs h r fun st' a' w' β' S' h1 h2 h3 => hq .normal st' a' w' β' S' h1 h2 h3)
    | true =>
      rw [exec] at h; exact execD_sound ht ops st (k .normal) (fun d hd => hW d (by rw [writes]; exact hd)) h r hs (fun st' a' w' β' S' h1 h2 h3 => hq .normal st' a' w' β' S' h1 h2 h3)
  | .seq x y, E, ro, nn, W, a0, st, k, QQ, a, w, β, S, hE, hro, hW, hs, h, r, hq => by
    rw [exec] at h; rw [writes] at hW; refine wpIn_seq (exec_sound ht x E ro nn W a0 st _ _ a w β S hE hro (fun d hd => hW d (by simp [hd])) hs h r ?_)
    intro e st' a' w' β' S' h1 h2 h3
    cases e with
    | normal => exact exec_sound ht y E ro nn W a0 st' k QQ a' w' β' S' hE hro (fun d hd => hW d (by simp [hd])) h3 h1 h2 hq
    | exit i => exact hq (.exit i) st' a' w' β' S' h1 h2 h3
    | goto i => exact hq (.goto i) st' a' w' β' S' h1 h2 h3
    | ret => exact hq .ret st' a' w' β' S' h1 h2 h3
  | .cond c x y, E, ro, nn, W, a0, st, k, QQ, a, w, β, S, hE, hro, hW, hs, h, r, hq => by
    have go : Holds P tab Q (splitT st.t c fun b t => match b with
        | true => exec tab x ⟨t, st.own, st.next⟩ k
        | false => exec tab y ⟨t, st.own, st.next⟩ k) -> (Code.cond c x y).wpIn (FW ro) nn P QQ a w := fun h => by
      rw [writes] at hW; obtain ⟨b, t', e1, e2, e3⟩ := splitT_sound c _ h r
      cases b with
      | true => exact wpIn_cond_true e1 (exec_sound ht x E ro nn W a0 _ k QQ a w β S hE hro (fun d hd => hW d (by simp [hd])) hs e2 e3 hq)
      | false => exact wpIn_cond_false e1 (exec_sound ht y E ro nn W a0 _ k QQ a w β S hE hro (fun d hd => hW d (by simp [hd])) hs e2 e3 hq)
    rw [exec] at h
    cases hp : pureC (.cond c x y) with
    | false => rw [hp] at h; exact go h
    | true =>
      rw [hp] at h; simp only at h
      cases hm : mergePT (writes (.cond c x y)) st.t (pCode tab (.cond c x y) st.t st.own .leaf) with
      | none => rw [hm] at h; exact go h
      | some m =>
        rw [hm] at h; simp only at h; obtain ⟨m1, m2, m3⟩ := merge_sound _ m hm; refine exec0_sound (Q := ⟨0, fun _ st' => st'.own = st.own /\ st'.next = st.next /\ Ref (writes (.cond c x y)) st.t st'.t /\ Cov (writes (.cond c x y)) st'.t m⟩) ht (.cond c x y) st (fun st' => .done .normal st') QQ a w β S hW hs ?_ r ?_
        . exact pCode_holds (p := fun t' => t'.length = st.t.length -> Cov (writes (.cond c x y)) t' m) (Q := ⟨0, fun _ st' => st'.own = st.own /\ st'.next = st.next /\ Ref (writes (.cond c x y)) st.t st'.t /\ Cov (writes (.cond c x y)) st'.t m⟩) (t0 := st.t) (W := writes (.cond c x y)) (own := st.own) (n := st.next) (.cond c x y) st.t .leaf (fun st' => .done .normal st') (fun i hi => mem_inN.2 hi) (Ref.refl _ _) m1 (fun t hr hp => .done ⟨rfl, rfl, hr, hp hr.len⟩)
        . rintro ⟨t', own', n'⟩ a' w' β' S' hd r' s'
          cases hd with
          | done hd =>
            obtain ⟨e1, e2, e3, e4⟩ := hd; simp only at e1 e2 e3 e4; subst e1 e2; exact hq .normal _ _ _ _ _ h (join_rel r' e4 e3 m2 m3) s'
  | .block id c, E, ro, nn, W, a0, st, k, QQ, a, w, β, S, hE, hro, hW, hs, h, r, hq => by
    rw [exec] at h; rw [writes] at hW; refine wpIn_block (exec_sound ht c E ro nn W a0 st _ _ a w β S hE hro hW hs h r ?_); intro e st' a' w' β' S' h1 h2 h3
    cases e with
    | normal => exact hq .normal st' a' w' β' S' h1 h2 h3
    | exit i =>
      simp only at h1; show if i = id then QQ .normal a' w' else QQ (.exit i) a' w'
      cases hi : Nat.beq i id with
      | true => rw [hi] at h1; rw [if_pos (beq_true hi)]; exact hq .normal st' a' w' β' S' h1 h2 h3
      | false => rw [hi] at h1; rw [if_neg (beq_false hi)]; exact hq (.exit i) st' a' w' β' S' h1 h2 h3
    | goto i => exact hq (.goto i) st' a' w' β' S' h1 h2 h3
    | ret => exact hq .ret st' a' w' β' S' h1 h2 h3
  | .loop c, E, ro, nn, W, a0, st, k, QQ, a, w, β, S, hE, hro, hW, hs, h, r, hq => by
    rw [exec] at h; rw [writes] at hW
    cases h with
    | loop α Pa u own next μ x0 h0 hle hround =>
      obtain ⟨β1, S1, r1, _⟩ := hle E a w β S hE r; refine wpIn_loop_least (fun m a w => ∃ x, μ x = m /\ Pa x /\ Same W a0 a /\ ∃ β S, RelB E (headSt st (writes c) (u x) (own x) next) a w β S) (μ x0) ⟨x0, rfl, h0, hs, β1, S1, r1⟩ ?_
      rintro m a w ⟨x, rfl, hx, hs, β, S, rr⟩; refine exec_sound ht c E ro nn W a0 _ _ _ a w β S hE hro hW hs (hround x hx) rr ?_; intro e st' a' w' β' S' h1 h2 h3
      cases e with
      | normal =>
        cases h1 with
        | prop hp =>
          obtain ⟨x', p1, p2, p3⟩ := hp; obtain ⟨β2, S2, r2, _⟩ := p3 E a' w' β' S' hE h2; exact ⟨μ x', p2, x', rfl, p1, h3, β2, S2, r2⟩
      | exit i => exact hq (.exit i) st' a' w' β' S' h1 h2 h3
      | goto i => exact hq (.goto i) st' a' w' β' S' h1 h2 h3
      | ret => exact hq .ret st' a' w' β' S' h1 h2 h3
  | .rangeFunc g ps x y, E, ro, nn, W, a0, st, k, QQ, a, w, β, S, hE, hro, hW, hs, h, r, hq => by
    cases g with
    | tmp i => rw [exec] at h; exact range_sound ht (exec_sound ht x) (exec_sound ht y) hE hro (hW _ (by simp [writes])) hs h r hq
    | _ => exact (not_stuck (by simpa [exec] using h)).elim
  | .scope _, E, ro, nn, W, a0, st, k, QQ, a, w, β, S, hE, hro, hW, hs, h, r, hq => (not_stuck (by simpa [exec] using h)).elim
  | .refuse _, E, ro, nn, W, a0, st, k, QQ, a, w, β, S, hE, hro, hW, hs, h, r, hq => (not_stuck (by simpa [exec] using h)).elim
theorem run_asAddr (b k : Nat) : (asAddr (.pointer (some ⟨b, k, none⟩))).run P w = .ok ⟨b, k, none⟩ w := rfl
def resOne (tmps : Array Value) : ResultVar -> Sem Value
  | .tmp t => pure (tmps.getD t undef)
  | .cell a t => do loadVar t (<- asAddr (tmps.getD a undef))
theorem resR_sound (ht : TabOk P tab) : ∀ (rs : List ResultVar) (acc : List SV) (vs : List Value) (t : List SV) (own : Own) (n : Nat) (k : List SV -> Own -> Nat -> R), Holds P tab Q (resR tab rs acc t own n k) -> RelB E ⟨t, own, n⟩ a w β S -> SReps β S acc vs -> KBs n acc ->
    ∃ us sv, (rs.mapM (resOne a.tmps)).run P w = .ok us w /\ Holds P tab Q (k sv own n) /\ SReps β S sv (vs ++ us) /\ KBs n sv
  | [], acc, vs, t, own, n, k, h, r, h1, h2 => ⟨[], acc, by simp [List.mapM_nil], by simpa [resR] using h, by simpa using h1, h2⟩
  | .tmp i :: rs, acc, vs, t, own, n, k, h, r, h1, h2 => by
    rw [resR] at h; have hi := SReps_nth i r.tm; obtain ⟨us, sv, e1, e2, e3, e4⟩ := resR_sound ht rs _ (vs ++ [a.tmps.toList.getD i undef]) t own n k h r (SReps_append h1 (by rw [SReps]; exact ⟨_, [], rfl, hi, by rw [SReps]⟩)) (KBs_append h2 (by rw [KBs]; exact ⟨KBs_nth i r.kt, trivial⟩))
    refine ⟨a.tmps.toList.getD i undef :: us, sv, ?_, e2, by simpa using e3, e4⟩
    rw [List.mapM_cons]; simp only [resOne, getD_toList, Sem.run_bind, Sem.run_pure, Result.andThen_ok, e1]
  | .cell i T :: rs, acc, vs, t, own, n, k, h, r, h1, h2 => by
    rw [resR, runAP] at h; have hi := SReps_nth i r.tm; obtain ⟨b, kk, sv1, v1, l0, l1, l2, l3, l4⟩ := load_sound ht h hi r; obtain ⟨us, sv, e1, e2, e3, e4⟩ := resR_sound ht rs _ (vs ++ [v1]) t own n k l2 r (SReps_append h1 (by rw [SReps]; exact ⟨_, [], rfl, l3, by rw [SReps]⟩)) (KBs_append h2 (by rw [KBs]; exact ⟨l4, trivial⟩))
    refine ⟨v1 :: us, sv, ?_, e2, by simpa using e3, e4⟩
    rw [List.mapM_cons]; simp only [resOne, getD_toList, l0, Sem.run_bind, run_asAddr, Result.andThen_ok, l1, e1, Sem.run_pure]
theorem results_run (fn : Func) {us : List Value} (h : (fn.results.toList.mapM (resOne a.tmps)).run P w = .ok us w) : (results fn a.tmps).run P w = .ok (if h : us.length = 1 then us[0] else .tuple us.toArray) w := by
  have h2 : (fn.results.mapM (resOne a.tmps)).run P w = .ok us.toArray w := by
    rw [<- Array.toArray_toList (xs := fn.results), List.mapM_toArray, Sem.run_map, h]; rfl
  unfold results; show ((fn.results.mapM (resOne a.tmps)) >>= _).run P w = _; rw [Sem.run_bind, h2]; simp
def FinQ (n : Nat) {α : Type} (Pa : α -> Prop) (res : α -> SV) (H' : α -> Own) : QT :=
  ⟨n, fun _ st => ∃ x next, Pa x /\ Le n st ⟨[res x], H' x, next⟩⟩
theorem leaves {n : Nat} {fn : Func} {R : Ending -> World -> Prop} {tmps : Array Value} : ∀ {ds : List Deferred} {st : St} {w : World} {β : Nat -> Value} {S : Snap}, RelB E st { tmps := tmps, defers := ds } w β S ->
    (∀ w' β' S', RelB E st { tmps := tmps, defers := [] } w' β' S' -> ∃ v, (results fn tmps).run P w' = .ok v w' /\ R (.returned v) w') -> LeavesInM (FW none) n P fn tmps R ds .returning w
  | [], st, w, β, S, r, h => h w β S r
  | d :: ds, st, w, β, S, r, h => by
    obtain ⟨x, S', h1, h2, r'⟩ := r.take; exact ⟨by simp, .inl ⟨x, _, h1, run_takeDeferred h2, leaves r' h⟩⟩
theorem spec_of (ht : TabOk P tab) {f : FuncId} {fn : Func} {c : Code} (hf : P.funcs[f]? = some fn) (hb : fn.body = some c) (hn : (fn.name == "runtime.NumGoroutine") = false) {args : List SV} {H : Own} {n : Nat} {α : Type} {Pa : α → Prop} {res : α → SV} {H' : α → Own}
    (h : Holds P tab (FinQ n Pa res H') (exec tab c ⟨args ++ List.replicate (fn.ntmps - args.length) .any, H, n⟩ (endK tab fn.results.toList))) : Spec P f args H n Pa res H' := by
  refine ⟨⟨fn, hf, by rw [hb]; rfl, hn⟩, ?_⟩
  intro w β S vals hs hk hko hm; let E : Env := ⟨w, blocksOf H β, S, β, n⟩
  have hl := SReps_length hs; refine (callsIn_wide (n := 0)).1 (callsIn_of_wp_marks hf hb trivial ?_)
  have hrel : RelB E ⟨args ++ List.replicate (fn.ntmps - args.length) .any, H, n⟩ { tmps := vals.toArray ++ Array.replicate (fn.ntmps - vals.toArray.size) undef, defers := [] } w β S := by
    refine ⟨?_, trivial, KBs_append hk ?_, hko, Nat.le_refl _, fun _ _ => rfl, hm⟩
    . simp only [Array.toList_append, Array.toList_replicate, List.size_toArray, hl]; refine SReps_append hs ?_; generalize fn.ntmps - args.length = m
      induction m with
      | zero => rw [List.replicate_zero, List.replicate_zero, SReps]
      | succ m ih => rw [List.replicate_succ, List.replicate_succ, SReps]; exact ⟨_, _, rfl, by simp [SRep], ih⟩
    . generalize fn.ntmps - args.length = m
      induction m with
      | zero => rw [List.replicate_zero, KBs]; trivial
      | succ m ih => rw [List.replicate_succ, KBs]; exact ⟨by simp [KB], ih⟩
  refine exec_sound ht c E none 0 (writes c) _ _ _ _ _ w β S rfl (fun l hl => by cases hl) (fun d hd => hd) (Same.refl _ _) h hrel ?_
  intro e st' a' w' β' S' h1 h2 _
  have fin : ∀ (h1 : Holds P tab (FinQ n Pa res H') (resR tab fn.results.toList [] st'.t st'.own st'.next fun vs own n => .done .ret ⟨[packRes vs], own, n⟩))
      (w' : World) (β' : Nat -> Value) (S' : Snap), RelB E st' { tmps := a'.tmps, defers := [] } w' β' S' ->
      ∃ v, (results fn a'.tmps).run P w' = .ok v w' /\ ∃ v', Ending.returned v = .returned v' /\ ∃ x β' S', Pa x /\ (∀ j, j < n -> β' j = β j) /\ SRep β' S' (res x) v' /\ Mem w (blocksOf H β) S β' S' (H' x) w' := by
    intro h1 w' β' S' h2; obtain ⟨us, sv, e1, e2, e3, e4⟩ := resR_sound ht _ [] [] st'.t st'.own st'.next _ h1 h2 (by rw [SReps]) (by rw [KBs]; trivial)
    have hrun := results_run fn e1; refine ⟨_, hrun, _, rfl, ?_⟩; rw [List.nil_append] at e3; have hl3 := SReps_length e3
    have hpack : SRep β' S' (packRes sv) (if h : us.length = 1 then us[0] else .tuple us.toArray) /\ KB st'.next (packRes sv) := by
      match sv, us, e3, e4 with
      | [s], [u], e3, e4 =>
        rw [SReps] at e3; obtain ⟨u', us', e, e3, _⟩ := e3; cases e; rw [KBs] at e4; exact ⟨by simpa [packRes] using e3, by simpa [packRes] using e4.1⟩
      | [], us, e3, e4 =>
        have e3' := e3; rw [SReps] at e3'; subst e3'; exact ⟨by simp only [packRes]; rw [SRep]; exact ⟨_, rfl, e3⟩, by simp only [packRes]; rw [KB]; exact e4⟩
      | s :: s2 :: sv, us, e3, e4 =>
        have hl := SReps_length e3; rw [dif_neg (by rw [hl]; simp)]
        exact ⟨by simp only [packRes]; rw [SRep]; exact ⟨_, rfl, by simpa using e3⟩, by simp only [packRes]; rw [KB]; exact e4⟩
    generalize (if h : us.length = 1 then us[0] else Value.tuple us.toArray) = v at hpack ⊢
    cases e2 with
    | done hq =>
      obtain ⟨x, next, hx, hle⟩ := hq; obtain ⟨β2, S2, r2, _⟩ := hle E { tmps := #[v], defers := [] } w' β' S' rfl ⟨by rw [SReps]; exact ⟨v, [], rfl, hpack.1, by rw [SReps]⟩, trivial, by rw [KBs]; exact ⟨hpack.2, trivial⟩, h2.ko, h2.ge, h2.old, h2.mem⟩
      have ht2 := r2.tm; rw [SReps] at ht2; obtain ⟨v', vs', ev, hr, _⟩ := ht2; cases ev; exact ⟨x, β2, S2, hx, r2.old, hr, r2.mem⟩
  cases e with
  | normal => exact leaves h2 (fun w' β' S' r => fin h1 w' β' S' r)
  | ret => exact leaves h2 (fun w' β' S' r => fin h1 w' β' S' r)
  | exit i => exact (not_stuck h1).elim
  | goto i => exact (not_stuck h1).elim
end
end Go.Eng
namespace Go.Eng
structure LE where
  eqs : List (Unit -> Prop)
  keys : List (Nat × Option Nat)
  seals : List Nat
def app' {α : Type} : List α -> List α -> List α
  | [], l => l
  | a :: l, m => a :: app' l m
def LE.app (a b : LE) : LE := ⟨app' a.eqs b.eqs, app' a.keys b.keys, app' a.seals b.seals⟩
def LE.none : LE := ⟨[], [], []⟩
def LE.one (p : Unit -> Prop) : LE := ⟨[p], [], []⟩
def kindEq : IntKind -> IntKind -> Bool
  | .i8, .i8 => true
  | .i16, .i16 => true
  | .i32, .i32 => true
  | .i64, .i64 => true
  | .u8, .u8 => true
  | .u16, .u16 => true
  | .u32, .u32 => true
  | .u64, .u64 => true
  | _, _ => false
mutual
def kbV (n : Nat) : SV -> Bool
  | .op j _ => Nat.blt j n
  | .os j => Nat.blt j n
  | .oe j _ _ _ => Nat.blt j n
  | .om j => Nat.blt j n
  | .ov j _ _ _ => Nat.blt j n
  | .fn _ c => kbVs n c
  | .agg l => kbVs n l
  | .tup l => kbVs n l
  | _ => true
def kbVs (n : Nat) : List SV -> Bool
  | [] => true
  | a :: l => match kbV n a with
    | true => kbVs n l
    | false => false
end
mutual
def leV (own : Own) : SV -> SV -> Option LE
  | .any, _ => some .none
  | .int k f, .int k' g => match kindEq k k' with
    | true => some (.one fun _ => f () = g ())
    | false => none
  | .bool b, .bool c => some (.one fun _ => b = c)
  | .bool b, .bs c => some (.one fun _ => b = c ())
  | .bs b, .bool c => some (.one fun _ => b () = c)
  | .bs b, .bs c => some (.one fun _ => b () = c ())
  | .str f, .str g => some (.one fun _ => f () = g ())
  | .ds sz l, .ds sz' l' => match Nat.beq sz sz' with
    | true => some (.one fun _ => l () = l' ())
    | false => some (.one fun _ => l () = [] /\ l' () = [])
  | .ds _ l, .nils => some (.one fun _ => l () = [])
  | .ds sz l, .os j => match lookB own j with
    | some (.arr _ sz' l') => (match Nat.beq sz sz' with
      | true => some ⟨[fun _ => l () = l' ()], [], [j]⟩
      | false => none)
    | _ => none
  | .nils, .nils => some .none
  | .nils, .raw v => some (.one fun _ => v = .slice none 0 0)
  | .raw u, .nils => some (.one fun _ => u = .slice none 0 0)
  | .raw u, .raw v => some (.one fun _ => u = v)
  | .raw u, .str f => some (.one fun _ => u = .string (f ()))
  | .str f, .raw v => some (.one fun _ => v = .string (f ()))
  | .os j, .os i => some ⟨[], [(j, some i)], []⟩
  | .os j, .nils => some ⟨[], [(j, none)], []⟩
  | .om j, .om i => some ⟨[], [(j, some i)], []⟩
  | .ov j sz a b, .ov i sz' a' b' => match Nat.beq sz sz' with
    | true => some ⟨[fun _ => a () = a' (), fun _ => b () = b' ()], [(j, some i)], []⟩
    | false => none
  | .op j o, .op i o' => match Nat.beq o o' with
    | true => some ⟨[], [(j, some i)], []⟩
    | false => none
  | .oe j sz ix o, .oe i sz' ix' o' => match Nat.beq o o', Nat.beq sz sz' with
    | true, true => some ⟨[fun _ => ix () = ix' ()], [(j, some i)], []⟩
    | _, _ => none
  | .dp sz l ix o, .dp sz' l' ix' o' => match Nat.beq o o', Nat.beq sz sz' with
    | true, true => some ⟨[fun _ => ix () = ix' (), fun _ => l () = l' ()], [], []⟩
    | _, _ => none
  | .fn f c, .fn g d => match Nat.beq f g with
    | true => leVs own c d
    | false => none
  | .fno f c, .fno g d => some (.one fun _ => f = g /\ c = d)
  | .fno f c, .fn g d => match Nat.beq f g, leVs own c d, kbVs 0 c with
    | true, some ⟨eqs, [], []⟩, true => some ⟨eqs, [], []⟩
    | _, _, _ => none
  | .agg l, .agg m => leVs own l m
  | .tup l, .tup m => leVs own l m
  | _, _ => none
def leVs (own : Own) : List SV -> List SV -> Option LE
  | [], [] => some .none
  | a :: l, b :: m => match leV own a b, leVs own l m with
    | some x, some y => some (x.app y)
    | _, _ => none
  | _, _ => none
end
def leB (own : Own) : Blk -> Blk -> Option LE
  | .cells T c, .cells T' c' => match Nat.beq T T', allOne c with
    | true, true => leVs own c c'
    | _, _ => none
  | .arr T sz l, .arr T' sz' l' => match Nat.beq T T', Nat.beq sz sz' with
    | true, true => some (.one fun _ => l () = l' ())
    | _, _ => none
  | .full T sz l c, .full T' sz' l' c' => match Nat.beq T T', Nat.beq sz sz' with
    | true, true => some ⟨[fun _ => l () = l' (), fun _ => c () = c' ()], [], []⟩
    | _, _ => none
  | .map T m, .map T' m' => match Nat.beq T T' with
    | true => some (.one fun _ => m () = m' ())
    | false => none
  | .hole T l h q, .hole T' l' h' q' => match Nat.beq T T' with
    | true => some ⟨[fun _ => l () = l' (), fun _ => h () = h' ()], [(q, some q')], []⟩
    | false => none
  | _, _ => none
def findK : List (Nat × Option Nat) -> Nat -> Option (Option Nat)
  | [], _ => none
  | (k, x) :: l, j => match Nat.beq k j with
    | true => some x
    | false => findK l j
def nilB : Blk -> Option LE
  | .arr _ _ l => some (.one fun _ => l () = [])
  | _ => none
def kbB (n : Nat) : Blk -> Bool
  | .cells _ c => kbVs n c
  | .hole _ _ _ q => Nat.blt q n
  | _ => true
def leOwn (own : Own) (next : Nat) : Own -> LE -> Option LE
  | [], e => some e
  | (k, b) :: l, e =>
    match Nat.blt k next, kbB next b, findK e.keys k with
    | true, true, some (some i) => (match lookB own i with
      | some c => (match leB own b c with
        | some e' => leOwn own next l (e.app e')
        | none => none)
      | none => none)
    | true, true, some none => (match nilB b with
      | some e' => leOwn own next l (e.app e')
      | none => none)
    | _, _, _ => none
def optEq : Option Nat -> Option Nat -> Bool
  | none, none => true
  | some a, some b => Nat.beq a b
  | _, _ => false
def consK (all : List (Nat × Option Nat)) : List (Nat × Option Nat) -> Bool
  | [] => true
  | (k, x) :: l => match findK all k with
    | some y => (match optEq x y with
      | true => consK all l
      | false => false)
    | none => false
def inj1 (k i : Nat) : List (Nat × Option Nat) -> Bool
  | [] => true
  | (k', some i') :: l => (match Nat.beq i i' with
    | true => (match Nat.beq k k' with
      | true => inj1 k i l
      | false => false)
    | false => inj1 k i l)
  | (_, none) :: l => inj1 k i l
def injK (all : List (Nat × Option Nat)) : List (Nat × Option Nat) -> Bool
  | [] => true
  | (k, some i) :: l => (match inj1 k i all with
    | true => injK all l
    | false => false)
  | (_, none) :: l => injK all l
def oldK (n : Nat) : List (Nat × Option Nat) -> Bool
  | [] => true
  | (k, x) :: l => match Nat.blt k n with
    | true => (match optEq x (some k) with
      | true => oldK n l
      | false => false)
    | false => oldK n l
def memN : List Nat -> Nat -> Bool
  | [], _ => false
  | k :: l, j => match Nat.beq k j with
    | true => true
    | false => memN l j
def sealK (seals : List Nat) (keys : List (Nat × Option Nat)) : Own -> Bool
  | [] => true
  | (k, _) :: l => match findK keys k with
    | some (some i) => (match memN seals i with
      | true => false
      | false => sealK seals keys l)
    | _ => sealK seals keys l
inductive AllP : List (Unit -> Prop) -> Prop
  | nil : AllP []
  | cons {p ps} : p () -> AllP ps -> AllP (p :: ps)
def and' : Bool -> Bool -> Bool
  | true, b => b
  | false, _ => false
def idK (n : Nat) : Own -> List (Nat × Option Nat)
  | [] => []
  | (k, _) :: l => match Nat.blt k n with
    | true => (k, some k) :: idK n l
    | false => idK n l
def leSt (n : Nat) (st st' : St) : Option (List (Unit -> Prop)) :=
  match leVs st.own st'.t st.t with
  | some e => (match leOwn st.own st'.next st'.own (e.app ⟨[], idK n st'.own, []⟩) with
    | some e => (match and' (consK e.keys e.keys) (and' (injK e.keys e.keys) (and' (oldK n e.keys) (and' (sealK e.seals e.keys st'.own) (and' (kbVs st'.next st'.t) (Nat.ble n st'.next))))) with
      | true => some e.eqs
      | false => none)
    | none => none)
  | none => none
inductive LeP : Option (List (Unit -> Prop)) -> Prop
  | mk {l} : AllP l -> LeP (some l)
theorem app'_eq {α : Type} : ∀ (a b : List α), app' a b = a ++ b
  | [], b => rfl
  | x :: a, b => by simp [app', app'_eq a b]
theorem AllP_iff : ∀ {l : List (Unit -> Prop)}, AllP l ↔ ∀ p ∈ l, p ()
  | [] => ⟨fun _ => by simp, fun _ => .nil⟩
  | p :: l => ⟨fun h => by cases h with | cons h1 h2 => (intro q hq; rcases List.mem_cons.1 hq with rfl | hq; exact h1; exact AllP_iff.1 h2 q hq), fun h => .cons (h p (by simp)) (AllP_iff.2 fun q hq => h q (by simp [hq]))⟩
theorem and'_eq {a b : Bool} (h : and' a b = true) : a = true /\ b = true := by
  cases a <;> simp_all [and']
def KeyOk (β β' : Nat -> Value) (keys : List (Nat × Option Nat)) : Prop :=
  ∀ p ∈ keys, match p.2 with
    | some i => β' p.1 = β i
    | none => β' p.1 = .slice none 0 0
def SealOk (β : Nat -> Value) (S1 : Snap) (own : Own) (seals : List Nat) : Prop :=
  ∀ j ∈ seals, ∀ T sz l, lookB own j = some (.arr T sz l) -> DRep S1 (.sl sz (l ())) (β j)
theorem KeyOk.app {β β' : Nat -> Value} {a b : List (Nat × Option Nat)} (h : KeyOk β β' (app' a b)) : KeyOk β β' a /\ KeyOk β β' b := by
  rw [app'_eq] at h; exact ⟨fun p hp => h p (by simp [hp]), fun p hp => h p (by simp [hp])⟩
theorem SealOk.app {β : Nat -> Value} {S1 : Snap} {own : Own} {a b : List Nat} (h : SealOk β S1 own (app' a b)) : SealOk β S1 own a /\ SealOk β S1 own b := by
  rw [app'_eq] at h; exact ⟨fun p hp => h p (by simp [hp]), fun p hp => h p (by simp [hp])⟩
theorem AllP.app {a b : List (Unit -> Prop)} (h : AllP (app' a b)) : AllP a /\ AllP b := by
  rw [app'_eq, AllP_iff] at h; exact ⟨AllP_iff.2 fun p hp => h p (by simp [hp]), AllP_iff.2 fun p hp => h p (by simp [hp])⟩
theorem AllP.one {p : Unit -> Prop} (h : AllP [p]) : p () := AllP_iff.1 h p (by simp)
theorem kindEq_eq {a b : IntKind} (h : kindEq a b = true) : a = b := by
  cases a <;> cases b <;> first | rfl | cases h
mutual
theorem kbV_sound {n : Nat} : ∀ (v : SV), kbV n v = true -> KB n v
  | .op j _, h => by simpa [kbV, KB, Nat.blt_eq] using h
  | .os j, h => by simpa [kbV, KB, Nat.blt_eq] using h
  | .oe j _ _ _, h => by simpa [kbV, KB, Nat.blt_eq] using h
  | .om j, h => by simpa [kbV, KB, Nat.blt_eq] using h
  | .ov j _ _ _, h => by simpa [kbV, KB, Nat.blt_eq] using h
  | .fn _ c, h => by rw [KB]; exact kbVs_sound c (by simpa [kbV] using h)
  | .fno _ _, _ => by simp [KB]
  | .agg c, h => by rw [KB]; exact kbVs_sound c (by simpa [kbV] using h)
  | .tup c, h => by rw [KB]; exact kbVs_sound c (by simpa [kbV] using h)
  | .int _ _, _ => by simp [KB]
  | .bool _, _ => by simp [KB]
  | .bs _, _ => by simp [KB]
  | .str _, _ => by simp [KB]
  | .ds _ _, _ => by simp [KB]
  | .dp _ _ _ _, _ => by simp [KB]
  | .nils, _ => by simp [KB]
  | .raw _, _ => by simp [KB]
  | .any, _ => by simp [KB]
theorem kbVs_sound {n : Nat} : ∀ (v : List SV), kbVs n v = true -> KBs n v
  | [], _ => by simp [KBs]
  | a :: l, h => by
    rw [kbVs] at h; split at h
    . rename_i h1; rw [KBs]; exact ⟨kbV_sound a h1, kbVs_sound l h⟩
    . cases h
end
mutual
theorem leV_sound {β β' : Nat -> Value} {S S1 : Snap} {own : Own} (hS : Sub S S1) : ∀ (tg cu : SV) (e : LE) (v : Value), leV own tg cu = some e -> AllP e.eqs -> KeyOk β β' e.keys -> SealOk β S1 own e.seals -> SRep β S cu v -> SRep β' S1 tg v
  | .any, cu, e, v, h, _, _, _, _ => by simp [SRep]
  | .int k f, cu, e, v, h, ha, hk, hs, hr => by
    cases cu <;> simp only [leV] at h <;> try (cases h; done)
    split at h
    . rename_i hkk; cases h; have := ha.one; rw [SRep] at hr ⊢; rw [hr, kindEq_eq hkk, this]
    . cases h
  | .bool b, cu, e, v, h, ha, hk, hs, hr => by
    cases cu with
    | bool c => simp only [leV] at h; cases h; have h1 := ha.one; rw [SRep] at hr; rw [SRep, h1]; exact hr
    | bs c => simp only [leV] at h; cases h; have h1 := ha.one; rw [SRep] at hr; rw [SRep, h1]; exact hr
    | _ => simp [leV] at h
  | .bs b, cu, e, v, h, ha, hk, hs, hr => by
    cases cu with
    | bool c => simp only [leV] at h; cases h; have h1 := ha.one; rw [SRep] at hr; rw [SRep, h1]; exact hr
    | bs c => simp only [leV] at h; cases h; have h1 := ha.one; rw [SRep] at hr; rw [SRep, h1]; exact hr
    | _ => simp [leV] at h
  | .str b, cu, e, v, h, ha, hk, hs, hr => by
    cases cu <;> simp only [leV] at h <;> cases h <;> have := ha.one <;> rw [SRep] at hr <;> rw [SRep] <;> rw [hr, this]
  | .raw b, cu, e, v, h, ha, hk, hs, hr => by
    cases cu <;> simp only [leV] at h <;> cases h <;> have := ha.one <;> rw [SRep] at hr <;> rw [SRep] <;> rw [hr, this]
  | .nils, cu, e, v, h, ha, hk, hs, hr => by
    cases cu <;> simp only [leV] at h <;> cases h <;> rw [SRep] at hr <;> rw [SRep]
    . exact hr
    . have := ha.one; rw [hr, this]
  | .om j, cu, e, v, h, ha, hk, hs, hr => by
    cases cu with
    | om i =>
      simp only [leV] at h; cases h; have h1 : β' j = β i := hk (j, some i) (by simp)
      rw [SRep] at hr; rw [SRep]; exact ⟨by rw [hr.1, h1], hr.2⟩
    | _ => simp [leV] at h
  | .ov j sz x y, cu, e, v, h, ha, hk, hs, hr => by
    cases cu with
    | ov i sz' x' y' =>
      simp only [leV] at h; split at h
      . rename_i hz
        cases h; have h1 : β' j = β i := hk (j, some i) (by simp)
        have h2 := beq_true hz; have h4 := AllP_iff.1 ha; have h5 := h4 _ (List.mem_cons_self); have h6 := h4 _ (List.mem_cons_of_mem _ List.mem_cons_self); rw [SRep] at hr; rw [SRep]; rw [h1, h2, h5, h6]; exact hr
      . cases h
    | _ => simp [leV] at h
  | .ds sz l, cu, e, v, h, ha, hk, hs, hr => by
    cases cu <;> simp only [leV] at h <;> try (cases h; done)
    case ds sz' l' =>
      split at h
      . rename_i hz; cases h; have h1 := ha.one; have h2 := beq_true hz; rw [SRep] at hr ⊢; rw [h1, h2]; exact DRep_mono hS _ _ hr
      . cases h; obtain ⟨h1, h2⟩ := ha.one; rw [SRep, DRep] at hr ⊢; rw [h1]; rw [h2] at hr; rcases hr with ⟨_, hr⟩ | ⟨b, off, cap, c, T, fr, e1, e2, e3, e4⟩
        . exact .inl ⟨rfl, hr⟩
        . exact .inr ⟨b, off, cap, c, T, fr, e1, e2, hS _ _ e3, by simp [DRows]⟩
    case nils => cases h; have h1 := ha.one; rw [SRep] at hr; rw [SRep]; exact DRep_nils h1 hr
    case os j =>
      split at h
      . rename_i T sz' l' hj
        split at h
        . rename_i hz
          cases h; have h1 := ha.one; have h2 := beq_true hz; have h3 := hs j (by simp) T sz' l' hj
          rw [SRep] at hr; rw [SRep, h1, h2, hr.1]; exact h3
        . cases h
      . cases h
  | .os j, cu, e, v, h, ha, hk, hs, hr => by
    cases cu with
    | os i =>
      simp only [leV] at h; cases h; have h1 : β' j = β i := hk (j, some i) (by simp)
      rw [SRep] at hr; rw [SRep]; exact ⟨by rw [hr.1, h1], hr.2⟩
    | nils =>
      simp only [leV] at h; cases h; have h1 : β' j = .slice none 0 0 := hk (j, none) (by simp)
      rw [SRep] at hr; rw [SRep]; exact ⟨by rw [hr, h1], by rw [hr]; rfl⟩
    | _ => simp [leV] at h
  | .op j o, cu, e, v, h, ha, hk, hs, hr => by
    cases cu with
    | op i o' =>
      simp only [leV] at h; split at h
      . rename_i hz
        cases h; have h1 : β' j = β i := hk (j, some i) (by simp)
        have h2 := beq_true hz; rw [SRep] at hr; rw [SRep]; rw [h1, h2]; exact hr
      . cases h
    | _ => simp [leV] at h
  | .oe j sz ix o, cu, e, v, h, ha, hk, hs, hr => by
    cases cu with
    | oe i sz' ix' o' =>
      simp only [leV] at h; split at h
      . rename_i hz hz2
        cases h; have h1 : β' j = β i := hk (j, some i) (by simp)
        have h2 := beq_true hz; have h3 := beq_true hz2; have h4 := ha.one; rw [SRep] at hr; rw [SRep]; rw [h1, h2, h3, h4]; exact hr
      . cases h
    | _ => simp [leV] at h
  | .dp sz l ix o, cu, e, v, h, ha, hk, hs, hr => by
    cases cu <;> simp only [leV] at h <;> try (cases h; done)
    split at h
    . rename_i hz hz2
      cases h; have h2 := beq_true hz; have h3 := beq_true hz2; have h4 := AllP_iff.1 ha; have h5 := h4 _ (List.mem_cons_self); have h6 := h4 _ (List.mem_cons_of_mem _ List.mem_cons_self); have hr' := SRep_congr hS (n := 0) (fun _ _ => rfl) _ v (by simp [KB]) hr
      rw [SRep] at hr' ⊢; rw [h2, h3, h5, h6]; exact hr'
    . cases h
  | .fn f c, cu, e, v, h, ha, hk, hs, hr => by
    cases cu <;> simp only [leV] at h <;> try (cases h; done)
    split at h
    . rename_i hz
      have h2 := beq_true hz; rw [SRep] at hr ⊢; obtain ⟨cs, e1, e2⟩ := hr; exact ⟨cs, by rw [h2]; exact e1, leVs_sound hS c _ e _ h ha hk hs e2⟩
    . cases h
  | .fno f c, cu, e, v, h, ha, hk, hs, hr => by
    cases cu with
    | fno g d =>
      simp only [leV] at h; cases h; obtain ⟨h1, h2⟩ := ha.one; rw [SRep] at hr ⊢; obtain ⟨h0, cs, e1, e2⟩ := hr; rw [h1, h2]; exact ⟨h0, cs, e1, SReps_congr hS (n := 0) (fun j hj => absurd hj (Nat.not_lt_zero j)) _ _ h0 e2⟩
    | fn g d =>
      simp only [leV] at h; split at h
      . rename_i eqs hb he hc
        cases h; simp only [SRep] at hr ⊢; obtain ⟨cs, e1, e2⟩ := hr; have h0 := kbVs_sound _ hc; have := leVs_sound (β := β) (β' := β') (S1 := S1) (own := own) hS c d _ _ he ha (fun p h => by simp at h) (fun p h => by simp at h) e2
        rw [beq_true hb]; exact ⟨h0, cs, e1, SReps_congr (Sub.refl S1) (n := 0) (fun j hj => absurd hj (Nat.not_lt_zero j)) _ _ h0 this⟩
      . cases h
    | _ => simp [leV] at h
  | .agg l, cu, e, v, h, ha, hk, hs, hr => by
    cases cu <;> simp only [leV] at h <;> try (cases h; done)
    rw [SRep] at hr ⊢; obtain ⟨cs, e1, e2⟩ := hr; exact ⟨cs, e1, leVs_sound hS l _ e _ h ha hk hs e2⟩
  | .tup l, cu, e, v, h, ha, hk, hs, hr => by
    cases cu <;> simp only [leV] at h <;> try (cases h; done)
    rw [SRep] at hr ⊢; obtain ⟨cs, e1, e2⟩ := hr; exact ⟨cs, e1, leVs_sound hS l _ e _ h ha hk hs e2⟩
theorem leVs_sound {β β' : Nat -> Value} {S S1 : Snap} {own : Own} (hS : Sub S S1) : ∀ (tg cu : List SV) (e : LE) (v : List Value), leVs own tg cu = some e -> AllP e.eqs -> KeyOk β β' e.keys -> SealOk β S1 own e.seals -> SReps β S cu v -> SReps β' S1 tg v
  | [], cu, e, v, h, ha, hk, hs, hr => by
    cases cu with
    | nil => rw [SReps] at hr ⊢; exact hr
    | cons c cu => simp [leVs] at h
  | t :: tg, cu, e, v, h, ha, hk, hs, hr => by
    cases cu with
    | nil => simp [leVs] at h
    | cons c cu =>
      simp only [leVs] at h; split at h
      . rename_i x y h1 h2
        cases h; rw [SReps] at hr ⊢; obtain ⟨u, us, rfl, r1, r2⟩ := hr; exact ⟨u, us, rfl, leV_sound hS t c x u h1 ha.app.1 hk.app.1 hs.app.1 r1, leVs_sound hS tg cu y us h2 ha.app.2 hk.app.2 hs.app.2 r2⟩
      . cases h
end
theorem findK_mem : ∀ {l : List (Nat × Option Nat)} {k : Nat} {x : Option Nat}, findK l k = some x -> (k, x) ∈ l
  | [], k, x, h => by simp [findK] at h
  | (k', y) :: l, k, x, h => by
    rw [findK] at h; split at h
    . rename_i e; cases h; rw [beq_true e]; simp
    . exact List.mem_cons_of_mem _ (findK_mem h)
theorem optEq_eq {a b : Option Nat} (h : optEq a b = true) : a = b := by
  cases a <;> cases b <;> simp_all [optEq]
theorem consK_sound {all : List (Nat × Option Nat)} : ∀ {l : List (Nat × Option Nat)}, consK all l = true -> ∀ p ∈ l, findK all p.1 = some p.2
  | [], _, p, hp => by simp at hp
  | (k, x) :: l, h, p, hp => by
    rw [consK] at h; split at h
    . rename_i y hy
      split at h
      . rename_i hxy
        rcases List.mem_cons.1 hp with rfl | hp
        . rw [hy, optEq_eq hxy]
        . exact consK_sound h p hp
      . cases h
    . cases h
theorem inj1_sound {k i : Nat} : ∀ {l : List (Nat × Option Nat)}, inj1 k i l = true -> ∀ k', (k', some i) ∈ l -> k' = k
  | [], _, k', hp => by simp at hp
  | (k1, x) :: l, h, k', hp => by
    cases x with
    | none =>
      rw [inj1] at h; rcases List.mem_cons.1 hp with hp | hp
      . cases hp
      . exact inj1_sound h k' hp
    | some i' =>
      rw [inj1] at h; split at h
      . split at h
        . rename_i e1 e2
          rcases List.mem_cons.1 hp with hp | hp
          . cases hp; exact (beq_true e2).symm
          . exact inj1_sound h k' hp
        . cases h
      . rename_i e1
        rcases List.mem_cons.1 hp with hp | hp
        . cases hp; exact absurd rfl (beq_false e1)
        . exact inj1_sound h k' hp
theorem injK_sound {all : List (Nat × Option Nat)} : ∀ {l : List (Nat × Option Nat)}, injK all l = true -> ∀ k i, (k, some i) ∈ l -> ∀ k', (k', some i) ∈ all -> k' = k
  | [], _, k, i, hp => by simp at hp
  | (k1, x) :: l, h, k, i, hp => by
    cases x with
    | none =>
      rw [injK] at h; rcases List.mem_cons.1 hp with hp | hp
      . cases hp
      . exact injK_sound h k i hp
    | some i' =>
      rw [injK] at h; split at h
      . rename_i e1
        rcases List.mem_cons.1 hp with hp | hp
        . cases hp; exact inj1_sound e1
        . exact injK_sound h k i hp
      . cases h
theorem oldK_sound {n : Nat} : ∀ {l : List (Nat × Option Nat)}, oldK n l = true -> ∀ p ∈ l, p.1 < n -> p.2 = some p.1
  | [], _, p, hp => by simp at hp
  | (k, x) :: l, h, p, hp => by
    rw [oldK] at h; split at h
    . split at h
      . rename_i e1 e2
        rcases List.mem_cons.1 hp with rfl | hp
        . intro _; exact optEq_eq e2
        . exact oldK_sound h p hp
      . cases h
    . rename_i e1
      rcases List.mem_cons.1 hp with rfl | hp
      . intro hlt; have h2 : Nat.blt k n = true := by rw [Nat.blt_eq]; exact hlt
        rw [e1] at h2; cases h2
      . exact oldK_sound h p hp
theorem memN_mem : ∀ {l : List Nat} {j : Nat}, memN l j = false -> j ∉ l
  | [], j, _ => by simp
  | k :: l, j, h => by
    rw [memN] at h; split at h
    . cases h
    . rename_i e; simp only [List.mem_cons, not_or]; exact ⟨fun h => beq_false e h.symm, memN_mem h⟩
theorem sealK_sound {seals : List Nat} {keys : List (Nat × Option Nat)} : ∀ {l : Own}, sealK seals keys l = true -> ∀ k b, lookB l k = some b -> ∀ i, findK keys k = some (some i) -> i ∉ seals
  | [], _, k, b, hk => by simp [lookB] at hk
  | (k1, b1) :: l, h, k, b, hk => by
    rw [lookB_cons] at hk; rw [sealK] at h; intro i hi; split at h
    . rename_i i' e1
      split at h
      . cases h
      . rename_i e2
        split at hk
        . rename_i e; subst e; rw [e1] at hi; cases hi; exact memN_mem e2
        . exact sealK_sound h k b hk i hi
    . rename_i e1
      split at hk
      . rename_i e; subst e; exact absurd hi (e1 i)
      . exact sealK_sound h k b hk i hi
theorem leB_sound {β β' : Nat -> Value} {S S1 : Snap} {own : Own} {w : World} (hS : Sub S S1) {j i : Nat} (hji : β' j = β i) : ∀ (tb cb : Blk) (e : LE), leB own tb cb = some e -> AllP e.eqs -> KeyOk β β' e.keys -> SealOk β S1 own e.seals -> BRep β S w i cb -> BRep β' S1 w j tb := by
  intro tb cb e h ha hk hs hr
  cases tb with
  | cells T c =>
    cases cb with
    | cells T' c' =>
      simp only [leB] at h; split at h
      . rename_i e1 e2
        obtain ⟨b, cs, r1, r2, r3, r4⟩ := hr; exact ⟨b, cs, by rw [hji]; exact r1, by rw [beq_true e1]; exact r2, leVs_sound hS c c' e _ h ha hk hs r3, e2⟩
      . cases h
    | _ => simp [leB] at h
  | arr T sz l =>
    cases cb with
    | arr T' sz' l' =>
      simp only [leB] at h; split at h
      . rename_i e1 e2
        cases h; have h1 := ha.one; obtain ⟨xs, r1, r2⟩ := hr; exact ⟨xs, by rw [hji, beq_true e1, beq_true e2, h1]; exact r1, by rw [h1, beq_true e2]; exact DRows_mono hS _ _ _ r2⟩
      . cases h
    | _ => simp [leB] at h
  | full T sz l c =>
    cases cb with
    | full T' sz' l' c' =>
      simp only [leB] at h; split at h
      . rename_i e1 e2
        cases h; have h4 := AllP_iff.1 ha; have h5 := h4 _ (List.mem_cons_self); have h6 := h4 _ (List.mem_cons_of_mem _ List.mem_cons_self); have hr' := BRep_congrC (β' := β) (w' := w) (n := i + 1) hS.c (fun _ _ => rfl) (Nat.lt_succ_self i) (by trivial) (fun _ _ => rfl) hr
        unfold BRep at hr' ⊢; simp only [h5, h6, beq_true e1, beq_true e2, hji]; exact hr'
      . cases h
    | _ => simp [leB] at h
  | hole T l hh q =>
    cases cb with
    | hole T' l' hh' q' =>
      simp only [leB] at h; split at h
      . rename_i e1
        cases h; have h4 := AllP_iff.1 ha; have h5 : l () = l' () := h4 _ (List.mem_cons_self); have h6 : hh () = hh' () := h4 _ (List.mem_cons_of_mem _ List.mem_cons_self)
        have h7 : β' q = β q' := by
          have := hk (q, some q') List.mem_cons_self; simpa using this
        obtain ⟨xs, r1, r2⟩ := hr; refine ⟨xs, ?_⟩; rw [hji, beq_true e1, h5, h6, h7]; exact ⟨r1, DRows_mono hS _ _ _ r2⟩
      . cases h
    | _ => simp [leB] at h
  | map T m =>
    cases cb with
    | map T' m' =>
      simp only [leB] at h; split at h
      . cases h; have h1 := ha.one; obtain ⟨b, es, k, r1, r2, r3⟩ := hr; exact ⟨b, es, k, by rw [hji]; exact r1, r2, by rw [h1]; exact MRep_monoC hS.c _ _ r3⟩
      . cases h
    | _ => simp [leB] at h
theorem leOwn_sound {β β' : Nat -> Value} {S S1 : Snap} {own : Own} {w : World} {next : Nat} (hS : Sub S S1) (hb : ∀ j b, lookB own j = some b -> BRep β S w j b) : ∀ (l : Own) (e0 e : LE), leOwn own next l e0 = some e -> AllP e.eqs -> KeyOk β β' e.keys -> SealOk β S1 own e.seals ->
    (AllP e0.eqs /\ KeyOk β β' e0.keys /\ SealOk β S1 own e0.seals) /\ ∀ k b, lookB l k = some b -> k < next /\ KBb next b /\ BRep β' S1 w k b /\ ∃ x, (k, x) ∈ e.keys /\ ∀ i, x = some i -> ∃ c, lookB own i = some c
  | [], e0, e, h, ha, hk, hs => by
    simp only [leOwn] at h; cases h; exact ⟨⟨ha, hk, hs⟩, fun k b h => by simp [lookB] at h⟩
  | (k, b) :: l, e0, e, h, ha, hk, hs => by
    simp only [leOwn] at h
    have mono : ∀ (l : Own) (e0 e : LE), leOwn own next l e0 = some e -> ∀ p ∈ e0.keys, p ∈ e.keys := by
      intro l
      induction l with
      | nil => intro e0 e h p hp; simp only [leOwn] at h; cases h; exact hp
      | cons q l ih =>
        intro e0 e h p hp; simp only [leOwn] at h; split at h
        . split at h
          . split at h
            . exact ih _ _ h p (by simp [LE.app, app'_eq, hp])
            . cases h
          . cases h
        . split at h
          . exact ih _ _ h p (by simp [LE.app, app'_eq, hp])
          . cases h
        . cases h
    have kbb : kbB next b = true -> KBb next b := by
      intro h
      cases b with
      | cells T c => exact kbVs_sound c (by simpa [kbB] using h)
      | hole T l hh q => exact Nat.blt_eq.mp (by simpa [kbB] using h)
      | _ => trivial
    split at h
    . rename_i i e1 e2 e3
      split at h
      . rename_i c hc
        split at h
        . rename_i e' he'
          obtain ⟨⟨g1, g2, g3⟩, g4⟩ := leOwn_sound hS hb l _ e h ha hk hs; have a1 := AllP.app (a := e0.eqs) (b := e'.eqs) g1; have a2 := KeyOk.app (a := e0.keys) (b := e'.keys) g2; have a3 := SealOk.app (a := e0.seals) (b := e'.seals) g3; refine ⟨⟨a1.1, a2.1, a3.1⟩, fun k' b' hk' => ?_⟩
          rw [lookB_cons] at hk'; split at hk'
          . rename_i hkk
            cases hk'; subst hkk; have hm := findK_mem e3; have hji : β' k = β i := a2.1 (k, some i) hm; exact ⟨by simpa [Nat.blt_eq] using e1, kbb e2, leB_sound hS hji b c e' he' a1.2 a2.2 a3.2 (hb i c hc), some i, mono l _ e h _ (by simp [LE.app, app'_eq, hm]), fun i' hi' => by cases hi'; exact ⟨c, hc⟩⟩
          . exact g4 k' b' hk'
        . cases h
      . cases h
    . rename_i e1 e2 e3
      split at h
      . rename_i e' he'
        obtain ⟨⟨g1, g2, g3⟩, g4⟩ := leOwn_sound hS hb l _ e h ha hk hs; have a1 := AllP.app (a := e0.eqs) (b := e'.eqs) g1; have a2 := KeyOk.app (a := e0.keys) (b := e'.keys) g2; have a3 := SealOk.app (a := e0.seals) (b := e'.seals) g3; refine ⟨⟨a1.1, a2.1, a3.1⟩, fun k' b' hk' => ?_⟩
        rw [lookB_cons] at hk'; split at hk'
        . rename_i hkk
          cases hk'; subst hkk; have hm := findK_mem e3; have hji : β' k = .slice none 0 0 := a2.1 (k, none) hm; refine ⟨by simpa [Nat.blt_eq] using e1, kbb e2, ?_, none, mono l _ e h _ (by simp [LE.app, app'_eq, hm]), fun i' hi' => by cases hi'⟩
          cases b with
          | arr T sz ll =>
            simp only [nilB] at he'; cases he'; have h1 := a1.2.one; exact ⟨[], ⟨by simp [h1], .inl ⟨hji, by simp [h1]⟩⟩, by rw [h1, DRows]⟩
          | _ => simp [nilB] at he'
        . exact g4 k' b' hk'
      . cases h
    . cases h
theorem seal_all {E : Env} {β : Nat -> Value} {n : Nat} {own : Own} {w : World} (hk : ∀ j b, lookB own j = some b -> j < n /\ KBb n b) : ∀ (l : List Nat) (S : Snap), Mem E.w0 E.X E.S0 β S own w ->
    ∃ S1 own1, Sub S S1 /\ Mem E.w0 E.X E.S0 β S1 own1 w /\ SealOk β S1 own l /\ (∀ j b, lookB own1 j = some b -> lookB own j = some b) /\ ∀ j, j ∉ l -> lookB own1 j = lookB own j
  | [], S, m => ⟨S, own, Sub.refl S, m, fun j hj => by simp at hj, fun _ _ h => h, fun _ _ => rfl⟩
  | j :: l, S, m => by
    obtain ⟨S1, own1, s1, s2, s3, s4, s5⟩ := seal_all hk l S m; by_cases hl : ∃ T sz ll, lookB own1 j = some (.arr T sz ll)
    . obtain ⟨T, sz, ll, hj⟩ := hl; obtain ⟨S2, t1, t2, t3⟩ := s2.shut (fun i b hi => hk i b (s4 i b hi)) hj
      refine ⟨S2, delB own1 j, s1.trans t1, t2, ?_, ?_, ?_⟩
      . intro i hi T' sz' l' hl'; rcases List.mem_cons.1 hi with rfl | hi
        . rw [s4 i _ hj] at hl'; cases hl'; exact t3
        . exact DRep_mono t1 _ _ (s3 i hi T' sz' l' hl')
      . intro i b hi; rw [lookB_delB] at hi; split at hi
        . cases hi
        . exact s4 i b hi
      . intro i hi; simp only [List.mem_cons, not_or] at hi; rw [lookB_delB, if_neg (fun h => hi.1 h.symm)]
        exact s5 i hi.2
    . refine ⟨S1, own1, s1, s2, ?_, s4, fun i hi => s5 i (fun h => hi (List.mem_cons_of_mem _ h))⟩
      intro i hi T' sz' l' hl'; rcases List.mem_cons.1 hi with rfl | hi
      . by_cases hil : i ∈ l
        . exact s3 i hil T' sz' l' hl'
        . exact absurd ⟨T', sz', l', by rw [s5 i hil]; exact hl'⟩ hl
      . exact s3 i hi T' sz' l' hl'
theorem le_of {n : Nat} {st st' : St} (h : LeP (leSt n st st')) : Le n st st' := by
  intro E a w β S hE r
  cases hh : leSt n st st' with
  | none => rw [hh] at h; cases h
  | some eqs =>
    rw [hh] at h
    cases h with
    | mk ha =>
      simp only [leSt] at hh; split at hh
      . rename_i e0 he0
        split at hh
        . rename_i e he
          split at hh
          . rename_i hc
            cases hh; obtain ⟨c1, hc⟩ := and'_eq hc; obtain ⟨c2, hc⟩ := and'_eq hc; obtain ⟨c3, hc⟩ := and'_eq hc; obtain ⟨c4, hc⟩ := and'_eq hc; obtain ⟨c5, c6⟩ := and'_eq hc; have c6 := Nat.le_of_ble_eq_true c6; obtain ⟨S1, own1, s1, s2, s3, s4, s5⟩ := seal_all r.ko e.seals S r.mem
            let β' : Nat -> Value := fun j => match findK e.keys j with
              | some (some i) => β i
              | some none => .slice none 0 0
              | none => β j
            have hkey : KeyOk β β' e.keys := by
              intro p hp; have hc := consK_sound c1 p hp; obtain ⟨k, x⟩ := p; have hc' : findK e.keys k = some x := hc
              cases x with
              | some i => show β' k = β i; simp only [β', hc']
              | none => show β' k = .slice none 0 0; simp only [β', hc']
            obtain ⟨⟨g1, g2, g3⟩, g4⟩ := leOwn_sound (w := w) (S := S) s1 r.mem.blk st'.own _ e he ha hkey s3; have htm := leVs_sound s1 st'.t st.t e0 _ he0 (AllP.app g1).1 (KeyOk.app g2).1 (SealOk.app g3).1 r.tm
            have hown : ∀ k b, lookB st'.own k = some b -> ∀ x, blkOf (β' k) = some x -> ∃ i, (k, some i) ∈ e.keys /\ β' k = β i /\ i ∉ e.seals /\ ∃ c, lookB own1 i = some c := by
              intro k b hk x hx; obtain ⟨_, _, hbr, y, hy, hyc⟩ := g4 k b hk; have hf := consK_sound c1 (k, y) hy
              cases y with
              | none =>
                have : β' k = .slice none 0 0 := hkey (k, none) hy; rw [this] at hx; simp [blkOf] at hx
              | some i =>
                have hi := sealK_sound c4 k b hk i hf; refine ⟨i, hy, hkey (k, some i) hy, hi, ?_⟩; rw [s5 i hi]; exact hyc i rfl
            refine ⟨β', S1, ⟨htm, r.df.mono s1, kbVs_sound _ c5, fun k b hk => ⟨(g4 k b hk).1, (g4 k b hk).2.1⟩, by omega, ?_, ?_⟩, s1⟩
            . intro j hj; rw [<- r.old j hj]; show β' j = β j; simp only [β']
              cases hf : findK e.keys j with
              | none => rfl
              | some x =>
                have : x = some j := oldK_sound c3 (j, x) (findK_mem hf) (by rw [hE] at hj; exact hj)
                rw [this]
            . refine ⟨s2.os, s2.tape, s2.output, s2.size, s2.frame, s2.sub, s2.new, s2.sat, fun k b hk => (g4 k b hk).2.2.1, ?_, ?_, ?_⟩
              . intro k k' b b' x hk hk' hx hx'; obtain ⟨i, i1, i2, i3, c, i4⟩ := hown k b hk x hx; obtain ⟨i', i1', i2', i3', c', i4'⟩ := hown k' b' hk' x hx'; rw [i2] at hx; rw [i2'] at hx'; have := s2.inj i i' c c' x i4 i4' hx hx'; subst this; exact injK_sound c2 k' i i1' k i1
              . intro k b x hk hx; obtain ⟨i, i1, i2, i3, c, i4⟩ := hown k b hk x hx; rw [i2] at hx; exact s2.out i c x i4 hx
              . intro k b x hk hx; obtain ⟨i, i1, i2, i3, c, i4⟩ := hown k b hk x hx; rw [i2] at hx; exact s2.mine i c x i4 hx
          . cases hh
        . cases hh
      . cases hh
end Go.Eng
namespace Go.Eng
def okZ : Value -> Bool
  | .int _ _ => true
  | .bool _ => true
  | .string s => s.size == 0
  | .slice none 0 0 => true
  | .pointer none => true
  | .map none => true
  | .nilFunc => true
  | .nilIface => true
  | _ => false
def tdOf (P : Program) : TypeDesc -> TD
  | .int k => .int k
  | .bool => .bool
  | .string => .str
  | .slice e => .sl e
  | .pointer e => .ptr e
  | .map k e => .map k e
  | .struct a => if a.toList.all fun f => (P.info? f.type).isSome then .struct (a.toList.map fun f => (f.offset, P.cellsOf f.type)) else .bad
  | .array _ _ => .bad
  | _ => .other
def badT : TI := ⟨.bad, 0, 0, [], false⟩
def fieldChk (P : Program) : Nat -> List Field -> List Value -> Bool
  | _, [], [] => true
  | i, f :: fs, z :: zs => f.name != "_" && f.offset == i && (match z, P.underlying f.type with
    | .int k _, some (.int k') => decide (k = k')
    | .string _, some .string => true
    | _, _ => false) && fieldChk P (i + 1) fs zs
  | _, _, _ => false
def eqChk (P : Program) (t : Nat) (zs : List Value) : Bool :=
  match P.underlying t with
  | some (.struct fs) => !P.stoodInHeld t && !P.eqGuardType P.depth t && fieldChk P 0 fs.toList zs
  | _ => false
def isAggV : Value -> Bool
  | .agg _ => true
  | _ => false
def tiOf (P : Program) (t : Nat) : TI :=
  match P.info? t, P.underlying t with
  | some i, some d => match i.zero with
    | some z => if z.cells.toList.all okZ && (isAggD (tdOf P d) || !isAggV z) then (match tdOf P d with | .bad => badT | td => ⟨td, i.size, i.bytes, z.cells.toList, eqChk P t z.cells.toList⟩) else badT
    | none => badT
  | _, _ => badT
theorem eqFields_run {P : Program} {w : World} : ∀ (fs : List Field) (zs xs ys : List Value) (i : Nat) (as bs : Array Value), fieldChk P i fs zs = true -> Alike zs xs -> Alike zs ys -> as.toList.drop i = xs -> bs.toList.drop i = ys ->
    ∃ b : Bool, (Op.eqFields 9999 as bs fs).run P w = .ok b w /\ (b = true ↔ xs = ys)
  | [], zs, xs, ys, i, as, bs, h, hx, hy, ha, hb => by
    cases zs with
    | cons z zs => simp [fieldChk] at h
    | nil =>
      rw [Alike] at hx hy; exact ⟨true, rfl, by simp [hx, hy]⟩
  | f :: fs, zs, xs, ys, i, as, bs, h, hx, hy, ha, hb => by
    cases zs with
    | nil => simp [fieldChk] at h
    | cons z zs =>
      simp only [fieldChk, Bool.and_eq_true] at h; obtain ⟨⟨⟨h1, h2⟩, h3⟩, h4⟩ := h; have h1 : f.name ≠ "_" := by simpa using h1
      have h2 : f.offset = i := by simpa using h2
      have hget : ∀ (as : Array Value) (x : Value) (r : List Value), as.toList.drop i = x :: r -> as[i]? = some x /\ as.toList.drop (i + 1) = r := by
        intro as x r h; constructor
        . have := congrArg (·[0]?) h; simpa using this
        . have := congrArg (List.drop 1) h; simpa using this
      have part_at : ∀ (as : Array Value) (x : Value), as[i]? = some x -> (∃ d, P.underlying f.type = some d /\ ((∃ k, d = .int k) \/ d = .string)) -> (part f.type as f.offset).run P w = .ok x w := by
        intro as x hx ⟨d, hd, hk⟩; rcases hk with ⟨k, rfl⟩ | rfl <;> simp [part, isAgg, run_underlying hd, h2, hx]
      cases z with
      | int k n0 =>
        rw [Alike] at hx hy; obtain ⟨x, xs', rfl, hx⟩ := hx; obtain ⟨y, ys', rfl, hy⟩ := hy; obtain ⟨a1, a2⟩ := hget as _ _ ha; obtain ⟨b1, b2⟩ := hget bs _ _ hb
        have hu : P.underlying f.type = some (.int k) := by
          revert h3
          cases hu : P.underlying f.type with
          | none => simp
          | some d =>
            cases d <;> simp
            exact Eq.symm
        obtain ⟨b, e1, e2⟩ := eqFields_run fs zs xs' ys' (i + 1) as bs h4 hx hy a2 b2; have hp := part_at as _ a1 ⟨_, hu, .inl ⟨k, rfl⟩⟩; have hq := part_at bs _ b1 ⟨_, hu, .inl ⟨k, rfl⟩⟩; have he := run_equalIn_int (P := P) w 9998 f.type k k x y hu; by_cases hxy : x = y
        . subst hxy; refine ⟨b, ?_, by simp [e2]⟩
          simp [Op.eqFields, h1, hp, hq, he]; exact e1
        . refine ⟨false, ?_, by simp [hxy]⟩
          simp [Op.eqFields, h1, hp, hq, he, hxy]
      | string s0 =>
        rw [Alike] at hx hy; obtain ⟨x, xs', rfl, hx⟩ := hx; obtain ⟨y, ys', rfl, hy⟩ := hy; obtain ⟨a1, a2⟩ := hget as _ _ ha; obtain ⟨b1, b2⟩ := hget bs _ _ hb
        have hu : P.underlying f.type = some .string := by
          revert h3
          cases hu : P.underlying f.type with
          | none => simp
          | some d => cases d <;> simp
        obtain ⟨b, e1, e2⟩ := eqFields_run fs zs xs' ys' (i + 1) as bs h4 hx hy a2 b2; have hp := part_at as _ a1 ⟨_, hu, .inr rfl⟩; have hq := part_at bs _ b1 ⟨_, hu, .inr rfl⟩; have he := run_equalIn_string (P := P) w 9998 f.type x y hu; rw [bytes_toList_eq] at he; by_cases hxy : x = y
        . subst hxy; refine ⟨b, ?_, by simp [e2]⟩
          simp [Op.eqFields, h1, hp, hq, he]; exact e1
        . refine ⟨false, ?_, by simp [hxy]⟩
          simp [Op.eqFields, h1, hp, hq, he, hxy]
      | _ => simp [Alike] at hx
theorem eqChk_ok {P : Program} {t : Nat} {zs : List Value} (h : eqChk P t zs = true) : EqSem P t zs := by
  intro w xs ys hx hy; unfold eqChk at h; split at h
  . rename_i fs hu
    simp only [Bool.and_eq_true, Bool.not_eq_true'] at h; obtain ⟨⟨h1, h2⟩, h3⟩ := h; have hf : P.fieldsOf t = fs := by unfold Program.fieldsOf; rw [hu]
    obtain ⟨b, e1, e2⟩ := eqFields_run (P := P) (w := w) fs.toList zs xs ys 0 xs.toArray ys.toArray h3 hx hy (by simp) (by simp)
    refine ⟨⟨b, ?_, e2⟩, fun op x y => run_eqGuard_agg w op t x y _ _ h2⟩
    rw [run_equalIn_agg w 9999 t _ _ (by rw [hf]; exact hu) h1, hf]
    exact e1
  . cases h
theorem tdOf_ok (P : Program) (d : TypeDesc) : tdOf P d = .bad \/ tdOk P (tdOf P d) d := by
  cases d <;> try (right; rfl)
  case struct a =>
    simp only [tdOf]; split
    . rename_i h
      right
      exact ⟨a, rfl, rfl, fun f hf => List.all_eq_true.1 h f hf⟩
    . left; rfl
  case array n e => left; rfl
theorem tiOf_ok (P : Program) (t : Nat) : tiOk P t (tiOf P t) /\ ((tiOf P t).eq = true -> EqSem P t (tiOf P t).zero) /\
    ∀ info z, (tiOf P t).d ≠ .bad -> isAggD (tiOf P t).d = false -> P.info? t = some info -> info.zero = some z -> ∀ cs, z ≠ .agg cs := by
  have hbad : tiOk P t badT /\ (badT.eq = true -> EqSem P t badT.zero) /\ ∀ info z, badT.d ≠ .bad -> isAggD badT.d = false -> P.info? t = some info -> info.zero = some z -> ∀ cs, z ≠ .agg cs :=
    ⟨.inl rfl, fun h => (by cases h), fun _ _ h => absurd rfl h⟩
  unfold tiOf; split
  . rename_i i d hi hd
    split
    . rename_i z hz
      split
      . rename_i hc
        split
        . exact hbad
        . rename_i hnb
          rcases tdOf_ok P d with h | h
          . exact absurd h hnb
          . refine ⟨.inr ⟨i, d, z, hi, hd, rfl, rfl, hz, rfl, h⟩, fun h => eqChk_ok h, fun info z' _ ha h1 h2 cs => ?_⟩
            rw [hi] at h1; cases h1; rw [hz] at h2; cases h2; rintro rfl; have ha : isAggD (tdOf P d) = false := ha; simp [ha, isAggV] at hc
      . exact hbad
    . exact hbad
  . exact hbad
theorem tabOk_of {P : Program} {l : List TI} (hm : P.follows .mixedOrders = true) (h : l = (List.range l.length).map (tiOf P)) : TabOk P (nth badT l) := by
  have hn : ∀ (l : List TI) (t : Nat), nth badT l t = (l[t]?).getD badT := by
    intro l
    induction l with
    | nil => intro t; cases t <;> rfl
    | cons a l ih => intro t; cases t with
      | zero => rfl
      | succ t => simpa [nth] using ih t
  have key : ∀ t, nth badT l t = tiOf P t \/ nth badT l t = badT := by
    intro t; rw [hn]; by_cases ht : t < l.length
    . have : l[t]? = some (tiOf P t) := by
        conv => lhs; rw [h]
        simp [ht]
      rw [this]; exact .inl rfl
    . rw [List.getElem?_eq_none (by omega)]
      exact .inr rfl
  refine ⟨fun t => ?_, hm, fun t => ?_, fun t => ?_⟩
  . rcases key t with e | e
    . rw [e]; exact (tiOf_ok P t).1
    . rw [e]; exact .inl rfl
  . rcases key t with e | e
    . rw [e]; exact (tiOf_ok P t).2.1
    . rw [e]; exact fun h => by cases h
  . rcases key t with e | e
    . rw [e]; exact (tiOf_ok P t).2.2
    . rw [e]; exact fun _ _ h => absurd rfl h
end Go.Eng
namespace Go.Eng
mutual
def shV (n : Nat) : SV -> SV
  | .op j o => .op (j + n) o
  | .os j => .os (j + n)
  | .oe j sz i o => .oe (j + n) sz i o
  | .om j => .om (j + n)
  | .ov j sz a b => .ov (j + n) sz a b
  | .fn f c => .fn f (shVs n c)
  | .fno f c => .fno f c
  | .agg l => .agg (shVs n l)
  | .tup l => .tup (shVs n l)
  | .int k f => .int k f
  | .bool b => .bool b
  | .bs b => .bs b
  | .str s => .str s
  | .ds sz l => .ds sz l
  | .dp sz l i o => .dp sz l i o
  | .nils => .nils
  | .raw v => .raw v
  | .any => .any
def shVs (n : Nat) : List SV -> List SV
  | [] => []
  | a :: l => shV n a :: shVs n l
end
def shB (n : Nat) : Blk -> Blk
  | .cells T c => .cells T (shVs n c)
  | .arr T sz l => .arr T sz l
  | .full T sz l c => .full T sz l c
  | .map T m => .map T m
  | .hole T l h q => .hole T l h (q + n)
def shO (n : Nat) : Own -> Own
  | [] => []
  | (k, b) :: l => (k + n, shB n b) :: shO n l
mutual
theorem shV_rep {β β' : Nat -> Value} {S : Snap} {n : Nat} (h : ∀ j, β' (j + n) = β j) : ∀ (s : SV) (v), SRep β S s v -> SRep β' S (shV n s) v
  | .op j o, v, hs => by rw [shV, SRep]; rw [SRep] at hs; rw [h]; exact hs
  | .os j, v, hs => by rw [shV, SRep]; rw [SRep] at hs; rw [h]; exact hs
  | .oe j sz i o, v, hs => by rw [shV, SRep]; rw [SRep] at hs; rw [h]; exact hs
  | .om j, v, hs => by rw [shV, SRep]; rw [SRep] at hs; rw [h]; exact hs
  | .ov j sz a b, v, hs => by rw [shV, SRep]; rw [SRep] at hs; rw [h]; exact hs
  | .fn f c, v, hs => by rw [shV, SRep]; rw [SRep] at hs; obtain ⟨cs, e, h2⟩ := hs; exact ⟨cs, e, shVs_rep h c _ h2⟩
  | .fno f c, v, hs => by rw [shV, SRep]; rw [SRep] at hs; exact hs
  | .agg l, v, hs => by rw [shV, SRep]; rw [SRep] at hs; obtain ⟨cs, e, h2⟩ := hs; exact ⟨cs, e, shVs_rep h l _ h2⟩
  | .tup l, v, hs => by rw [shV, SRep]; rw [SRep] at hs; obtain ⟨cs, e, h2⟩ := hs; exact ⟨cs, e, shVs_rep h l _ h2⟩
  | .int k f, v, hs => by rw [shV, SRep]; rw [SRep] at hs; exact hs
  | .bool b, v, hs => by rw [shV, SRep]; rw [SRep] at hs; exact hs
  | .bs b, v, hs => by rw [shV, SRep]; rw [SRep] at hs; exact hs
  | .str s, v, hs => by rw [shV, SRep]; rw [SRep] at hs; exact hs
  | .ds sz l, v, hs => by rw [shV, SRep]; rw [SRep] at hs; exact hs
  | .dp sz l i o, v, hs => by rw [shV, SRep]; rw [SRep] at hs; exact hs
  | .nils, v, hs => by rw [shV, SRep]; rw [SRep] at hs; exact hs
  | .raw u, v, hs => by rw [shV, SRep]; rw [SRep] at hs; exact hs
  | .any, v, hs => by rw [shV, SRep]; trivial
theorem shVs_rep {β β' : Nat -> Value} {S : Snap} {n : Nat} (h : ∀ j, β' (j + n) = β j) : ∀ (s : List SV) (v), SReps β S s v -> SReps β' S (shVs n s) v
  | [], v, hs => by rw [shVs]; rw [SReps] at hs ⊢; exact hs
  | a :: l, v, hs => by
    rw [shVs, SReps]; rw [SReps] at hs; obtain ⟨x, xs, e, h1, h2⟩ := hs; exact ⟨x, xs, e, shV_rep h a x h1, shVs_rep h l xs h2⟩
end
theorem shVs_one {n : Nat} : ∀ (l : List SV), allOne (shVs n l) = allOne l
  | [] => by rw [shVs]
  | a :: l => by
    rw [shVs, allOne, allOne, shVs_one l]; have : SV.one (shV n a) = SV.one a := by cases a <;> simp [shV, SV.one]
    rw [this]
theorem lookB_shO {n : Nat} : ∀ (H : Own) (j : Nat), lookB (shO n H) (j + n) = (lookB H j).map (shB n) /\ ∀ i, i < n -> lookB (shO n H) i = none
  | [], j => ⟨rfl, fun _ _ => rfl⟩
  | (k, b) :: H, j => by
    obtain ⟨h1, h2⟩ := lookB_shO (n := n) H j; refine ⟨?_, fun i hi => ?_⟩
    . rw [shO, lookB_cons, lookB_cons, h1]; by_cases e : k = j
      . simp [e]
      . rw [if_neg (by omega), if_neg e]
    . rw [shO, lookB_cons, if_neg (by omega), h2 i hi]
theorem lookB_shO_inv {n : Nat} {H : Own} {i : Nat} {b : Blk} (h : lookB (shO n H) i = some b) : ∃ j c, i = j + n /\ lookB H j = some c /\ b = shB n c := by
  rcases Nat.lt_or_ge i n with hi | hi
  . rw [(lookB_shO H 0).2 i hi] at h; cases h
  . have e : i = (i - n) + n := by omega
    rw [e, (lookB_shO H (i - n)).1] at h
    cases hc : lookB H (i - n) with
    | none => rw [hc] at h; cases h
    | some c => rw [hc] at h; cases h; exact ⟨i - n, c, e, hc, rfl⟩
theorem shB_rep {β β' : Nat -> Value} {S : Snap} {n : Nat} {w : World} (h : ∀ j, β' (j + n) = β j) {j : Nat} {b : Blk} (hb : BRep β S w j b) : BRep β' S w (j + n) (shB n b) := by
  cases b with
  | cells T c =>
    obtain ⟨x, cs, h1, h2, h3, h4⟩ := hb; exact ⟨x, cs, by rw [h]; exact h1, h2, shVs_rep h c _ h3, by rw [shVs_one]; exact h4⟩
  | arr T sz l =>
    obtain ⟨xs, h1, h2⟩ := hb; exact ⟨xs, by rw [h]; exact h1, h2⟩
  | hole T l hh q =>
    obtain ⟨xs, h1, h2⟩ := hb; refine ⟨xs, ?_⟩; rw [h, h]; exact ⟨h1, h2⟩
  | full T sz l c =>
    rcases hb with ⟨h1, h2⟩ | ⟨g, n0, cap, cur, h1, h2⟩
    . exact .inl ⟨by rw [h]; exact h1, h2⟩
    . exact .inr ⟨g, n0, cap, cur, by rw [h]; exact h1, h2⟩
  | map T m =>
    obtain ⟨b, es, k, h1, h2, h3⟩ := hb; exact ⟨b, es, k, by rw [h]; exact h1, h2, h3⟩
theorem Spec.shift {P : Program} {f : FuncId} {args : List SV} {α : Type} {Pa : α -> Prop} {res : α -> SV} {H' : α -> Own} (h : Spec P f args [] 0 Pa res H') (ha : KBs 0 args) (n : Nat) : Spec P f args [] n Pa (fun x => shV n (res x)) (fun x => shO n (H' x)) := by
  refine ⟨h.1, fun w β S vals h1 h2 h3 h4 => ?_⟩
  refine (h.2 w β S vals h1 ha (fun j b hj => by simp [lookB] at hj) h4).mono ?_
  rintro e w' ⟨v, rfl, x, β0, S', hx, _, hr, hm⟩; let β' : Nat -> Value := fun j => if j < n then β j else β0 (j - n)
  have hb : ∀ j, β' (j + n) = β0 j := fun j => by
    show (if j + n < n then β (j + n) else β0 (j + n - n)) = _
    rw [if_neg (by omega), Nat.add_sub_cancel]
  refine ⟨v, rfl, x, β', S', hx, fun j hj => by simp [β', hj], shV_rep hb _ _ hr, ?_⟩
  refine ⟨hm.os, hm.tape, hm.output, hm.size, hm.frame, hm.sub, hm.new, hm.sat, ?_, ?_, ?_, ?_⟩
  . intro j b hj; obtain ⟨i, c, rfl, hc, rfl⟩ := lookB_shO_inv hj; exact shB_rep hb (hm.blk i c hc)
  . intro i j bi bj y hi hj hxi hxj; obtain ⟨i, c, rfl, hc, rfl⟩ := lookB_shO_inv hi; obtain ⟨j, d, rfl, hd, rfl⟩ := lookB_shO_inv hj; rw [hb] at hxi hxj; rw [hm.inj i j c d y hc hd hxi hxj]
  . intro j b y hj hy; obtain ⟨i, c, rfl, hc, rfl⟩ := lookB_shO_inv hj; rw [hb] at hy; exact hm.out i c y hc hy
  . intro j b y hj hy; obtain ⟨i, c, rfl, hc, rfl⟩ := lookB_shO_inv hj; rw [hb] at hy; exact hm.mine i c y hc hy
inductive HU (P : Unit -> Program) (tab : Nat -> TI) (Q : Unit -> QT) (r : R) : Prop
  | mk : Holds (P ()) tab (Q ()) r -> HU P tab Q r
def Pure (P : Program) (f : FuncId) (args : List SV) (res : SV) : Prop := Spec P f args [] 0 (fun _ : Unit => True) (fun _ => res) (fun _ => [])
section
variable {P : Unit -> Program} {tab : Nat -> TI} {Q : Unit -> QT}
theorem HU.out {r : R} (h : HU P tab Q r) : Holds (P ()) tab (Q ()) r := by cases h; assumption
theorem HU.done {e st} (h : (Q ()).q e st) : HU P tab Q (.done e st) := ⟨.done h⟩
theorem HU.prop {p} (h : p ()) : HU P tab Q (.prop p) := ⟨.prop h⟩
theorem HU.need {p k} (h : p ()) (hk : HU P tab Q k) : HU P tab Q (.need p k) := ⟨.need h hk.out⟩
theorem HU.split {b x y} (h : b () = true -> HU P tab Q x) (k : b () = false -> HU P tab Q y) : HU P tab Q (.split b x y) := ⟨.split (fun e => (h e).out) (fun e => (k e).out)⟩
theorem HU.fork {p x y} (h : p () -> HU P tab Q x) (k : HU P tab Q y) : HU P tab Q (.fork p x y) := ⟨.fork (fun e => (h e).out) k.out⟩
theorem HU.row {l i k} (r : List DV) (cs : List SV) (h1 : (l ())[(i ()).toNat]? = some r) (h2 : r.map DV.toSV = cs) (h3 : HU P tab Q (k cs)) : HU P tab Q (.row l i k) := ⟨.row r cs h1 h2 h3.out⟩
theorem HU.loop {c mods st k} (α : Type) (Pa : α -> Prop) (u : α -> List (Nat × SV)) (own : α -> Own) (next : Nat) (μ : α -> Nat) (x0 : α) (h0 : Pa x0) (hle : Le (Q ()).n st (headSt st mods (u x0) (own x0) next))
    (h : ∀ x, Pa x -> HU P tab Q (exec tab c (headSt st mods (u x) (own x) next) fun e st' => match e with
        | .normal => .prop fun _ => ∃ x', Pa x' /\ μ x' < μ x /\ Le (Q ()).n st' (headSt st mods (u x') (own x') next)
        | .exit i => k (.exit i) st'
        | .goto i => k (.goto i) st'
        | .ret => k .ret st')) : HU P tab Q (.loop c mods st k) := ⟨.loop α Pa u own next μ x0 h0 hle fun x hx => (h x hx).out⟩
theorem HU.callx {f args own n k} {α : Type} (Pa : α -> Prop) (res : α -> SV) (h : Spec (P ()) f args [] 0 Pa res (fun _ => [])) (ha : KBs 0 args) (hr : ∀ x, KB 0 (res x)) (hk : ∀ x, Pa x -> HU P tab Q (k (res x) own n)) : HU P tab Q (.call f args own n k) :=
  ⟨.call [] Pa res (fun _ => []) n (h.lift hr ha n) (fun j b hj => by simp [lookB] at hj) (Nat.le_refl n) (fun x hx => ⟨KB_mono (Nat.zero_le n) _ (hr x), fun j b hj => by simp [lookB] at hj⟩)
    (fun x hx j b hj => by simp [lookB] at hj) fun x hx => (hk x hx).out⟩
theorem HU.call0 {f args own n k res} (h : Pure (P ()) f args res) (ha : KBs 0 args) (hr : kbV 0 res = true) (hk : HU P tab Q (k res own n)) : HU P tab Q (.call f args own n k) :=
  HU.callx (fun _ : Unit => True) (fun _ => res) h ha (fun _ => kbV_sound _ hr) fun _ _ => hk
theorem HU.ext {f args own n k} {res : SV} (h : ExtSpec (P ()) f args own res) (hr : kbV n res = true) (hk : HU P tab Q (k res own n)) : HU P tab Q (.call f args own n k) := ⟨.ext res h (kbV_sound _ hr) hk.out⟩
def argLe (tg cu : List SV) : Option (List (Unit -> Prop)) :=
  match leVs [] tg cu with
  | some ⟨eqs, [], []⟩ => some eqs
  | _ => none
def callP (own : Own) (args tg : List SV) : Option (List (Unit -> Prop)) :=
  match lendVs own args with
  | some a => argLe tg a
  | none => none
theorem argLe_sound {tg cu : List SV} (h : LeP (argLe tg cu)) {β : Nat -> Value} {S : Snap} {us : List Value} (hs : SReps β S cu us) : SReps β S tg us := by
  unfold argLe at h; split at h
  . rename_i eqs he
    cases h with
    | mk ha => exact leVs_sound (β := β) (β' := β) (S := S) (S1 := S) (own := []) (Sub.refl S) tg cu _ us he ha (fun p h => by simp at h) (fun p h => by simp at h) hs
  . cases h
theorem callP_sound {own : Own} {args tg : List SV} (h : LeP (callP own args tg)) : ∃ a, lendVs own args = some a /\ ∀ {β : Nat -> Value} {S : Snap} {us : List Value}, SReps β S a us -> SReps β S tg us := by
  unfold callP at h; split at h
  . exact ⟨_, by assumption, fun hs => argLe_sound h hs⟩
  . cases h
mutual
theorem plain_KB {n : Nat} : ∀ {v : SV}, v.plain = true -> KB n v
  | .int k f, _ => by simp [KB]
  | .bool f, _ => by simp [KB]
  | .bs f, _ => by simp [KB]
  | .str f, _ => by simp [KB]
  | .any, _ => by simp [KB]
  | .nils, _ => by simp [KB]
  | .raw f, _ => by simp [KB]
  | .tup l, h => by rw [KB]; rw [SV.plain] at h; exact plains_KB h
  | .agg l, h => by rw [KB]; rw [SV.plain] at h; exact plains_KB h
  | .ds _ _, hv => by simp [SV.plain] at hv
  | .dp _ _ _ _, hv => by simp [SV.plain] at hv
  | .op _ _, hv => by simp [SV.plain] at hv
  | .os _, hv => by simp [SV.plain] at hv
  | .oe _ _ _ _, hv => by simp [SV.plain] at hv
  | .om _, hv => by simp [SV.plain] at hv
  | .ov _ _ _ _, hv => by simp [SV.plain] at hv
  | .fn _ _, hv => by simp [SV.plain] at hv
  | .fno _ _, hv => by simp [SV.plain] at hv
theorem plains_KB {n : Nat} : ∀ {l : List SV}, SV.plains l = true -> KBs n l
  | [], _ => by simp [KBs]
  | s :: l, h => by
    rw [SV.plains, Bool.and_eq_true] at h; rw [KBs]; exact ⟨plain_KB h.1, plains_KB h.2⟩
end
theorem HU.lend {f args own n k} {tg : List SV} {res : SV} (h : Pure (P ()) f tg res) (hc : LeP (callP own args tg)) (ha : kbVs 0 tg = true) (hr : res.plain = true) (hk : HU P tab Q (k res own n)) : HU P tab Q (.call f args own n k) := by
  obtain ⟨a, e1, e2⟩ := callP_sound hc; exact ⟨.lend a (fun _ : Unit => True) (fun _ => res) e1 ((h.lift (fun _ => plain_KB hr) (kbVs_sound _ ha) n).args (fun β S us hs => e2 hs) (KBs_mono (Nat.zero_le n) _ (kbVs_sound _ ha))) (fun _ => hr) fun _ _ => hk.out⟩
def kbO (n m : Nat) : Own -> Bool
  | [] => true
  | (k, b) :: l => match and' (Nat.blt k m) (and' (kbB m b) (Nat.ble n k)) with
    | true => kbO n m l
    | false => false
theorem kbO_sound {n m : Nat} : ∀ {l : Own}, kbO n m l = true -> ∀ j b, lookB l j = some b -> j < m /\ KBb m b /\ n <= j
  | [], h, j, b, hj => by simp [lookB] at hj
  | (k, c) :: l, h, j, b, hj => by
    rw [kbO] at h; split at h
    . rename_i hc
      rw [lookB_cons] at hj; split at hj
      . rename_i e
        subst e; cases hj; obtain ⟨c1, hc⟩ := and'_eq hc; obtain ⟨c2, c3⟩ := and'_eq hc; refine ⟨by simpa [Nat.blt_eq] using c1, ?_, Nat.le_of_ble_eq_true c3⟩
        cases c with
        | cells T cs => exact kbVs_sound _ c2
        | hole T l hh q => exact Nat.blt_eq.mp c2
        | _ => trivial
      . exact kbO_sound h j b hj
    . cases h
theorem HU.callN {f args own n k} {tg : List SV} {α : Type} {Pa : α -> Prop} {res : α -> SV} {H' : α -> Own} (h : Spec (P ()) f tg [] 0 Pa res H') (n' : Nat) (hc : LeP (callP own args tg)) (ha : kbVs 0 tg = true) (hn : Nat.ble n n' = true) (hr : ∀ x, kbV n' (shV n (res x)) = true /\ kbO n n' (shO n (H' x)) = true)
    (hk : ∀ x, Pa x -> HU P tab Q (k (shV n (res x)) (shO n (H' x) ++ delKs own (keysL own args)) n')) : HU P tab Q (.call f args own n k) := by
  obtain ⟨a, e1, e2⟩ := callP_sound hc; exact ⟨.shut a Pa (fun x => shV n (res x)) (fun x => shO n (H' x)) n' e1 ((h.shift (kbVs_sound _ ha) n).args (fun β S us hs => e2 hs) (KBs_mono (Nat.zero_le n) _ (kbVs_sound _ ha))) (Nat.le_of_ble_eq_true hn) (fun x _ => ⟨kbV_sound _ (hr x).1, kbO_sound (hr x).2⟩) fun x hx => (hk x hx).out⟩
theorem HU.call {f args own n k} {tg : List SV} {res : SV} (h : Pure (P ()) f tg res) (hc : LeP (callP own args tg)) (ha : kbVs 0 tg = true) (hr : kbV 0 res = true) (hk : HU P tab Q (k res (delKs own (keysL own args)) n)) : HU P tab Q (.call f args own n k) := by
  obtain ⟨a, e1, e2⟩ := callP_sound hc; exact ⟨.shut a (fun _ : Unit => True) (fun _ => res) (fun _ => []) n e1 ((h.lift (fun _ => kbV_sound _ hr) (kbVs_sound _ ha) n).args (fun β S us hs => e2 hs) (KBs_mono (Nat.zero_le n) _ (kbVs_sound _ ha))) (Nat.le_refl n) (fun _ _ => ⟨KB_mono (Nat.zero_le n) _ (kbV_sound _ hr), fun j b hj => by simp [lookB] at hj⟩) fun _ _ => hk.out⟩
theorem HU.range {f caps ps a b mods st k} (caps' : List SV) (items : List (List SV)) (α : Type) (Pa : α -> Prop) (ix : α -> Nat) (own : α -> Own) (next : Nat) (x0 : α)
    (hl : lendWs st.own caps = some caps') (hI : IterSpec (P ()) f caps' items) (hit : ∀ item ∈ items, item.length = ps.length /\ KBs 0 item)
    (hx : Pa x0) (h0 : ix x0 = 0) (hle : Le (Q ()).n ⟨st.t, delKs st.own (keysWs st.own caps), st.next⟩ ⟨forget st.t mods, own x0, next⟩)
    (hr : ∀ x, Pa x -> ∀ item, items[ix x]? = some item -> HU P tab Q (roundR tab a b ⟨setTs (forget st.t mods) (ps.zip item), own x, next⟩ fun e st' => match e with
        | .normal => .prop fun _ => ∃ x', Pa x' /\ ix x' = ix x + 1 /\ Le (Q ()).n ⟨forget st'.t mods, st'.own, st'.next⟩ ⟨forget st.t mods, own x', next⟩
        | .exit i => k (.exit i) ⟨forget st'.t mods, st'.own, st'.next⟩
        | .goto i => k (.goto i) ⟨forget st'.t mods, st'.own, st'.next⟩
        | .ret => k .ret ⟨forget st'.t mods, st'.own, st'.next⟩))
    (hend : ∀ x, Pa x -> ix x = items.length -> HU P tab Q (k .normal ⟨forget st.t mods, own x, next⟩)) : HU P tab Q (.range (.fn f caps) ps a b mods st k) :=
  ⟨.range caps' items α Pa ix own next x0 hl hI hit hx h0 hle (fun x hx item hi => (hr x hx item hi).out) fun x hx hi => (hend x hx hi).out⟩
theorem made_of (ht : TabOk (P ()) tab) {f : FuncId} {fn : Func} {c : Code} (hf : (P ()).funcs[f]? = some fn) (hb : fn.body = some c) (hn : (fn.name == "runtime.NumGoroutine") = false) {args : List SV} {α : Type} {Pa : α → Prop} {res : α → SV} {H' : α → Own}
    (h : HU P tab (fun _ => FinQ 0 Pa res H') (exec tab c ⟨args ++ List.replicate (fn.ntmps - args.length) .any, [], 0⟩ (endK tab fn.results.toList))) : Spec (P ()) f args [] 0 Pa res H' :=
  spec_of ht hf hb hn h.out
theorem HU.callD {lent f args k kS} {tg : List SV} {res : SV} (h : Pure (P ()) f tg res) (hc : LeP (argLe tg args)) (ha : kbVs 0 tg = true) (hr : kbV 0 res = true) (hp : lent = true -> res.plain = true) (hk : HU P tab Q (k res)) (hka : kbVs 0 args = true) : HU P tab Q (.callD lent f args k kS) :=
  ⟨.callD res (h.args (fun β S us hs => argLe_sound hc hs) (kbVs_sound _ ha)) (kbVs_sound _ hka) (kbV_sound _ hr) hp hk.out⟩
theorem HU.callDS {lent f args k kS} {tg : List SV} {res : SV} (h : Pure (P ()) f tg res) (hc : LeP (argLe tg args)) (ha : kbVs 0 tg = true) (hr : kbV 0 res = true) (hk : HU P tab Q (kS res)) (hka : kbVs 0 args = true) : HU P tab Q (.callD lent f args k kS) :=
  ⟨.callDS res (h.args (fun β S us hs => argLe_sound hc hs) (kbVs_sound _ ha)) (kbVs_sound _ hka) (kbV_sound _ hr) hk.out⟩
theorem Le.refl (n : Nat) (st : St) : Le n st st := fun _ _ _ β S _ h => ⟨β, S, h, Sub.refl S⟩
theorem Le.trans {n : Nat} {a b c : St} (h : Le n a b) (k : Le n b c) : Le n a c := fun E ac w β S e r => by
  obtain ⟨β', S', r', s1⟩ := h E ac w β S e r; obtain ⟨β2, S2, r2, s2⟩ := k E ac w β' S' e r'; exact ⟨β2, S2, r2, s1.trans s2⟩
theorem pure_of (ht : TabOk (P ()) tab) {f : FuncId} {fn : Func} {c : Code} (hf : (P ()).funcs[f]? = some fn) (hb : fn.body = some c) (hn : (fn.name == "runtime.NumGoroutine") = false) {args : List SV} {res : SV}
    (h : HU P tab (fun _ => FinQ 0 (fun _ : Unit => True) (fun _ => res) (fun _ => [])) (exec tab c ⟨args ++ List.replicate (fn.ntmps - args.length) .any, [], 0⟩ (endK tab fn.results.toList))) : Pure (P ()) f args res :=
  spec_of ht hf hb hn h.out
theorem spec_of' (ht : TabOk (P ()) tab) {f : FuncId} {fn : Func} {c : Code} (hf : (P ()).funcs[f]? = some fn) (hb : fn.body = some c) (hn : (fn.name == "runtime.NumGoroutine") = false) {args : List SV} {H : Own} {n : Nat} {α : Type} {Pa : α → Prop} {res : α → SV} {H' : α → Own}
    (h : HU P tab (fun _ => FinQ n Pa res H') (exec tab c ⟨args ++ List.replicate (fn.ntmps - args.length) .any, H, n⟩ (endK tab fn.results.toList))) : Spec (P ()) f args H n Pa res H' :=
  spec_of ht hf hb hn h.out
theorem HU.fin {e st n} {α : Type} {Pa : α -> Prop} {res : α -> SV} {H' : α -> Own} (x : α) (next : Nat) (hx : Pa x) (h : Le n st ⟨[res x], H' x, next⟩) : HU P tab (fun _ => FinQ n Pa res H') (.done e st) :=
  .done ⟨x, next, hx, h⟩
end
end Go.Eng
namespace Go.Eng
mutual
def rnV (τ : Nat -> Nat) : SV -> SV
  | .op j o => .op (τ j) o
  | .os j => .os (τ j)
  | .oe j sz i o => .oe (τ j) sz i o
  | .om j => .om (τ j)
  | .ov j sz a b => .ov (τ j) sz a b
  | .fn f c => .fn f (rnVs τ c)
  | .fno f c => .fno f c
  | .agg l => .agg (rnVs τ l)
  | .tup l => .tup (rnVs τ l)
  | .int k f => .int k f
  | .bool b => .bool b
  | .bs b => .bs b
  | .str s => .str s
  | .ds sz l => .ds sz l
  | .dp sz l i o => .dp sz l i o
  | .nils => .nils
  | .raw v => .raw v
  | .any => .any
def rnVs (τ : Nat -> Nat) : List SV -> List SV
  | [] => []
  | a :: l => rnV τ a :: rnVs τ l
end
def rnB (τ : Nat -> Nat) : Blk -> Blk
  | .cells T c => .cells T (rnVs τ c)
  | .arr T sz l => .arr T sz l
  | .full T sz l c => .full T sz l c
  | .map T m => .map T m
  | .hole T l h q => .hole T l h (τ q)
def rnO (τ : Nat -> Nat) : Own -> Own
  | [] => []
  | (k, b) :: l => (τ k, rnB τ b) :: rnO τ l
mutual
theorem rnV_rep {β β' : Nat -> Value} {S : Snap} {τ : Nat -> Nat} (h : ∀ j, β' (τ j) = β j) : ∀ (s : SV) (v), SRep β' S (rnV τ s) v ↔ SRep β S s v
  | .op j o, v => by rw [rnV, SRep, SRep, h]
  | .os j, v => by rw [rnV, SRep, SRep, h]
  | .oe j sz i o, v => by rw [rnV, SRep, SRep, h]
  | .om j, v => by rw [rnV, SRep, SRep, h]
  | .ov j sz a b, v => by rw [rnV, SRep, SRep, h]
  | .fn f c, v => by
    rw [rnV, SRep, SRep]; exact ⟨fun ⟨cs, e, h2⟩ => ⟨cs, e, (rnVs_rep h c _).1 h2⟩, fun ⟨cs, e, h2⟩ => ⟨cs, e, (rnVs_rep h c _).2 h2⟩⟩
  | .fno f c, v => by rw [rnV, SRep, SRep]
  | .agg l, v => by
    rw [rnV, SRep, SRep]; exact ⟨fun ⟨cs, e, h2⟩ => ⟨cs, e, (rnVs_rep h l _).1 h2⟩, fun ⟨cs, e, h2⟩ => ⟨cs, e, (rnVs_rep h l _).2 h2⟩⟩
  | .tup l, v => by
    rw [rnV, SRep, SRep]; exact ⟨fun ⟨cs, e, h2⟩ => ⟨cs, e, (rnVs_rep h l _).1 h2⟩, fun ⟨cs, e, h2⟩ => ⟨cs, e, (rnVs_rep h l _).2 h2⟩⟩
  | .int k f, v => by rw [rnV, SRep, SRep]
  | .bool b, v => by rw [rnV, SRep, SRep]
  | .bs b, v => by rw [rnV, SRep, SRep]
  | .str s, v => by rw [rnV, SRep, SRep]
  | .ds sz l, v => by rw [rnV, SRep, SRep]
  | .dp sz l i o, v => by rw [rnV, SRep, SRep]
  | .nils, v => by rw [rnV, SRep, SRep]
  | .raw u, v => by rw [rnV, SRep, SRep]
  | .any, v => by rw [rnV, SRep, SRep]
theorem rnVs_rep {β β' : Nat -> Value} {S : Snap} {τ : Nat -> Nat} (h : ∀ j, β' (τ j) = β j) : ∀ (s : List SV) (v), SReps β' S (rnVs τ s) v ↔ SReps β S s v
  | [], v => by rw [rnVs, SReps, SReps]
  | a :: l, v => by
    rw [rnVs, SReps, SReps]; exact ⟨fun ⟨x, xs, e, h1, h2⟩ => ⟨x, xs, e, (rnV_rep h a x).1 h1, (rnVs_rep h l xs).1 h2⟩, fun ⟨x, xs, e, h1, h2⟩ => ⟨x, xs, e, (rnV_rep h a x).2 h1, (rnVs_rep h l xs).2 h2⟩⟩
end
theorem rnVs_one {τ : Nat -> Nat} : ∀ (l : List SV), allOne (rnVs τ l) = allOne l
  | [] => by rw [rnVs]
  | a :: l => by
    rw [rnVs, allOne, allOne, rnVs_one l]; have : SV.one (rnV τ a) = SV.one a := by cases a <;> simp [rnV, SV.one]
    rw [this]
theorem rnB_rep {β β' : Nat -> Value} {S : Snap} {τ : Nat -> Nat} {w : World} (h : ∀ j, β' (τ j) = β j) {j : Nat} {b : Blk} : BRep β' S w (τ j) (rnB τ b) ↔ BRep β S w j b := by
  cases b with
  | cells T c =>
    constructor
    . rintro ⟨x, cs, h1, h2, h3, h4⟩; exact ⟨x, cs, by rw [<- h]; exact h1, h2, (rnVs_rep h c _).1 h3, by rw [<- rnVs_one (τ := τ)]; exact h4⟩
    . rintro ⟨x, cs, h1, h2, h3, h4⟩; exact ⟨x, cs, by rw [h]; exact h1, h2, (rnVs_rep h c _).2 h3, by rw [rnVs_one]; exact h4⟩
  | arr T sz l => unfold rnB BRep; rw [h]
  | full T sz l c => unfold rnB BRep; rw [h]
  | hole T l hh q =>
    constructor
    . rintro ⟨xs, h1, h2⟩; exact ⟨xs, by rw [<- h j, <- h q]; exact h1, by rw [<- h q]; exact h2⟩
    . rintro ⟨xs, h1, h2⟩; refine ⟨xs, ?_⟩; rw [h, h]; exact ⟨h1, h2⟩
  | map T m => unfold rnB BRep; rw [h]
theorem lookB_rnO {τ : Nat -> Nat} (hi : ∀ i j, τ i = τ j -> i = j) : ∀ (H : Own) (j : Nat), lookB (rnO τ H) (τ j) = (lookB H j).map (rnB τ)
  | [], j => rfl
  | (k, b) :: H, j => by
    rw [rnO, lookB_cons, lookB_cons, lookB_rnO hi H]; by_cases e : k = j
    . simp [e]
    . rw [if_neg (fun h => e (hi _ _ h)), if_neg e]
theorem lookB_rnO_inv {τ : Nat -> Nat} : ∀ {H : Own} {i : Nat} {b : Blk}, lookB (rnO τ H) i = some b -> ∃ j, i = τ j
  | [], i, b, h => by simp [rnO, lookB] at h
  | (k, c) :: H, i, b, h => by
    rw [rnO, lookB_cons] at h; split at h
    . rename_i e; exact ⟨k, e.symm⟩
    . exact lookB_rnO_inv h
def tauL (n : Nat) : List Nat -> Nat -> Nat
  | [], i => n + i
  | s :: _, 0 => s
  | _ :: σ, i + 1 => tauL n σ i
def nodupN : List Nat -> Bool
  | [] => true
  | a :: l => match memN l a with
    | true => false
    | false => nodupN l
def allLt (n : Nat) : List Nat -> Bool
  | [] => true
  | a :: l => match Nat.blt a n with
    | true => allLt n l
    | false => false
theorem tauL_ge {n : Nat} : ∀ (σ : List Nat) (i : Nat), σ.length <= i -> tauL n σ i = n + (i - σ.length)
  | [], i, _ => rfl
  | _ :: σ, 0, h => by simp at h
  | _ :: σ, i + 1, h => by
    rw [tauL, tauL_ge σ i (by simpa using h)]
    simp
theorem tauL_mem {n : Nat} : ∀ (σ : List Nat) (i : Nat), i < σ.length -> tauL n σ i ∈ σ
  | [], i, h => by simp at h
  | s :: σ, 0, h => by simp [tauL]
  | s :: σ, i + 1, h => by rw [tauL]; exact List.mem_cons_of_mem _ (tauL_mem σ i (by simpa using h))
theorem allLt_mem {n : Nat} : ∀ {σ : List Nat}, allLt n σ = true -> ∀ s ∈ σ, s < n
  | [], _, s, hs => by simp at hs
  | a :: l, h, s, hs => by
    rw [allLt] at h; split at h
    . rename_i e
      rcases List.mem_cons.1 hs with rfl | hs
      . simpa [Nat.blt_eq] using e
      . exact allLt_mem h s hs
    . cases h
theorem memN_iff : ∀ {l : List Nat} {j : Nat}, memN l j = true ↔ j ∈ l
  | [], j => by simp [memN]
  | k :: l, j => by
    rw [memN]
    cases h : Nat.beq k j with
    | true => simp [beq_true h]
    | false =>
      have := beq_false h; simp only [memN_iff, List.mem_cons]; exact ⟨.inr, fun h => h.elim (fun e => absurd e.symm this) id⟩
theorem tauL_inj {n : Nat} : ∀ {σ : List Nat}, nodupN σ = true -> allLt n σ = true -> ∀ i j, tauL n σ i = tauL n σ j -> i = j
  | [], _, _, i, j, h => by simp only [tauL] at h; omega
  | s :: σ, hd, hl, i, j, h => by
    rw [nodupN] at hd; split at hd
    . cases hd
    . rename_i hm
      have hm : s ∉ σ := fun h => by rw [memN_iff.2 h] at hm; cases hm
      have hl' : s < n /\ allLt n σ = true := by
        rw [allLt] at hl; split at hl
        . rename_i e; exact ⟨by simpa [Nat.blt_eq] using e, hl⟩
        . cases hl
      have no : ∀ i, tauL n σ i ≠ s := fun i e => by
        rcases Nat.lt_or_ge i σ.length with hi | hi
        . have := tauL_mem (n := n) σ i hi; rw [e] at this; exact hm this
        . rw [tauL_ge σ i hi] at e; omega
      cases i with
      | zero => cases j with
        | zero => rfl
        | succ j => simp only [tauL] at h; exact absurd h.symm (no j)
      | succ i => cases j with
        | zero => simp only [tauL] at h; exact absurd h (no i)
        | succ j =>
          simp only [tauL] at h; rw [tauL_inj hd hl'.2 i j h]
theorem Spec.ren {P : Program} {f : FuncId} {args : List SV} {H : Own} {σ : List Nat} {n : Nat} {α : Type} {Pa : α -> Prop} {res : α -> SV} {H' : α -> Own} (h : Spec P f args H σ.length Pa res H') (ha : KBs σ.length args) (hH : ∀ j b, lookB H j = some b -> j < σ.length /\ KBb σ.length b)
    (hd : nodupN σ = true) (hl : allLt n σ = true) : Spec P f (rnVs (tauL n σ) args) (rnO (tauL n σ) H) n Pa (fun x => rnV (tauL n σ) (res x)) (fun x => rnO (tauL n σ) (H' x)) := by
  have hi := tauL_inj hd hl; refine ⟨h.1, fun w β S vals h1 h2 h3 h4 => ?_⟩
  let β0 : Nat -> Value := fun i => β (tauL n σ i)
  have hb0 : ∀ j, β (tauL n σ j) = β0 j := fun _ => rfl
  have hlk : ∀ {H : Own} {j b}, lookB H j = some b -> lookB (rnO (tauL n σ) H) (tauL n σ j) = some (rnB (tauL n σ) b) := fun {H j b} e => by rw [lookB_rnO hi, e]; rfl
  have hinv : ∀ {H : Own} {i b}, lookB (rnO (tauL n σ) H) i = some b -> ∃ j c, i = tauL n σ j /\ lookB H j = some c /\ b = rnB (tauL n σ) c := fun {H i b} e => by
    obtain ⟨j, rfl⟩ := lookB_rnO_inv e; rw [lookB_rnO hi] at e
    cases hc : lookB H j with
    | none => rw [hc] at e; cases e
    | some c => rw [hc] at e; cases e; exact ⟨j, c, rfl, hc, rfl⟩
  have hblk : blocksOf H β0 = blocksOf (rnO (tauL n σ) H) β := by
    funext x
    apply propext; constructor
    . rintro ⟨j, b, e1, e2⟩; exact ⟨_, _, hlk e1, e2⟩
    . rintro ⟨i, b, e1, e2⟩; obtain ⟨j, c, rfl, hc, rfl⟩ := hinv e1; exact ⟨j, c, hc, e2⟩
  have m0 : Mem w (blocksOf H β0) S β0 S H w := by
    rw [hblk]; refine ⟨h4.os, h4.tape, h4.output, h4.size, h4.frame, h4.sub, h4.new, h4.sat, fun j b hj => (rnB_rep hb0).1 (h4.blk _ _ (hlk hj)), fun i j bi bj x e1 e2 e3 e4 => hi _ _ (h4.inj _ _ _ _ x (hlk e1) (hlk e2) e3 e4), fun j b x e1 e2 => h4.out _ _ x (hlk e1) e2, fun j b x e1 e2 => h4.mine _ _ x (hlk e1) e2⟩
  refine (h.2 w β0 S vals ((rnVs_rep hb0 args vals).1 h1) ha hH m0).mono ?_; rintro e w' ⟨v, rfl, x, β1, S', hx, hβ, hr, hm⟩; let β' : Nat -> Value := fun i => if i < n then β i else β1 (i - n + σ.length)
  have hb : ∀ j, β' (tauL n σ j) = β1 j := fun j => by
    show (if tauL n σ j < n then β (tauL n σ j) else β1 (tauL n σ j - n + σ.length)) = _
    rcases Nat.lt_or_ge j σ.length with hj | hj
    . have := allLt_mem hl _ (tauL_mem (n := n) σ j hj); rw [if_pos this, hβ j hj]
    . rw [tauL_ge σ j hj, if_neg (by omega)]
      congr 1; omega
  refine ⟨v, rfl, x, β', S', hx, fun j hj => by simp [β', hj], (rnV_rep hb _ _).2 hr, ?_⟩
  rw [<- hblk]; refine ⟨hm.os, hm.tape, hm.output, hm.size, hm.frame, hm.sub, hm.new, hm.sat, fun i b e1 => ?_, fun i j bi bj y e1 e2 e3 e4 => ?_, fun i b y e1 e2 => ?_, fun i b y e1 e2 => ?_⟩
  . obtain ⟨j, c, rfl, hc, rfl⟩ := hinv e1; exact (rnB_rep hb).2 (hm.blk j c hc)
  . obtain ⟨i, c, rfl, hc, rfl⟩ := hinv e1; obtain ⟨j, d, rfl, hd, rfl⟩ := hinv e2; rw [hb] at e3 e4; rw [hm.inj i j c d y hc hd e3 e4]
  . obtain ⟨i, c, rfl, hc, rfl⟩ := hinv e1; rw [hb] at e2; exact hm.out i c y hc e2
  . obtain ⟨i, c, rfl, hc, rfl⟩ := hinv e1; rw [hb] at e2; exact hm.mine i c y hc e2
def pickO (own : Own) : List Nat -> Own
  | [] => []
  | j :: σ => match lookB own j with
    | some b => (j, b) :: pickO own σ
    | none => pickO own σ
theorem pickO_sub {own : Own} : ∀ {σ : List Nat} {j : Nat} {b : Blk}, lookB (pickO own σ) j = some b -> lookB own j = some b
  | [], j, b, h => by simp [pickO, lookB] at h
  | k :: σ, j, b, h => by
    rw [pickO] at h; split at h
    . rename_i c hc
      rw [lookB_cons] at h; split at h
      . rename_i e; subst e; cases h; exact hc
      . exact pickO_sub h
    . exact pickO_sub h
def reflK : List (Nat × Option Nat) -> Bool
  | [] => true
  | (k, some j) :: l => match Nat.beq k j with
    | true => reflK l
    | false => false
  | _ => false
theorem reflK_ok {β : Nat -> Value} : ∀ {l : List (Nat × Option Nat)}, reflK l = true -> KeyOk β β l
  | [], _ => fun p hp => by simp at hp
  | (k, some j) :: l, h => by
    rw [reflK] at h; split at h
    . rename_i e
      intro p hp; rcases List.mem_cons.1 hp with rfl | hp
      . show β k = β j; rw [beq_true e]
      . exact reflK_ok h p hp
    . cases h
  | (k, none) :: l, h => by cases h
def argLeK (tg cu : List SV) : Option (List (Unit -> Prop)) :=
  match leVs [] tg cu with
  | some ⟨eqs, keys, []⟩ => (match reflK keys with
    | true => some eqs
    | false => none)
  | _ => none
theorem argLeK_sound {tg cu : List SV} (h : LeP (argLeK tg cu)) {β : Nat -> Value} {S : Snap} {us : List Value} (hs : SReps β S cu us) : SReps β S tg us := by
  unfold argLeK at h; split at h
  . rename_i eqs keys he
    split at h
    . rename_i hr
      cases h with
      | mk ha => exact leVs_sound (β := β) (β' := β) (S := S) (S1 := S) (own := []) (Sub.refl S) tg cu _ us he ha (reflK_ok hr) (fun p h => by simp at h) hs
    . cases h
  . cases h
section
variable {P : Unit -> Program} {tab : Nat -> TI} {Q : Unit -> QT}
theorem kbO_all {m : Nat} {l : Own} (h : kbO 0 m l = true) : ∀ j b, lookB l j = some b -> j < m /\ KBb m b := fun j b hj => ⟨(kbO_sound h j b hj).1, (kbO_sound h j b hj).2.1⟩
end
end Go.Eng
namespace Go.Eng
def keptO (n : Nat) (H : Own) : Own -> Bool
  | [] => true
  | (k, _) :: l => match lookB H k with
    | some _ => keptO n H l
    | none => (match Nat.ble n k with
      | true => keptO n H l
      | false => false)
theorem keptO_ok {n : Nat} {H : Own} : ∀ {l : Own}, keptO n H l = true -> ∀ j b, lookB l j = some b -> (lookB H j).isSome \/ n <= j
  | [], _, j, b, h => by simp [lookB] at h
  | (k, c) :: l, h, j, b, hj => by
    rw [keptO] at h; rw [lookB_cons] at hj; split at h
    . rename_i x hx
      split at hj
      . rename_i e; subst e; exact .inl (by rw [hx]; rfl)
      . exact keptO_ok h j b hj
    . split at h
      . rename_i e0
        split at hj
        . rename_i e; subst e; exact .inr (Nat.le_of_ble_eq_true e0)
        . exact keptO_ok h j b hj
      . cases h
section
variable {P : Unit -> Program} {tab : Nat -> TI} {Q : Unit -> QT}
theorem HU.callS {f args own n k} {tg : List SV} {Ht : Own} {α : Type} {Pa : α -> Prop} {res : α -> SV} {H' : α -> Own} (σ : List Nat) (n' : Nat) (h : Spec (P ()) f tg Ht σ.length Pa res H') (ha : kbVs σ.length tg = true) (hH : kbO 0 σ.length Ht = true) (hd : nodupN σ = true) (hl : allLt n σ = true)
    (he : rnO (tauL n σ) Ht = pickO own σ) (hc : LeP (argLeK (rnVs (tauL n σ) tg) args)) (hn : Nat.ble n n' = true) (hka : kbVs n (rnVs (tauL n σ) tg) = true)
    (hr : ∀ x, kbV n' (rnV (tauL n σ) (res x)) = true /\ kbO 0 n' (rnO (tauL n σ) (H' x)) = true /\ keptO n (pickO own σ) (rnO (tauL n σ) (H' x)) = true)
    (hk : ∀ x, Pa x -> HU P tab Q (k (rnV (tauL n σ) (res x)) (rnO (tauL n σ) (H' x) ++ delBs own (pickO own σ)) n')) : HU P tab Q (.call f args own n k) := by
  have h2 := Spec.ren h (kbVs_sound _ ha) (kbO_all hH) hd hl; rw [he] at h2
  have h3 : Spec (P ()) f args (pickO own σ) n Pa (fun x => rnV (tauL n σ) (res x)) (fun x => rnO (tauL n σ) (H' x)) :=
    ⟨h2.1, fun w β S vals q1 _ q3 q4 => h2.2 w β S vals (argLeK_sound hc q1) (kbVs_sound _ hka) q3 q4⟩
  exact ⟨.call (pickO own σ) Pa _ _ n' h3 (fun j b hj => pickO_sub hj) (Nat.le_of_ble_eq_true hn) (fun x _ => ⟨kbV_sound _ (hr x).1, fun j b hj => ⟨(kbO_sound (hr x).2.1 j b hj).1, (kbO_sound (hr x).2.1 j b hj).2.1⟩⟩)
    (fun x _ j b hj => keptO_ok (hr x).2.2 j b hj) fun x hx => (hk x hx).out⟩
/- short rules -/
theorem HU.nd {p k} [Decidable (p ())] (hk : HU P tab Q k) (h : decide (p ()) = true := by rfl) : HU P tab Q (.need p k) := .need (of_decide_eq_true h) hk
theorem HU.nq {p k} (hk : HU P tab Q k) (h : p () := by first | (simp; done) | omega) : HU P tab Q (.need p k) := .need h hk
theorem HU.sT {b x y} (k : HU P tab Q x) (h : b () = true := by rfl) : HU P tab Q (.split b x y) := .split (fun _ => k) fun e => Bool.noConfusion (h.symm.trans e)
theorem HU.sF {b x y} (k : HU P tab Q y) (h : b () = false := by rfl) : HU P tab Q (.split b x y) := .split (fun e => Bool.noConfusion (h.symm.trans e)) fun _ => k
theorem HU.fk {α : Type} {l : List α} {x y} (k : HU P tab Q y) (h : l.isEmpty = false := by rfl) : HU P tab Q (.fork (fun _ => l = []) x y) := .fork (fun e => by rw [e] at h; exact Bool.noConfusion h) k
theorem HU.rr {l i k} {r : List DV} (h : (l ())[(i ()).toNat]? = some r) (hk : HU P tab Q (k (r.map DV.toSV))) : HU P tab Q (.row l i k) := .row r _ h rfl hk
theorem HU.cl {f args own n k} {tg : List SV} {res : SV} (h : Pure (P ()) f tg res) (hk : HU P tab Q (k res (delKs own (keysL own args)) n))
    (hc : LeP (callP own args tg) := by cbv; refine .mk ?_; repeat' (first | exact AllP.nil | refine AllP.cons rfl ?_)) (ha : kbVs 0 tg = true := by rfl) (hr : kbV 0 res = true := by rfl) : HU P tab Q (.call f args own n k) := .call h hc ha hr hk
theorem HU.ln {f args own n k} {tg : List SV} {res : SV} (h : Pure (P ()) f tg res) (hk : HU P tab Q (k res own n))
    (hc : LeP (callP own args tg) := by cbv; refine .mk ?_; repeat' (first | exact AllP.nil | refine AllP.cons rfl ?_)) (ha : kbVs 0 tg = true := by rfl) (hr : res.plain = true := by rfl) : HU P tab Q (.call f args own n k) := .lend h hc ha hr hk
theorem HU.cs {f args own n k} {tg : List SV} {Ht : Own} {res : SV} {H' : Own} (σ : List Nat) (n' : Nat) (h : Spec (P ()) f tg Ht σ.length (fun _ : Unit => True) (fun _ => res) (fun _ => H'))
    (hk : HU P tab Q (k (rnV (tauL n σ) res) (rnO (tauL n σ) H' ++ delBs own (pickO own σ)) n'))
    (hc : LeP (argLeK (rnVs (tauL n σ) tg) args) := by cbv; refine .mk ?_; repeat' (first | exact AllP.nil | refine AllP.cons rfl ?_))
    (ha : kbVs σ.length tg = true := by rfl) (hH : kbO 0 σ.length Ht = true := by rfl) (hd : nodupN σ = true := by rfl) (hl : allLt n σ = true := by rfl)
    (he : rnO (tauL n σ) Ht = pickO own σ := by rfl) (hn : Nat.ble n n' = true := by rfl) (hka : kbVs n (rnVs (tauL n σ) tg) = true := by rfl)
    (hr : kbV n' (rnV (tauL n σ) res) = true /\ kbO 0 n' (rnO (tauL n σ) H') = true /\ keptO n (pickO own σ) (rnO (tauL n σ) H') = true := by exact ⟨rfl, rfl, rfl⟩) : HU P tab Q (.call f args own n k) :=
  .callS σ n' h ha hH hd hl he hc hn hka (fun _ => hr) fun _ _ => hk
theorem HU.fn {e st n} {α : Type} [i : Inhabited α] {res : α -> SV} {H' : α -> Own}
    (h : LeP (leSt n st ⟨[res i.default], H' i.default, 999⟩) := by cbv; refine .mk ?_; repeat' (first | exact AllP.nil | refine AllP.cons rfl ?_)) : HU P tab (fun _ => FinQ n (fun _ : α => True) res H') (.done e st) := .fin i.default 999 trivial (le_of h)
end
end Go.Eng
