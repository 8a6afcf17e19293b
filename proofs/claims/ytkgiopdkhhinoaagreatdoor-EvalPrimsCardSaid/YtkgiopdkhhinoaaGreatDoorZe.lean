/- The concrete evaluator: every operation is sound. The concrete evaluator: every operation is sound. The concrete evaluator: every operation is sound. -/
import Derived.Test.YtkgiopdkhhinoaaGreatDoorZd
import Derived.Lib.OthersKept
set_option linter.all false
namespace Go.Z
open Go.Eng (TI TD DV DRep DRows DCells Snap nth upd slice' splice TabOk tiOk tdOk TFacts)
section
variable {P : Program} {E : Env} {S : Snap} {w0 : World} {β : Nat -> Loc} {n : Nat} {M : Tri ZO} {w : World}
theorem Out.gv {F : ZF} {s : Sem Value} (h : Gv P S w0 β n M w F s) (hp : Plain F) : Out P S w0 β n M w ((do pure (.value (<- s)) : Sem Next).run P w) (F M n) :=
  out_value h (fun v' w' hr => by rw [Sem.run_bind, hr]; rfl) (hp M n)
theorem Out.un {F : ZF} {s : Sem Unit} (h : ∀ v M' n', F M n = .ok v M' n' -> v = zundef /\ ∃ w' β', s.run P w = .ok () w' /\ ZPost S w0 β n M w β' n' M' w') (hp : Plain F) : Out P S w0 β n M w ((do s; pure .skip : Sem Next).run P w) (F M n) := by
  rcases hp M n with ⟨v, M', n', e⟩ | ⟨k, e⟩
  . rw [e]; obtain ⟨rfl, w', β', h1, h2⟩ := h v M' n' e; exact ⟨undef, w', β', .inr ⟨by rw [Sem.run_bind, h1]; rfl, rfl⟩, by rw [zundef, VRel], h2⟩
  . rw [e]; trivial
theorem Out.ret {z : ZV} {v : Value} {r : Result Next} (m : ZMem S w0 β n M w) (h : VRel S β n z v) (hr : r = .ok (.value v) w) : Out P S w0 β n M w r (zret z M n) :=
  ⟨v, w, β, .inl hr, h, .refl m⟩
theorem Out.bad (k : Nat) {r : Result Next} : Out P S w0 β n M w r (zbad k M n) := trivial
theorem zmakeInterface_sound (ok : EnvOk P E) (m : ZMem S w0 β n M w) {T : TypeId} {x : ZV} {xv : Value} (hx : VRel S β n x xv) : Gv P S w0 β n M w (zwhen (E.noI T) (zret (.ifc T x))) (Instr.makeInterface T xv) := by
  refine Gv.when fun h => ?_
  obtain ⟨d, hu, hd⟩ := ok.noI T h; refine Gv.ret m (v := .iface T xv) ?_ (by rw [VRel]; exact ⟨xv, rfl, hx⟩)
  unfold Instr.makeInterface; simp only [Sem.run_bind, run_underlying hu, Result.andThen_ok]; cases d <;> simp at hd ⊢
theorem heap_new (w : World) (o : Obj) : (w.alloc o).heap[w.heap.size]? = some o := by
  show (w.heap.push o)[w.heap.size]? = _; simp
theorem zmakeMap_sound (m : ZMem S w0 β n M w) {T : TypeId} : Gv P S w0 β n M w (fun M n => .ok (.mp n) (M.set n (some (.map 0 []))) (Nat.succ n)) (Instr.makeMap T none) := by
  intro v M' n' h; cases h; refine ⟨.map (some w.heap.size), w.alloc (.map #[] 0), ext β n ⟨w.heap.size, 0, 0, true⟩, by simp [Instr.makeMap], ?_, ?_⟩
  . rw [VRel]; exact ⟨⟨by omega, by rw [ext_same]⟩, by rw [ext_same]⟩
  . exact ZPost.new m _ _ ⟨w.heap.size, 0, 0, true⟩ rfl ⟨#[], heap_new _ _, by simp [ERels]⟩ (fun T h d e => by cases e)
noncomputable def zrangeI (E : Env) (T : Nat) (x : ZV) : ZF :=
  match (E.tab T).d, x with
    | .str, .str l s => fun M n => .ok (.ptr n 0) (M.set n (some (.siter l s 0))) (Nat.succ n)
    | .map _ _, .mp j => fun M n => match M.get j with
      | some (.map _ []) => .ok (.ptr n 0) (M.set n (some (.miter j))) (Nat.succ n)
      | _ => .bad 139
    | _, _ => zbad 133
theorem zrange_sound (ok : EnvOk P E) (m : ZMem S w0 β n M w) {T : TypeId} {x : ZV} {xv : Value} (hx : VRel S β n x xv) :
    Gv P S w0 β n M w (zrangeI E T x) (Instr.range T xv) := by
  unfold zrangeI; split
  . rename_i l s hd
    obtain ⟨d, hu, hd2⟩ := under_of ok hd rfl; simp only [tdOk] at hd2; subst hd2; rw [VRel] at hx; subst hx; intro v M' n' h; cases h; refine ⟨.pointer (some ⟨w.heap.size, 0, none⟩), w.alloc (.stringIter (zbytes l s) 0), ext β n ⟨w.heap.size, 0, 0, true⟩, by simp [Instr.range, run_underlying hu], ?_, ?_⟩
    . rw [VRel]; exact ⟨⟨by omega, by rw [ext_same]⟩, 0, by rw [ext_same]; rfl, by rw [ext_same]⟩
    . exact ZPost.new m _ _ ⟨w.heap.size, 0, 0, true⟩ rfl ⟨rfl, heap_new _ _⟩ (fun T h d e => by cases e)
  . rename_i kt e j hd
    obtain ⟨d, hu, hd2⟩ := under_of ok hd rfl; simp only [tdOk] at hd2; subst hd2; rw [VRel] at hx; obtain ⟨hj, rfl⟩ := hx; intro v M' n' h; dsimp only at h
    split at h
    . rename_i c hM
      cases h; obtain ⟨g1, g2, a, g3, g4⟩ := m.key j _ hM; refine ⟨.pointer (some ⟨w.heap.size, 0, none⟩), w.alloc (.mapIter (some (β j).b) c #[] c), ext β n ⟨w.heap.size, 0, 0, true⟩, by simp [Instr.range, run_underlying hu, getObj, Sem.run, g3], ?_, ?_⟩
      . rw [VRel]; exact ⟨⟨by omega, by rw [ext_same]⟩, 0, by rw [ext_same]; rfl, by rw [ext_same]⟩
      . exact ZPost.new m _ _ ⟨w.heap.size, 0, 0, true⟩ rfl ⟨rfl, hj.mono (fun j hj => ext_lt hj.1) (by omega), c, #[], c, by rw [ext_lt hj.1]; exact heap_new _ _⟩ (fun T h d e => by cases e)
    . cases h
  . exact Gv.bad
theorem znext_sound (m : ZMem S w0 β n M w) {ty : TypeId} {x : ZV} {xv : Value} (hx : VRel S β n x xv) : Gv P S w0 β n M w (znext x) (Instr.next xv true ty) := by
  unfold znext; split
  . rename_i j
    rw [VRel] at hx; obtain ⟨hj, k, hk, rfl⟩ := hx; intro v M' n' h; dsimp only at h
    split at h
    . rename_i l s pos hM
      obtain ⟨g1, g2, g3, g4⟩ := m.key j _ hM; have hk0 : k = 0 := by omega
      subst hk0; split at h
      . rename_i hp
        have hp := blt_true hp; split at h
        . rename_i hb
          have hb := blt_true hb; cases h; have hps : pos < (zbytes l s).size := by rw [zbytes_size]; exact hp
          have hget : ((zbytes l s)[pos]'hps).toNat = zbyte l s pos := by
            have : (zbytes l s)[pos]'hps = UInt8.ofNat (zbyte l s pos) := by simp [zbytes, ByteArray.getElem_eq_getElem_data]
            rw [this, UInt8.toNat_ofNat']; omega
          have hrun := Go.Lib.run_next_ascii_at (P := P) w (β j).b (zbytes l s) pos ty g4 hps (by rw [hget]; exact hb)
          rw [hget] at hrun; refine ⟨_, _, β, hrun, ?_, ?_⟩
          . rw [VRel]; exact ⟨_, rfl, by simp [VRels, VRel]⟩
          . refine ZPost.put m hM rfl ⟨g3, Go.Lib.iterAt_heap w _ _ _ _ g4⟩ (fun T h d e => by cases e) rfl rfl rfl (Go.Lib.iterAt_size w _ _ _) ?_
            intro b hb' hne; exact Go.Lib.iterAt_other w _ _ _ _ hne
        . cases h
      . rename_i hp
        cases h; have hp : ¬ pos < l := by rw [blt_iff] at hp; simpa using hp
        exact ⟨_, w, β, Go.Lib.run_next_end_at w (β j).b (zbytes l s) pos ty g4 (by rw [zbytes_size]; exact hp), by rw [VRel]; exact ⟨_, rfl, by simp [VRels, VRel]⟩, .refl m⟩
    . cases h
  . exact Gv.bad
theorem pl_next (x : ZV) : Plain (znext x) := by
  unfold znext; split
  . intro M n; dsimp only
    repeat' split
    all_goals first
      | exact .inl ⟨_, _, _, rfl⟩
      | exact .inr ⟨_, rfl⟩
  . exact Plain.bad _
noncomputable def znextM (x : ZV) : ZF :=
  match x with
    | .ptr j 0 => fun M n => match M.get j with
      | some (.miter k) => match M.get k with
        | some (.map _ []) => .ok (.tup [.bool false]) M n
        | _ => .bad 145
      | _ => .bad 146
    | _ => zbad 147
theorem znextM_sound (m : ZMem S w0 β n M w) {ty : TypeId} {x : ZV} {xv : Value} (hx : VRel S β n x xv) : Gv P S w0 β n M w (znextM x) (Instr.next xv false ty) := by
  unfold znextM; split
  . rename_i j
    rw [VRel] at hx; obtain ⟨hj, k, hk, rfl⟩ := hx; intro v M' n' h; dsimp only at h
    split at h
    . rename_i k' hM
      split at h
      . rename_i c hM2
        cases h; obtain ⟨g1, g2, g3, g4, s, e, p, g5⟩ := m.key j _ hM; obtain ⟨f1, f2, a, f3, f4⟩ := m.key k' _ hM2; have hk0 : k = 0 := by omega
        subst hk0; rw [ERels] at f4
        have ha : a = #[] := by
          cases a; simp at f4; subst f4; rfl
        subst ha; refine ⟨.tuple #[.bool false], w, β, ?_, by rw [VRel]; exact ⟨_, rfl, by simp [VRels, VRel]⟩, .refl m⟩
        simp [Instr.next, getObj, Sem.run, g5, f3, choose, Question.forced, Result.andThen]
      . cases h
    . cases h
  . exact Gv.bad
theorem pl_nextM (x : ZV) : Plain (znextM x) := by
  unfold znextM; split
  . intro M n; dsimp only
    repeat' split
    all_goals first
      | exact .inl ⟨_, _, _, rfl⟩
      | exact .inr ⟨_, rfl⟩
  . exact Plain.bad _
def zextractI (x : ZV) (i : Nat) : ZF :=
  match x with
    | .tup l => match l[i]? with
      | some v => zret v
      | none => zbad 134
    | _ => zbad 135
theorem pl_extract (x : ZV) (i : Nat) : Plain (zextractI x i) := by
  unfold zextractI; repeat' split
  all_goals first
    | exact Plain.ret _
    | exact Plain.bad _
theorem pl_range (E : Env) (T : Nat) (x : ZV) : Plain (zrangeI E T x) := by
  unfold zrangeI; split
  . exact fun M n => .inl ⟨_, _, _, rfl⟩
  . intro M n; dsimp only
    repeat' split
    all_goals first
      | exact .inl ⟨_, _, _, rfl⟩
      | exact .inr ⟨_, rfl⟩
  . exact Plain.bad _
theorem zextract_sound (m : ZMem S w0 β n M w) {x : ZV} {xv : Value} {i : Nat} (hx : VRel S β n x xv) : Gv P S w0 β n M w (zextractI x i) (Instr.extract xv i) := by
  unfold zextractI; split
  . rename_i l
    split
    . rename_i v hv
      rw [VRel] at hx; obtain ⟨cs, rfl, hr⟩ := hx; obtain ⟨u, g1, g2⟩ := VRels_get _ hr hv; refine Gv.ret m ?_ g2; have g1' : cs[i]? = some u := by simpa using g1
      simp [Instr.extract, g1']
    . exact Gv.bad
  . exact Gv.bad
def notNil : Value -> Bool
    | .pointer none => false
    | .nilIface => false
    | .nilFunc => false
    | .func (.method _) _ _ => false
    | _ => true
theorem znil_not {x : ZV} {xv : Value} (hx : VRel S β n x xv) (h : znil x = some false) : notNil xv = true := by
  unfold znil at h; split at h <;> try cases h
  . rw [VRel] at hx; obtain ⟨_, _, _, rfl⟩ := hx; rfl
  . rw [VRel] at hx; obtain ⟨_, _, _, _, _, _, _, _, rfl⟩ := hx; rfl
  . rw [VRel] at hx; obtain ⟨_, _, _, _, rfl, _⟩ := hx; rfl
  . rename_i a b c
    rw [VRel, DRep] at hx; rcases hx with ⟨_, _, _, rfl, _⟩ | ⟨_, _, _, _, _, _, rfl, _⟩ <;> rfl
  . rw [VRel] at hx; obtain ⟨_, rfl⟩ := hx; rfl
  . rw [VRel] at hx; obtain ⟨_, _, rfl, _⟩ := hx; rfl
  . rw [VRel] at hx; obtain ⟨_, rfl⟩ := hx; rfl
  . rw [VRel] at hx; obtain ⟨_, rfl, _⟩ := hx; rfl
def znilI (z : ZV) : ZF :=
  match znil z with
      | some false => zret z
      | _ => zbad 131
theorem znilI_out (m : ZMem S w0 β n M w) {o : Oper} {a : Act} {x : Operand} {z : ZV} (ho : o.op = .nilCheck x) (hx : VRel S β n z (a.eval x)) : Out P S w0 β n M w ((execOp a.eval o).run P w) (znilI z M n) := by
  unfold znilI
  cases h : znil z with
  | none => exact trivial
  | some b => cases b with
    | true => exact trivial
    | false =>
      have hn := znil_not hx h; refine Out.ret m hx ?_; simp only [execOp, ho]; generalize a.eval x = xv at hx hn
      cases xv with
      | pointer p => cases p <;> first | (cases hn; done) | rfl
      | nilIface => cases hn
      | nilFunc => cases hn
      | func f c d => cases f <;> first | (cases hn; done) | rfl
      | _ => rfl
end
end Go.Z
namespace Go.Z
open Go.Eng (TI TD DV DRep DRows DCells Snap nth upd slice' splice TabOk tiOk tdOk TFacts)
section
variable {P : Program} {E : Env} {S : Snap} {w0 : World} {β : Nat -> Loc} {n : Nat} {M : Tri ZO} {w : World}
theorem zclear_sound (ok : EnvOk P E) (m : ZMem S w0 β n M w) {T ty : TypeId} {j : Nat} {xv : Value} (hx : VRel S β n (.mp j) xv) : Gv P S w0 β n M w (zclear (E.tab T) j) (Builtin.clear_ #[T] ty #[xv]) := by
  intro v M' n' h; unfold zclear at h; split at h
  . rename_i kt e hd
    obtain ⟨d, hu, hd2⟩ := under_of ok hd rfl; simp only [tdOk] at hd2; subst hd2; split at h
    . rename_i c es hM
      cases h; rw [VRel] at hx; obtain ⟨hj, rfl⟩ := hx; obtain ⟨g1, g2, a, g3, g4⟩ := m.key j _ hM; refine ⟨.tuple #[], { w with heap := w.heap.setIfInBounds (β j).b (.map #[] c) }, β, ?_, by rw [VRel]; exact ⟨_, rfl, by simp [VRels]⟩, ?_⟩
      . simp only [Builtin.clear_]; simp [run_underlying hu, getObj, Sem.run, g3, Result.andThen, setObj]
      . exact put_map m hM rfl g3 (o := .map c []) ⟨#[], heap_at g3, by simp [ERels]⟩ (fun T h d e => by cases e)
    . cases h
  . cases h
theorem pl_clear (i : TI) (j : Nat) : Plain (zclear i j) := by
  intro M n; unfold zclear; repeat' split
  all_goals first
    | exact .inl ⟨_, _, _, rfl⟩
    | exact .inr ⟨_, rfl⟩
theorem pl_sliceData (j o : Nat) (c : Option Nat) : Plain (zsliceData j o c) := by
  intro M n; unfold zsliceData; repeat' split
  all_goals first
    | exact .inl ⟨_, _, _, rfl⟩
    | exact .inr ⟨_, rfl⟩
theorem pl_stringOf (E : Env) (pt j o k : Nat) : Plain (zstringOf E pt j o k) := by
  intro M n; unfold zstringOf; repeat' split
  all_goals first
    | exact .inl ⟨_, _, _, rfl⟩
    | exact .inr ⟨_, rfl⟩
theorem VRels_two {a b : ZV} {l : List Value} (h : VRels S β n [a, b] l) : ∃ x y, l = [x, y] /\ VRel S β n a x /\ VRel S β n b y := by
  rw [VRels] at h; obtain ⟨x, xs, rfl, h1, h2⟩ := h; rw [VRels] at h2; obtain ⟨y, ys, rfl, h3, h4⟩ := h2; rw [VRels] at h4; subst h4; exact ⟨x, y, rfl, h1, h3⟩
theorem VRels_one {a : ZV} {l : List Value} (h : VRels S β n [a] l) : ∃ x, l = [x] /\ VRel S β n a x := by
  rw [VRels] at h; obtain ⟨x, xs, rfl, h1, h2⟩ := h; rw [VRels] at h2; subst h2; exact ⟨x, rfl, h1⟩
theorem arr_of {l : List Value} {a : Array Value} (h : a.toList = l) : a = l.toArray := by rw [<- h]
theorem arr_ofN {l : List Nat} {a : Array Nat} (h : a.toList = l) : a = l.toArray := by rw [<- h]
theorem zbuiltin_out (ok : EnvOk P E) (m : ZMem S w0 β n M w) {b : Builtin} {tys : Array TypeId} {ty : TypeId} {cs : Array Bool} {l : List ZV} {args : Array Value} (hx : VRels S β n l args.toList) :
    Out P S w0 β n M w ((builtin b tys ty cs args).run P w) (zbuiltin E b tys.toList l M n) := by
  unfold zbuiltin; generalize htl : tys.toList = tl; have ht := arr_ofN htl; clear htl; subst ht; split
  . rename_i t x
    obtain ⟨xv, e, h1⟩ := VRels_one hx; rw [arr_of e]; exact Out.gv (zlen_sound ok m h1) (pl_len _ _)
  . rename_i t u s x
    obtain ⟨sv, xv, e, h1, h2⟩ := VRels_two hx; rw [arr_of e]; exact Out.gv (zappend_sound ok m h1 h2) (pl_append _ _ _ _ _)
  . rename_i t u d x
    obtain ⟨dv, xv, e, h1, h2⟩ := VRels_two hx; rw [arr_of e]; exact Out.gv (zcopy_sound ok m h1 h2 (fun _ => trivial)) (pl_copy _ _ _ _)
  . rename_i t sz j o k c
    obtain ⟨xv, e, h1⟩ := VRels_one hx; rw [arr_of e]; generalize hd : (E.tab t).d = dd
    cases dd with
    | sl e' =>
      obtain ⟨d, hu, hd2⟩ := under_of ok hd rfl; simp only [tdOk] at hd2; subst hd2; rw [VRel] at h1; obtain ⟨_, _, p, q, rfl, _, _, h4⟩ := h1; simp only at h4; subst h4; refine Out.ret m (v := goInt q) (by rw [VRel]; rfl) ?_
      simp [builtin, Builtin.cap_, run_underlying hu]
    | _ => exact Out.bad _
  . rename_i tys k a k' b
    obtain ⟨xv, yv, e, h1, h2⟩ := VRels_two hx; rw [arr_of e]; rw [VRel] at h1; rw [VRel] at h2; subst h1 h2; refine Out.ret m (v := .int k (if b < a then b else a)) ?_ ?_
    . rw [VRel, zltI_eq]; by_cases hh : b < a <;> simp [hh]
    . simp [builtin, Builtin.min_, Builtin.min2, List.foldlM]
  . rename_i tys k a k' b
    obtain ⟨xv, yv, e, h1, h2⟩ := VRels_two hx; rw [arr_of e]; rw [VRel] at h1; rw [VRel] at h2; subst h1 h2; refine Out.ret m (v := .int k (if b > a then b else a)) ?_ ?_
    . rw [VRel, zltI_eq]; by_cases hh : a < b <;> simp [hh]
    . simp [builtin, Builtin.max_, Builtin.max2, List.foldlM]
  . rfl
  . rename_i tys sz j o k c
    obtain ⟨xv, e, h1⟩ := VRels_one hx; rw [arr_of e]; exact Out.gv (zsliceData_sound m h1) (pl_sliceData _ _ _)
  . rename_i pt u j o k b
    obtain ⟨xv, yv, e, h1, h2⟩ := VRels_two hx; rw [arr_of e]; rw [VRel.eq_def (S := S) (β := β) (n := n) (.int k (.ofNat b))] at h2; subst h2; exact Out.gv (zstringOf_sound ok m h1) (pl_stringOf _ _ _ _ _)
  . rename_i t j
    obtain ⟨xv, e, h1⟩ := VRels_one hx; rw [arr_of e]; exact Out.gv (zclear_sound ok m h1) (pl_clear _ _)
  . exact Out.bad _
theorem zcmp_out (m : ZMem S w0 β n M w) {l a l' b : Nat} {r : Result Next} (hr : r = .ok (.value (.int .i64 (if Op.bytesLess (zbytes l a).toList (zbytes l' b).toList then -1 else if Op.bytesLess (zbytes l' b).toList (zbytes l a).toList then 1 else 0))) w) : Out P S w0 β n M w r (zcmp l a l' b M n) := by
  unfold zcmp
  cases h1 : zltS l a l' b with
  | none => exact trivial
  | some x =>
    have e1 := zltS_sound h1
    cases h2 : zltS l' b l a with
    | none => cases x with
      | false => exact trivial
      | true => exact Out.ret m (v := .int .i64 (-1)) (by rw [VRel]) (by rw [hr, <- e1]; rfl)
    | some y =>
      have e2 := zltS_sound h2
      cases x with
      | true => exact Out.ret m (v := .int .i64 (-1)) (by rw [VRel]) (by rw [hr, <- e1]; rfl)
      | false => cases y with
        | true => exact Out.ret m (v := .int .i64 1) (by rw [VRel]) (by rw [hr, <- e1, <- e2]; rfl)
        | false => exact Out.ret m (v := .int .i64 0) (by rw [VRel]) (by rw [hr, <- e1, <- e2]; rfl)
theorem zcallV_out (ok : EnvOk P E) (m : ZMem S w0 β n M w) {v : ZV} {u : Value} {l : List ZV} {args : Array Value} (hv : VRel S β n v u) (hx : VRels S β n l args.toList) :
    Out P S w0 β n M w ((do let d <- Deferred.ofValue u args; invoke d.target d.args : Sem Next).run P w) (zcallV E v l M n) := by
  cases v with
  | fn f fs caps =>
    suffices h : ∀ F, zcallV E (.fn f fs caps) l = F -> Out P S w0 β n M w ((do let d <- Deferred.ofValue u args; invoke d.target d.args : Sem Next).run P w) (F M n) from h _ rfl
    intro F hF; unfold zcallV at hF; rw [VRel] at hv; obtain ⟨a, b, rfl, h1, h2⟩ := hv
    have hl : VRels S β n (fs ++ l ++ caps) (a ++ args ++ b).toList := by
      simp only [Array.toList_append]; exact VRels_append (VRels_append h1 hx) h2
    have hrun : (do let d <- Deferred.ofValue (.func (.func f) a b) args; invoke d.target d.args : Sem Next).run P w = (callFunc f (a ++ args ++ b)).run P w := by
      simp only [Deferred.ofValue, Sem.run_bind, Sem.run_pure, Result.andThen_ok, invoke]
    rw [hrun]; generalize a ++ args ++ b = A at hl; dsimp only at hF
    split at hF
    . subst hF; exact ⟨A, rfl, hl⟩
    . rename_i x he hL
      subst hF; rw [hL] at hl; obtain ⟨xv, e, g⟩ := VRels_one hl; rw [arr_of e]; exact Out.ret m g (ok.ext1 f he xv w)
    . rename_i p q p' q' he hL
      subst hF; rw [hL] at hl; obtain ⟨xv, yv, e, g1, g2⟩ := VRels_two hl; rw [arr_of e]; rw [VRel] at g1; rw [VRel] at g2; subst g1 g2; exact zcmp_out m (ok.ext2 f he _ _ w)
    . subst hF; exact Out.bad _
  | yl j =>
    rw [VRel] at hv; obtain ⟨hj, rfl⟩ := hv; refine ⟨args, hj, ?_, hx⟩; simp [Deferred.ofValue, invoke]
  | _ => exact Out.bad _
theorem zdefer_out {v : ZV} {u : Value} {l : List ZV} {args : Array Value} (hv : VRel S β n v u) (hx : VRels S β n l args.toList) :
    Out P S w0 β n M w ((do pure (.defer (<- Deferred.ofValue u args)) : Sem Next).run P w) (zdefer v l M n) := by
  unfold zdefer
  cases v with
  | fn f fs caps =>
    rw [VRel] at hv; obtain ⟨a, b, rfl, h1, h2⟩ := hv; refine ⟨{ target := .fn (.func f) b, args := a ++ args }, ?_, b, rfl, ?_⟩
    . simp [Deferred.ofValue]
    . simp only [Array.toList_append]; exact VRels_append (VRels_append h1 hx) h2
  | _ => exact Out.bad _
end
end Go.Z
namespace Go.Z
open Go.Eng (TI TD DV DRep DRows DCells Snap nth upd slice' splice TabOk tiOk tdOk TFacts)
section
variable {P : Program} {E : Env} {S : Snap} {w0 : World} {β : Nat -> Loc} {n : Nat} {M : Tri ZO} {w : World}
theorem zalloc_sound (ok : EnvOk P E) (m : ZMem S w0 β n M w) {T : TypeId} : Gv P S w0 β n M w (zwhen (!zbadT (E.tab T).d && zones ((E.tab T).zero.map zofV)) (znew T ((E.tab T).zero.map zofV) fun j => .ptr j 0)) (Instr.alloc T true (.tuple #[])) := by
  refine Gv.when fun h => ?_
  simp only [Bool.and_eq_true, Bool.not_eq_true'] at h; obtain ⟨info, d, z, hi, hu, hs, _, hz, hzc, hd⟩ := tfacts ok h.1; have hv : VRels S β n ((E.tab T).zero.map zofV) z.cells.toList := by rw [hzc]; exact VRels_zero _
  intro v M' n' hh; obtain ⟨β', h1, h2⟩ := znew_sound m (F := fun a => .pointer (some a)) hv (VRels_ones hv h.2) (fun β' _ hb => by rw [VRel]; exact ⟨⟨by omega, by rw [hb]⟩, 0, by rw [hb]; rfl, by rw [hb]⟩) v M' n' hh
  refine ⟨_, _, β', ?_, h1, h2⟩; simp [Instr.alloc, newVar, newRow, zeroValue, typeInfo, hi, hz]
theorem zbox_sound (m : ZMem S w0 β n M w) {T : TypeId} {x : ZV} {xv : Value} (hx : VRel S β n x xv) : Gv P S w0 β n M w (zwhen (zones (zcells x)) (znew T (zcells x) fun j => .ptr j 0)) (Instr.box T xv) := by
  refine Gv.when fun h => ?_
  have hv := VRel_cells hx h; intro v M' n' hh; obtain ⟨β', h1, h2⟩ := znew_sound m (F := fun a => .pointer (some a)) hv (VRels_ones hv h) (fun β' _ hb => by rw [VRel]; exact ⟨⟨by omega, by rw [hb]⟩, 0, by rw [hb]; rfl, by rw [hb]⟩) v M' n' hh
  refine ⟨_, _, β', ?_, h1, h2⟩; simp [Instr.box, newVar, newRow]
theorem zoptO_sound {t : Tri ZV} {a : Act} (r : TRel S β n t a.tmps) (o : Option Operand) : ORels S β n (zoptO t o) (o.map a.eval) := by
  cases o with
  | none => simp [zoptO, ORels]
  | some o => simpa [zoptO, ORels] using zrd_sound r o
theorem zpick_out (m : ZMem S w0 β n M w) {t : Tri ZV} {a : Act} (r : TRel S β n t a.tmps) {o : Oper} {c x y : Operand} (ho : o.op = .pick c x y) : Out P S w0 β n M w ((execOp a.eval o).run P w) (zop E (.pick c x y) o.type t M n) := by
  suffices h : ∀ F, zop E (.pick c x y) o.type t = F -> Out P S w0 β n M w ((execOp a.eval o).run P w) (F M n) from h _ rfl
  intro F hF; unfold zop at hF; dsimp only at hF
  have hc := zrd_sound r c; split at hF
  . rename_i hb
    subst hF; rw [hb, VRel] at hc; exact Out.ret m (zrd_sound r x) (by simp [execOp, ho, hc, asBool])
  . rename_i hb
    subst hF; rw [hb, VRel] at hc; exact Out.ret m (zrd_sound r y) (by simp [execOp, ho, hc, asBool])
  . subst hF; exact Out.bad _
theorem zop_out (ok : EnvOk P E) (m : ZMem S w0 β n M w) {t : Tri ZV} {a : Act} (r : TRel S β n t a.tmps) (o : Oper) : Out P S w0 β n M w ((execOp a.eval o).run P w) (zop E o.op o.type t M n) := by
  cases ho : o.op with
  | move x => exact Out.ret m (zrd_sound r x) (by simp [execOp, ho])
  | assign x => exact Out.ret m (zrd_sound r x) (by simp [execOp, ho])
  | pick c x y => exact zpick_out m r ho
  | alloc T => simp only [execOp, ho]; exact Out.gv (zalloc_sound ok m) (Plain.when (pl_new _ _ _))
  | box T x => simp only [execOp, ho]; exact Out.gv (zbox_sound m (zrd_sound r x)) (Plain.when (pl_new _ _ _))
  | build T ps => simp only [execOp, ho]; exact Out.gv (zbuild_sound ok m r ps) (pl_build _ _)
  | buildSlice T q ps => simp only [execOp, ho]; exact Out.gv (zbuildSlice_sound ok m r ps) (pl_buildSlice _ _ _ _)
  | load T x =>
    simp only [execOp, ho]; exact Out.gv (Gv.when fun h => zload_sound ok m (by simpa using h) (zrd_sound r x)) (Plain.when (pl_load _ _))
  | store T x y =>
    simp only [execOp, ho]; refine Out.un (F := zwhen (!zbadT (E.tab T).d) (zstore (E.tab T) (zrd t x) (zrd t y))) ?_ (Plain.when (pl_store _ _ _)); intro v M' n' h; obtain ⟨hb, h⟩ := zwhen_ok h; obtain ⟨w', h1, h2, h3⟩ := zstore_sound ok m (by simpa using hb) (zrd_sound r x) (zrd_sound r y) v M' n' h
    exact ⟨h2, w', β, h1, h3⟩
  | nilCheck x => exact znilI_out m ho (zrd_sound r x)
  | binOp op T x y z => simp only [execOp, ho]; exact Out.gv (zbin_sound ok m x y (fun h => h) (zrd_sound r x) (zrd_sound r y)) (pl_bin _ _ _ _ _ _)
  | unOp op T x => simp only [execOp, ho]; exact Out.gv (zun_sound m (zrd_sound r x)) (pl_un _ _)
  | convert s d x => simp only [execOp, ho]; exact Out.gv (zconv_sound ok m (zrd_sound r x)) (pl_conv _ _ _ _)
  | makeInterface T x => simp only [execOp, ho]; exact Out.gv (zmakeInterface_sound ok m (zrd_sound r x)) (Plain.when (Plain.ret _))
  | makeFunc f fs cs => cases f with
    | func f =>
      refine Out.ret m (v := .func (.func f) (fs.map a.eval) (cs.map a.eval)) ?_ (by simp [execOp, ho, Instr.makeFunc])
      rw [VRel]; exact ⟨_, _, rfl, by rw [Array.toList_map]; exact zrds_sound r _, by rw [Array.toList_map]; exact zrds_sound r _⟩
    | _ => exact Out.bad _
  | makeMap T x => cases x with
    | none => simp only [execOp, ho]; exact Out.gv (zmakeMap_sound m) (fun M n => .inl ⟨_, _, _, rfl⟩)
    | some x => exact Out.bad _
  | makeSlice T l c => simp only [execOp, ho]; exact Out.gv (zmakeSlice_sound ok m (zrd_sound r l) (zrd_sound r c)) (pl_makeSlice _ _ _ _)
  | slice T x lo hi mx => simp only [execOp, ho]; exact Out.gv (zslice_sound ok m (zrd_sound r x) (zoptO_sound r lo) (zoptO_sound r hi) (zoptO_sound r mx)) (pl_slice _ _ _ _ _ _)
  | fieldAddr T x f => simp only [execOp, ho]; exact Out.gv (zfieldAddr_sound ok m (zrd_sound r x)) (pl_fieldAddr _ _ _)
  | field T x f => simp only [execOp, ho]; exact Out.gv (zfield_sound ok m (zrd_sound r x)) (pl_field _ _ _ _)
  | indexAddr T x i => simp only [execOp, ho]; exact Out.gv (zindexAddr_sound ok m (zrd_sound r x) (zrd_sound r i)) (pl_indexAddr _ _ _ _)
  | index T x i => simp only [execOp, ho]; exact Out.gv (zindex_sound ok m (zrd_sound r x) (zrd_sound r i)) (pl_index _ _ _)
  | lookup T x k c => simp only [execOp, ho]; exact Out.gv (zlookup_sound ok m c (zrd_sound r x) (zrd_sound r k)) (pl_lookup _ _ _ _ _)
  | mapEntry T x k => simp only [execOp, ho]; exact Out.gv (zmapEntry_sound ok m (zrd_sound r x) (zrd_sound r k)) (pl_mapEntry _ _ _ _)
  | entryStore T x s v =>
    simp only [execOp, ho]; refine Out.un (F := zentryStore (zrd t x) (zrd t s) (zrd t v)) ?_ (pl_entryStore _ _ _); intro v' M' n' h; obtain ⟨w', h1, h2, h3⟩ := zentryStore_sound m (zrd_sound r x) (zrd_sound r s) (zrd_sound r v) v' M' n' h; exact ⟨h2, w', β, h1, h3⟩
  | mapUpdate T x k v =>
    simp only [execOp, ho]; refine Out.un (F := zmapPut E T (zrd t x) (zrd t k) (zrd t v)) ?_ (pl_mapPut _ _ _ _ _); intro v' M' n' h; obtain ⟨w', h1, h2, h3⟩ := zmapPut_sound ok m (zrd_sound r x) (zrd_sound r k) (zrd_sound r v) v' M' n' h; exact ⟨h2, w', β, h1, h3.1⟩
  | insert T x k v =>
    simp only [execOp, ho]; refine Out.un (F := zmapPut E T (zrd t x) (zrd t k) (zrd t v)) ?_ (pl_mapPut _ _ _ _ _); intro v' M' n' h; obtain ⟨w', h1, h2, h3⟩ := zmapPut_sound ok m (zrd_sound r x) (zrd_sound r k) (zrd_sound r v) v' M' n' h; exact ⟨h2, w', β, h1, h3.1⟩
  | range T x => simp only [execOp, ho]; exact Out.gv (F := zrangeI E T (zrd t x)) (zrange_sound ok m (zrd_sound r x)) (pl_range _ _ _)
  | next x b => cases b with
    | true => simp only [execOp, ho]; exact Out.gv (znext_sound m (zrd_sound r x)) (pl_next _)
    | false => simp only [execOp, ho]; exact Out.gv (F := znextM (zrd t x)) (znextM_sound m (zrd_sound r x)) (pl_nextM _)
  | typeAssert x T D c => simp only [execOp, ho]; exact Out.gv (zassert_sound ok m c (zrd_sound r x)) (pl_assert _ _ _ _)
  | extract x i => simp only [execOp, ho]; exact Out.gv (F := zextractI (zrd t x) i) (zextract_sound m (zrd_sound r x)) (pl_extract _ _)
  | call c =>
    have hargs : VRels S β n (zrds t c.args.toList) (c.args.map a.eval).toList := by rw [Array.toList_map]; exact zrds_sound r _
    simp only [execOp, ho, resolve]
    cases hc : c.callee with
    | builtin b =>
      have h := zbuiltin_out ok m (b := b) (tys := c.argTypes) (ty := o.type) (cs := c.args.map fun | .const _ => true | _ => false) hargs
      simp only [zop, hc, Sem.run_bind, Sem.run_pure, Result.andThen_ok, invoke]; exact h
    | value f =>
      have h := zcallV_out ok m (zrd_sound r f) hargs; simp only [zop, hc]; exact h
    | invoke x y => simp only [zop, hc]; exact Out.bad _
  | defer c =>
    have hargs : VRels S β n (zrds t c.args.toList) (c.args.map a.eval).toList := by rw [Array.toList_map]; exact zrds_sound r _
    simp only [execOp, ho, resolve]
    cases hc : c.callee with
    | builtin b => simp only [zop, hc]; exact Out.bad _
    | value f =>
      have h := zdefer_out (P := P) (S := S) (w0 := w0) (M := M) (w := w) (zrd_sound r f) hargs; simp only [zop, hc]; exact h
    | invoke x y => simp only [zop, hc]; exact Out.bad _
  | _ => exact Out.bad _
end
end Go.Z
