/- The plain law of an odometer. -/
import Derived.Test.YtoaifhhfcokipaaGreatDoorXx
namespace Go.Qu
open Go.Eng Go.Proofs
def tups : List Nat → List (List Int)
  | [] => [[]]
  | n :: ls => (List.range n).flatMap fun (d : Nat) => (tups ls).map fun c => (d : Int) :: c
def giI (c : List Int) (i : Nat) : Int := (c[i]?).getD 0
def gnN (c : List Nat) (i : Nat) : Nat := (c[i]?).getD 0
def incC (ls : List Nat) : Nat → List Int → Bool × List Int
  | 0, c => (true, c)
  | i + 1, c => if giI c i + 1 < (gnN ls i : Int) then (false, c.set i (giI c i + 1)) else incC ls i (c.set i 0)
def incS (n : Nat) (d : Int) : Bool × List Int → Bool × List Int
  | (true, e) => if d + 1 < (n : Int) then (false, (d + 1) :: e) else (true, 0 :: e)
  | (false, e) => (false, d :: e)
theorem incC_cons (n : Nat) (ls : List Nat) (d : Int) : ∀ (i : Nat) (ds : List Int), incC (n :: ls) (i + 1) (d :: ds) = incS n d (incC ls i ds)
  | 0, ds => rfl
  | i + 1, ds => by
    have h1 : giI (d :: ds) (i + 1) = giI ds i := rfl
    have h2 : gnN (n :: ls) (i + 1) = gnN ls i := rfl
    have e1 : incC (n :: ls) (i + 1 + 1) (d :: ds) = if giI ds i + 1 < (gnN ls i : Int) then (false, d :: ds.set i (giI ds i + 1)) else incC (n :: ls) (i + 1) (d :: ds.set i 0) := rfl
    have e2 : incC ls (i + 1) ds = if giI ds i + 1 < (gnN ls i : Int) then (false, ds.set i (giI ds i + 1)) else incC ls i (ds.set i 0) := rfl
    rw [e1, e2]
    split
    · rfl
    · exact incC_cons n ls d i (ds.set i 0)
def Chn (f : List Int → Bool × List Int) (z : List Int) : List (List Int) → Prop
  | [] => True
  | [c] => f c = (true, z)
  | c :: c' :: l => f c = (false, c') ∧ Chn f z (c' :: l)
theorem Chn.blk {f f' : List Int → Bool × List Int} {z z' : List Int} {d n : Nat} (hf : ∀ c, f ((d : Int) :: c) = incS n d (f' c)) : ∀ (l B : List (List Int)), l ≠ [] → Chn f' z' l →
    (d + 1 < n → ∃ B', B = (((d + 1 : Nat) : Int) :: z') :: B' ∧ Chn f z B) → (¬ d + 1 < n → B = [] ∧ z = 0 :: z') → Chn f z (l.map (fun c => (d : Int) :: c) ++ B)
  | [], _, h, _, _, _ => absurd rfl h
  | [c], B, _, hc, h1, h2 => by
    have hc : f' c = (true, z') := hc
    have e := hf c
    rw [hc] at e
    by_cases h : d + 1 < n
    · obtain ⟨B', hB, hB2⟩ := h1 h
      have e2 : incS n d (true, z') = (false, ((d + 1 : Nat) : Int) :: z') := by
        show (if (d : Int) + 1 < (n : Int) then _ else _) = _
        rw [if_pos (by omega)]
        rfl
      rw [hB]
      refine ⟨?_, by rw [← hB]; exact hB2⟩
      rw [e, e2]
    · obtain ⟨hB, hz⟩ := h2 h
      have e2 : incS n d (true, z') = (true, 0 :: z') := by
        show (if (d : Int) + 1 < (n : Int) then _ else _) = _
        rw [if_neg (by omega)]
      rw [hB, hz]
      show f (d :: c) = (true, 0 :: z')
      rw [e, e2]
  | c :: c' :: l, B, _, hc, h1, h2 => by
    obtain ⟨hc1, hc2⟩ := hc
    have e := hf c
    rw [hc1] at e
    exact ⟨e, Chn.blk hf (c' :: l) B (by simp) hc2 h1 h2⟩
theorem tups_len : ∀ {ls : List Nat} {c : List Int}, c ∈ tups ls → c.length = ls.length ∧ ∀ x ∈ c, 0 ≤ x ∧ ∃ n ∈ ls, x < (n : Int)
  | [], c, h => by
    rw [tups, List.mem_singleton] at h
    subst h
    exact ⟨rfl, fun x h => by cases h⟩
  | n :: ls, c, h => by
    rw [tups, List.mem_flatMap] at h
    obtain ⟨d, hd, h⟩ := h
    obtain ⟨e, he, h⟩ := List.mem_map.1 h
    subst h
    obtain ⟨h1, h2⟩ := tups_len he
    refine ⟨by rw [List.length_cons, h1]; rfl, fun x hx => ?_⟩
    rcases List.mem_cons.1 hx with h | hx
    · subst h
      exact ⟨Int.natCast_nonneg d, n, List.mem_cons_self, Int.ofNat_lt.2 (List.mem_range.1 hd)⟩
    · obtain ⟨q1, m, q2, q3⟩ := h2 x hx
      exact ⟨q1, m, List.mem_cons_of_mem _ q2, q3⟩
theorem tups_chn : ∀ ls : List Nat, Chn (incC ls ls.length) (List.replicate ls.length 0) (tups ls) ∧ ((tups ls).head? = none ∨ (tups ls).head? = some (List.replicate ls.length 0))
  | [] => ⟨rfl, .inr rfl⟩
  | n :: ls => by
    obtain ⟨h1, h2⟩ := tups_chn ls
    cases ht : tups ls with
    | nil =>
      have e : tups (n :: ls) = [] := by
        rw [tups, ht]
        induction List.range n with
        | nil => rfl
        | cons a l ih => rw [List.flatMap_cons, ih]; rfl
      rw [e]
      exact ⟨trivial, .inl rfl⟩
    | cons z' tl =>
      have hz : z' = List.replicate ls.length 0 := by
        rw [ht] at h2
        rcases h2 with h | h
        · cases h
        · injection h
      rw [ht] at h1
      rw [← hz] at h1
      have go : ∀ m d, d + m = n → 0 < m → Chn (incC (n :: ls) (ls.length + 1)) (0 :: z') ((List.range' d m).flatMap fun d => (z' :: tl).map fun c => ((d : Nat) : Int) :: c) ∧ ∃ B', ((List.range' d m).flatMap fun d => (z' :: tl).map fun c => ((d : Nat) : Int) :: c) = ((d : Int) :: z') :: B' := by
        intro m
        induction m with
        | zero => intro d _ h; omega
        | succ m ih =>
          intro d hd _
          rw [List.range'_succ, List.flatMap_cons]
          refine ⟨Chn.blk (fun c => incC_cons n ls d ls.length c) (z' :: tl) _ (by simp) h1 (fun h => ?_) (fun h => ?_), ⟨_, rfl⟩⟩
          · obtain ⟨q1, B', q2⟩ := ih (d + 1) (by omega) (by omega)
            exact ⟨B', q2, q1⟩
          · have : m = 0 := by omega
            subst this
            exact ⟨rfl, rfl⟩
      rw [tups, ht, List.range_eq_range']
      show Chn (incC (n :: ls) (ls.length + 1)) (List.replicate (ls.length + 1) 0) _ ∧ _
      rw [List.length_cons, List.replicate_succ, ← hz]
      by_cases hn : 0 < n
      · obtain ⟨q1, B', q2⟩ := go n 0 (by omega) hn
        exact ⟨q1, .inr (by rw [q2]; rfl)⟩
      · have : n = 0 := by omega
        subst this
        exact ⟨trivial, .inl rfl⟩
theorem Chn.get {f : List Int → Bool × List Int} {z : List Int} : ∀ {l : List (List Int)} {t : Nat} {c c' : List Int}, Chn f z l → l[t]? = some c → l[t + 1]? = some c' → (f c).2 = c'
  | [], t, c, c', _, h, _ => by simp at h
  | [a], t, c, c', _, _, h => by simp at h
  | a :: b :: l, 0, c, c', h, h1, h2 => by
    simp at h1 h2
    subst h1 h2
    rw [h.1]
  | a :: b :: l, t + 1, c, c', h, h1, h2 => Chn.get h.2 (by simpa using h1) (by simpa using h2)
theorem incC_len (ls : List Nat) : ∀ (i : Nat) (c : List Int), (incC ls i c).2.length = c.length
  | 0, c => rfl
  | i + 1, c => by
    rw [incC]
    split
    · simp
    · rw [incC_len ls i, List.length_set]
def vals (l : List (List Int)) (c : List Int) : List Int := List.zipWith (fun (c : List Int) (d : Int) => (c[d.toNat]?).getD 0) l c
def tupsV : List (List Int) → List (List Int)
  | [] => [[]]
  | c :: l => c.flatMap fun j => (tupsV l).map fun t => j :: t
theorem range_flat {α : Type} (c : List Int) (f : Int → List α) : c.flatMap f = (List.range c.length).flatMap fun d => f ((c[d]?).getD 0) := by
  have : c = (List.range c.length).map fun d => (c[d]?).getD 0 := by
    apply List.ext_getElem?
    intro i
    rw [List.getElem?_map]
    by_cases h : i < c.length
    · rw [List.getElem?_range h, List.getElem?_eq_getElem h]
      simp [h]
    · rw [List.getElem?_eq_none (by omega), List.getElem?_eq_none (by simp; omega)]
      rfl
  conv => lhs; rw [this]
  rw [List.flatMap_map]
theorem tupsV_eq : ∀ l : List (List Int), tupsV l = (tups (l.map List.length)).map (vals l)
  | [] => rfl
  | c :: l => by
    rw [tupsV, range_flat, List.map_cons, tups, List.map_flatMap, tupsV_eq l]
    congr 1
    funext d
    rw [List.map_map, List.map_map]
    congr 1
theorem builtR_eq (q : Qual) (u : List Int) : ∀ (l : List (List Int)) (cs : List Int), builtR q u l cs = (tupsV l).map fun t => leaf q u (cs ++ t)
  | [], cs => by rw [builtR, tupsV]; simp
  | c :: l, cs => by
    rw [builtR, tupsV, List.map_flatMap]
    congr 1
    funext j
    rw [builtR_eq q u l, List.map_map]
    congr 1
    funext t
    simp
def item (q : Qual) (u : List Int) (l : List (List Int)) (c : List Int) : Node := sub (q.decls.map Decl.name) ((vals l c).map (varN u)) q.node
theorem builtR_item (q : Qual) (u : List Int) (l : List (List Int)) : builtR q u l [] = (tups (([0] :: l).map List.length)).map (item q u ([0] :: l)) := by
  rw [builtR_eq, tupsV_eq, List.map_cons, tups, show List.length [(0 : Int)] = 1 from rfl, show List.range 1 = [0] from rfl, List.flatMap_singleton, List.map_map, List.map_map]
  congr 1
theorem tups_get : ∀ {ls : List Nat} {c : List Int} {i n : Nat}, c ∈ tups ls → ls[i]? = some n → ∃ x : Nat, c[i]? = some (x : Int) ∧ x < n
  | [], c, i, n, _, h => by simp at h
  | m :: ls, c, i, n, h, hn => by
    rw [tups, List.mem_flatMap] at h
    obtain ⟨d, hd, h⟩ := h
    obtain ⟨e, he, h⟩ := List.mem_map.1 h
    subst h
    cases i with
    | zero =>
      simp at hn
      subst hn
      exact ⟨d, rfl, List.mem_range.1 hd⟩
    | succ i => exact tups_get (i := i) he (by simpa using hn)
theorem ints_set (l : List Int) (i : Nat) (v : Int) : setRow (ints l) i 0 [.int .i64 v] = ints (l.set i v) := by
  unfold setRow ints
  rw [List.map_set]
  by_cases h : i < l.length
  · rw [List.getElem?_map, List.getElem?_eq_getElem h]
    rfl
  · rw [List.set_eq_of_length_le (by simp; omega), List.set_eq_of_length_le (by simp; omega)]
theorem ch_fact {q : Qual} {u : List Int} {d0 : Decl} (hd0 : q.decls[0]? = some d0) (hu0 : u[0]? = some d0.sort) {c : List Int} (hc : c ∈ tups (([0] :: chAll q u).map List.length)) {i : Nat} {d : Decl} (hd : q.decls[i]? = some d) :
    ∃ (ci : List Int) (x n : Nat), ([0] :: chAll q u)[i]? = some ci ∧ c[i]? = some (x : Int) ∧ x < ci.length ∧ ci[x]? = some (n : Int) ∧ u[n]? = some d.sort ∧ (vals ([0] :: chAll q u) c)[i]? = some (n : Int) := by
  have hv : ∀ {ci : List Int} {x : Nat} {n : Int}, ([0] :: chAll q u)[i]? = some ci → c[i]? = some (x : Int) → ci[x]? = some n → (vals ([0] :: chAll q u) c)[i]? = some n := by
    intro ci x n h1 h2 h3
    unfold vals
    rw [List.getElem?_zipWith, h1, h2]
    simp [h3]
  have hg : ∀ {ci : List Int}, ([0] :: chAll q u)[i]? = some ci → ∃ x : Nat, c[i]? = some (x : Int) ∧ x < ci.length := by
    intro ci h
    exact tups_get hc (by rw [List.getElem?_map, h]; rfl)
  cases i with
  | zero =>
    rw [hd0] at hd
    injection hd with hd
    subst hd
    obtain ⟨x, h1, h2⟩ := hg (ci := [0]) rfl
    have : x = 0 := by simpa using h2
    subst this
    exact ⟨[0], 0, 0, rfl, h1, h2, rfl, hu0, hv (ci := [0]) rfl h1 rfl⟩
  | succ i =>
    have h0 : ([0] :: chAll q u)[i + 1]? = some (chs u d.sort) := by
      rw [List.getElem?_cons_succ, chAll, List.getElem?_map, List.getElem?_drop, Nat.add_comm, hd]
      rfl
    obtain ⟨x, h1, h2⟩ := hg h0
    have hm := List.getElem_mem h2
    have hx : (chs u d.sort)[x]? = some (chs u d.sort)[x] := List.getElem?_eq_getElem h2
    generalize (chs u d.sort)[x] = j at hm hx
    have hm' := hm
    unfold chs chsK at hm'
    obtain ⟨n, h3, h4⟩ := List.mem_map.1 hm'
    have h5 := (List.mem_filter.1 h3).2
    have h6 : u[n]? = some d.sort := by
      unfold chP at h5
      exact of_decide_eq_true (Bool.and_eq_true_iff.1 h5).2
    rw [← h4] at hx
    exact ⟨_, x, n, h0, h1, h2, hx, h6, hv h0 h1 hx⟩
end Go.Qu
