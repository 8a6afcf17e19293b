/- The reference's instances. -/
import Derived.Test.YtoaifhhfcokipaaGreatDoorXw
import Derived.Test.YtoaifhhfcokipaaGreatDoorXc
namespace Go.Qu
open Go.Eng Go.Proofs
def varN (u : List Int) (c : Int) : Node := .mk 1 ((u[c.toNat]?).getD 0) (zname c.toNat) 0 []
def leaf (q : Qual) (u cs : List Int) : Node := sub (q.decls.map Decl.name) (((0 : Int) :: cs).map (varN u)) q.node
def builtR (q : Qual) (u : List Int) : List (List Int) → List Int → List Node
  | [], cs => [leaf q u cs]
  | c :: l, cs => c.flatMap fun j => builtR q u l (cs ++ [j])
def prodL : List (List Int) → Nat
  | [] => 1
  | c :: l => c.length * prodL l
theorem flat_len {α β : Type} (f : α → List β) (n : Nat) : ∀ (l : List α), (∀ x, (f x).length = n) → (l.flatMap f).length = l.length * n
  | [], _ => by simp
  | x :: l, h => by
    rw [List.flatMap_cons, List.length_append, h, flat_len f n l h, List.length_cons, Nat.succ_mul]
    omega
theorem builtR_len (q : Qual) (u : List Int) : ∀ (l : List (List Int)) (cs : List Int), (builtR q u l cs).length = prodL l
  | [], _ => rfl
  | c :: l, cs => by
    rw [builtR, prodL]
    exact flat_len _ _ c fun j => builtR_len q u l _
theorem flat_take_succ {α β : Type} (f : α → List β) {l : List α} {k : Nat} {x : α} (h : l[k]? = some x) : (l.take (k + 1)).flatMap f = (l.take k).flatMap f ++ f x := by
  rw [List.take_add_one, h, List.flatMap_append]
  simp
theorem varN_svs (u : List Int) (n : Nat) (x : Int) (h : u[n]? = some x) : (varN u (n : Int)).dvs = [.int .i64 1, .int .i64 x, .str (zname n), .int .i64 0, .sl 5 []] := by
  unfold varN
  rw [Int.toNat_natCast, h]
  rfl
theorem var_row {u : List Int} {n : Nat} {x : Int} {z0 : ByteArray} (h : u[n]? = some x) (hz : zname n = z0) {S : Snap} {xs : List Value} (hx : DRows S 5 [[.int .i64 1, .int .i64 x, .str z0, .int .i64 0, .sl 0 []]] xs) : DRows S 5 (Node.rows [varN u (n : Int)]) xs := by
  rw [Node.rows_one, Node.row_dvs, varN_svs u n x h, hz]
  exact DRows_sole rfl (fun xs h => DCells_last (r := [.int .i64 1, .int .i64 x, .str z0, .int .i64 0]) h) hx
theorem varN_Sm (u : List Int) (c : Int) : Sm (varN u c) := by
  show 1 + Node.sizes [] < 1073741824
  decide
set_option maxRecDepth 100000 in
theorem built_ok (q : Qual) (u : List Int) (ls : List (List Int)) (d0 : Decl) (u0 : Int) (hq0 : q.decls[0]? = some d0) (hu0 : u[0]? = some u0) (hql : q.decls.length ≤ 1000) (hu : u.length ≤ 100) (hsz : Sm q.node) (hls : ls.length + 1 = q.decls.length) (hin : ∀ c ∈ ls, c.length ≤ 100 ∧ ∀ j ∈ c, ∃ n : Nat, j = (n : Int) ∧ n < u.length) :
    ∀ (n i : Nat) (cs : List Int), ls.length - i = n → i ≤ ls.length → cs.length = i → (∀ j ∈ cs, ∃ n : Nat, j = (n : Int) ∧ n < u.length) → prodL (ls.drop i) ≤ 2000 →
    Pure Tryz.prog 21 [.agg q.svs, .agg [.ds 1 fun _ => ints u], .ds 1 fun _ => unks ls, .int .i64 fun _ => (i : Int), .ds 1 fun _ => ints cs] (.ds 5 fun _ => Node.rows (builtR q u (ls.drop i) cs)) := by
  have hq : 1 ≤ q.decls.length := (List.getElem?_eq_some_iff.1 hq0).1
  have hu1 : 1 ≤ u.length := (List.getElem?_eq_some_iff.1 hu0).1
  intro n
  induction n with
  | zero =>
    intro i cs hn hi hcl hcs hp
    have hie : i = ls.length := by omega
    have hres : builtR q u (ls.drop i) cs = [leaf q u cs] := by rw [hie, List.drop_length]; rfl
    rw [hres]
    refine Exists.elim (show ∃ z, leaf q u cs = z from ⟨_, rfl⟩) fun z hz => ?_
    rw [hz]
    refine pure_of (P := fun _ => Tryz.prog) tabOk Tryz.func21 rfl rfl ?_
    cbv
    refine .split (fun _ => ?_) (fun h => ?_)
    · refine .need ⟨by decide, by rw [Decl.rows_length]; exact Int.ofNat_lt.2 hq⟩ ?_
      refine .row _ _ (Decl.rows_get hq0) (Decl.dvs_toSV _) ?_
      cbv
      refine Exists.elim (show ∃ z0, zname 0 = z0 from ⟨_, rfl⟩) fun z0 hz0 => ?_
      have hp0 := param1_ok 0 (by decide)
      rw [hz0] at hp0
      refine .need ⟨by decide, by rw [ints_length]; exact Int.ofNat_lt.2 hu1⟩ ?_
      refine .row [.int .i64 u0] [.int .i64 fun _ => u0] (ints_get hu0) rfl ?_
      cbv
      refine .callD hp0 ?_ rfl rfl (fun h => nomatch h) ?_ rfl
      · (cbv; refine .mk ?_; repeat' (first | exact AllP.nil | refine AllP.cons (by with_reducible rfl) ?_ | refine AllP.cons ?_ ?_))
        all_goals rfl
      cbv
      refine .need rfl ?_
      refine .loop Nat (fun k => k ≤ cs.length) (fun k => [(32, .any), (39, .any), (11, .os 2), (12, .os 3), (40, .ds 1 fun _ => ints cs), (41, .int .i64 fun _ => (cs.length : Int)), (42, .int .i64 fun _ => (k : Int))]) (fun k => [(0, .cells 33 q.svs), (1, .cells 25 [.ds 1 fun _ => ints u]), (2, .arr 9 1 fun _ => strs ((q.decls.take (k + 1)).map Decl.name)), (3, .arr 31 5 fun _ => Node.rows ((((0 : Int) :: cs).take (k + 1)).map (varN u)))]) 5 (fun k => cs.length - k) 0 (Nat.zero_le _) ?_ ?_
      · refine Le.trans (Le.rows (j := 3) (T := 31) (sz := 5) (l' := fun _ => Node.rows [varN u 0]) rfl ?_ ?_) ?_
        · rfl
        · exact fun S xs hx => var_row (n := 0) hu0 hz0 hx
        · (refine le_of ?_; cbv; refine .mk ?_; repeat' (first | exact AllP.nil | refine AllP.cons (by with_reducible rfl) ?_ | refine AllP.cons ?_ ?_))
          all_goals first | rfl | (simp [lenL, ints_length]; done) | (rw [List.take_add_one, hq0]; rfl)
      rintro k hk
      cbv
      refine .split (fun h1 => ?_) (fun h1 => ?_)
      · have h1 : decide ((k : Int) < (cs.length : Int)) = true := h1
        have hkl : k < cs.length := Int.ofNat_lt.1 (of_decide_eq_true h1)
        refine Exists.elim (getI hkl) fun c hc => ?_
        refine Exists.elim (hcs c (List.mem_of_getElem? hc)) fun cn hcn => ?_
        have hcu := hcn.2
        refine Exists.elim (getI hcu) fun x hx => ?_
        have hkd : k + 1 < q.decls.length := by rw [← hls, ← hie, ← hcl]; exact Nat.succ_lt_succ hkl
        refine Exists.elim (getI hkd) fun d hd => ?_
        refine Exists.elim (show ∃ z1, zname cn = z1 from ⟨_, rfl⟩) fun z1 hz1 => ?_
        have hp1 := param1_ok cn (Nat.lt_of_lt_of_le hcu hu)
        rw [hz1] at hp1
        have hc' : cs[k]? = some (cn : Int) := by rw [hc, hcn.1]
        have ek : IntKind.i64.wrap ((k : Int) + 1) = ((k + 1 : Nat) : Int) := by
          have := hk
          rw [IntKind.wrap_i64]; omega
        refine .need ⟨by simp, by rw [ints_length]; exact Int.ofNat_lt.2 hkl⟩ ?_
        refine .row [.int .i64 (cn : Int)] [.int .i64 fun _ => (cn : Int)] (ints_get hc') rfl ?_
        cbv
        refine .need ⟨by rw [ek]; exact Int.natCast_nonneg _, by rw [ek, Decl.rows_length]; exact Int.ofNat_lt.2 hkd⟩ ?_
        refine .row _ _ (by rw [ek, Int.toNat_natCast]; exact Decl.rows_get hd) (Decl.dvs_toSV _) ?_
        cbv
        have hkq : (q.decls.take (k + 1)).length ≤ 1000 := by rw [List.length_take]; exact Nat.le_trans (Nat.min_le_right _ _) hql
        have hka : (((0 : Int) :: cs).take (k + 1)).length ≤ 1001 := by rw [List.length_take]; exact Nat.le_trans (Nat.min_le_left _ _) (Nat.le_trans (Nat.succ_le_succ hk) (by rw [hcl, hie]; omega))
        refine .need (by simp only [strs_length, List.length_map, List.length_cons, List.length_nil]; omega) ?_
        refine .need ⟨by simp, by rw [ints_length]; exact Int.ofNat_lt.2 hcu⟩ ?_
        refine .row [.int .i64 x] [.int .i64 fun _ => x] (by rw [Int.toNat_natCast]; exact ints_get hx) rfl ?_
        cbv
        refine .callD hp1 ?_ rfl rfl (fun h => nomatch h) ?_ rfl
        · (cbv; refine .mk ?_; repeat' (first | exact AllP.nil | refine AllP.cons (by with_reducible rfl) ?_ | refine AllP.cons ?_ ?_))
          all_goals rfl
        cbv
        refine .need (by simp only [Node.rows_length, List.length_map, List.length_cons, List.length_nil] at hka ⊢; omega) ?_
        refine .need rfl ?_
        refine .prop ⟨k + 1, hkl, by omega, ?_⟩
        refine Le.trans (Le.rows (j := 8) (T := 31) (sz := 5) (l' := fun _ => Node.rows ((((0 : Int) :: cs).take (k + 1)).map (varN u)) ++ Node.rows [varN u (cn : Int)]) rfl ?_ ?_) ?_
        · rw [List.length_append, List.length_append]
          rfl
        · exact fun S xs hx2 => DRows_app (fun _ h => h) (fun _ h => var_row hx hz1 h) hx2
        · have hd2 : q.decls.take (k + 1 + 1) = q.decls.take (k + 1) ++ [d] := by rw [List.take_add_one, hd]; rfl
          have hc2 : ((0 : Int) :: cs).take (k + 1 + 1) = ((0 : Int) :: cs).take (k + 1) ++ [(cn : Int)] := by rw [List.take_add_one, List.getElem?_cons_succ, hc']; rfl
          (refine le_of ?_; cbv; refine .mk ?_; repeat' (first | exact AllP.nil | refine AllP.cons (by with_reducible rfl) ?_ | refine AllP.cons ?_ ?_))
          all_goals first | (first | rfl | exact ⟨rfl, rfl⟩ | (refine wrap64_of ?_ ?_ ?_ <;> simp only [natCast_eq] <;> omega)) | (rw [hd2, List.map_append]; simp [strs]; done) | (rw [hc2, List.map_append, Node.rows_append]; rfl)
      · have h1 : decide ((k : Int) < (cs.length : Int)) = false := h1
        have hkl : k = cs.length := Nat.le_antisymm hk (Nat.le_of_not_lt fun h => of_decide_eq_false h1 (Int.ofNat_lt.2 h))
        have hdk : q.decls.take (k + 1) = q.decls := List.take_of_length_le (by rw [← hls, hkl, hcl, hie]; exact Nat.le_refl _)
        have hck : ((0 : Int) :: cs).take (k + 1) = (0 : Int) :: cs := List.take_of_length_le (by rw [hkl]; exact Nat.le_refl _)
        rw [hdk, hck]
        have hsb := subst1_ok (q.decls.map Decl.name) (((0 : Int) :: cs).map (varN u)) (by rw [List.length_map]; omega) (by rw [List.length_map, List.length_cons, hcl, hie]; omega) (fun a ha => by obtain ⟨c, _, rfl⟩ := List.mem_map.1 ha; exact varN_Sm u c) q.node hsz
        rw [show sub (q.decls.map Decl.name) (((0 : Int) :: cs).map (varN u)) q.node = z from hz] at hsb
        refine .call hsb ?_ rfl rfl ?_
        · (cbv; refine .mk ?_; repeat' (first | exact AllP.nil | refine AllP.cons (by with_reducible rfl) ?_ | refine AllP.cons ?_ ?_))
          all_goals rfl
        cbv
        (refine .fin () 99 trivial (le_of ?_); cbv; refine .mk ?_; repeat' (first | exact AllP.nil | refine AllP.cons (by with_reducible rfl) ?_ | refine AllP.cons ?_ ?_))
        all_goals first | rfl | (rw [Node.rows_one, Node.row_dvs]; rfl)
    · have h : ((i : Int) == (((unks ls).length : Nat) : Int)) = false := h
      rw [unks_length, hie] at h
      simp at h
  | succ n ih =>
    intro i cs hn hi hcl hcs hp
    have hil : i < ls.length := by omega
    refine Exists.elim (getI hil) fun c hc => ?_
    have hdr : ls.drop i = c :: ls.drop (i + 1) := by
      obtain ⟨h, e⟩ := List.getElem?_eq_some_iff.1 hc
      rw [List.drop_eq_getElem_cons h, e]
    have hce := hin c (List.mem_of_getElem? hc)
    have hpr : c.length * prodL (ls.drop (i + 1)) ≤ 2000 := by rw [hdr] at hp; exact hp
    have hres : builtR q u (ls.drop i) cs = c.flatMap fun j => builtR q u (ls.drop (i + 1)) (cs ++ [j]) := by rw [hdr]; rfl
    rw [hres]
    have ihc : ∀ j ∈ c, Pure Tryz.prog 21 [.agg q.svs, .agg [.ds 1 fun _ => ints u], .ds 1 fun _ => unks ls, .int .i64 fun _ => ((i + 1 : Nat) : Int), .ds 1 fun _ => ints (cs ++ [j])] (.ds 5 fun _ => Node.rows (builtR q u (ls.drop (i + 1)) (cs ++ [j]))) := by
      intro j hj
      refine ih (i + 1) (cs ++ [j]) (by omega) hil (by rw [List.length_append, hcl]; rfl) ?_ ?_
      · intro j2 hj2
        rcases List.mem_append.1 hj2 with h | h
        · exact hcs j2 h
        · rw [List.mem_singleton] at h; rw [h]; exact hce.2 j hj
      · have h1 : 1 ≤ c.length := List.length_pos_of_mem hj
        exact Nat.le_trans (Nat.le_mul_of_pos_left _ h1) hpr
    have hfl : ∀ j, (builtR q u (ls.drop (i + 1)) (cs ++ [j])).length = prodL (ls.drop (i + 1)) := fun j => builtR_len q u _ _
    generalize hfe : (fun j => builtR q u (ls.drop (i + 1)) (cs ++ [j])) = f at *
    have hfe' : ∀ j, builtR q u (ls.drop (i + 1)) (cs ++ [j]) = f j := fun j => by rw [← hfe]
    have hgl : ∀ k, k ≤ c.length → ((c.take k).flatMap f).length ≤ 2000 := by
      intro k hk
      rw [flat_len f _ _ (fun j => (congrArg List.length (hfe' j)).symm.trans (hfl j)), List.length_take]
      exact Nat.le_trans (Nat.mul_le_mul_right _ (Nat.min_le_right _ _)) hpr
    have hgS : ∀ {k : Nat} {j : Int}, c[k]? = some j → (c.take (k + 1)).flatMap f = (c.take k).flatMap f ++ f j := fun h => flat_take_succ f h
    have hgE : (c.take c.length).flatMap f = c.flatMap f := by rw [List.take_length]
    have hg0 : (c.take 0).flatMap f = [] := rfl
    generalize hge : (fun k => (c.take k).flatMap f) = g at *
    have hge' : ∀ k, (c.take k).flatMap f = g k := fun k => by rw [← hge]
    simp only [hge'] at hgl hgS hgE hg0
    rw [← hgE]
    clear hge hge' hgE hfe hres ih
    refine pure_of (P := fun _ => Tryz.prog) tabOk Tryz.func21 rfl rfl ?_
    cbv
    refine .split (fun h => ?_) (fun _ => ?_)
    · have h : ((i : Int) == (((unks ls).length : Nat) : Int)) = true := h
      rw [unks_length] at h
      have h := LawfulBEq.eq_of_beq h
      omega
    · refine .need ⟨by simp, by rw [unks_length]; exact Int.ofNat_lt.2 hil⟩ ?_
      refine .row [.sl 1 (ints c)] [.ds 1 fun _ => ints c] (unks_get hc) rfl ?_
      cbv
      refine .loop Nat (fun k => k ≤ c.length) (fun k => [(15, .os 2), (78, .ds 1 fun _ => ints c), (79, .int .i64 fun _ => (c.length : Int)), (80, .int .i64 fun _ => (k : Int))]) (fun k => [(0, .cells 33 q.svs), (1, .cells 25 [.ds 1 fun _ => ints u]), (2, .arr 31 5 fun _ => Node.rows (g k))]) 3 (fun k => c.length - k) 0 (Nat.zero_le _) ?_ ?_
      · (refine le_of ?_; cbv; refine .mk ?_; repeat' (first | exact AllP.nil | refine AllP.cons (by with_reducible rfl) ?_ | refine AllP.cons ?_ ?_))
        all_goals first | rfl | (simp [lenL, ints_length]; done) | (rw [hg0]; rfl)
      rintro k hk
      cbv
      refine .split (fun h1 => ?_) (fun h1 => ?_)
      · have h1 : decide ((k : Int) < (c.length : Int)) = true := h1
        have hkl : k < c.length := Int.ofNat_lt.1 (of_decide_eq_true h1)
        refine Exists.elim (getI hkl) fun j hj => ?_
        refine .need ⟨by simp, by rw [ints_length]; exact Int.ofNat_lt.2 hkl⟩ ?_
        refine .row [.int .i64 j] [.int .i64 fun _ => j] (ints_get hj) rfl ?_
        cbv
        refine .loop Nat (fun m => m ≤ cs.length) (fun m => [(15, .os 2), (17, .int .i64 fun _ => j), (18, .os 3), (84, .ds 1 fun _ => ints cs), (85, .int .i64 fun _ => (cs.length : Int)), (86, .int .i64 fun _ => (m : Int))]) (fun m => [(0, .cells 33 q.svs), (1, .cells 25 [.ds 1 fun _ => ints u]), (2, .arr 31 5 fun _ => Node.rows (g k)), (3, .arr 3 1 fun _ => ints (cs.take m))]) 4 (fun m => cs.length - m) 0 (Nat.zero_le _) ?_ ?_
        · (refine le_of ?_; cbv; refine .mk ?_; repeat' (first | exact AllP.nil | refine AllP.cons (by with_reducible rfl) ?_ | refine AllP.cons ?_ ?_))
          all_goals first | rfl | (simp [lenL, ints_length]; done)
        rintro m hm
        cbv
        refine .split (fun h2 => ?_) (fun h2 => ?_)
        · have h2 : decide ((m : Int) < (cs.length : Int)) = true := h2
          have hml : m < cs.length := Int.ofNat_lt.1 (of_decide_eq_true h2)
          refine Exists.elim (getI hml) fun y hy => ?_
          refine .need ⟨by simp, by rw [ints_length]; exact Int.ofNat_lt.2 hml⟩ ?_
          refine .row [.int .i64 y] [.int .i64 fun _ => y] (ints_get hy) rfl ?_
          cbv
          refine .need (by simp [ints_length]; omega) ?_
          refine .prop ⟨m + 1, hml, by omega, ?_⟩
          (refine le_of ?_; cbv; refine .mk ?_; repeat' (first | exact AllP.nil | refine AllP.cons (by with_reducible rfl) ?_ | refine AllP.cons ?_ ?_))
          all_goals first | (first | rfl | exact ⟨rfl, rfl⟩ | (refine wrap64_of ?_ ?_ ?_ <;> simp only [natCast_eq] <;> omega)) | (rw [List.take_add_one, hy, ints_append]; rfl)
        · have h2 : decide ((m : Int) < (cs.length : Int)) = false := h2
          have hml : m = cs.length := Nat.le_antisymm hm (Nat.le_of_not_lt fun h => of_decide_eq_false h2 (Int.ofNat_lt.2 h))
          have hij := ihc j (List.mem_of_getElem? hj)
          rw [hfe' j] at hij
          have ei : IntKind.i64.wrap ((i : Int) + 1) = ((i + 1 : Nat) : Int) := by
            have := hi
            rw [IntKind.wrap_i64]; omega
          have hgk := hgl k hk
          have hgk1 := hgl (k + 1) hkl
          rw [hgS hj, List.length_append] at hgk1
          have hgj := hgS hj
          generalize f j = R at *
          refine .need (by simp only [ints_length, List.length_take, List.length_cons, List.length_nil]; omega) ?_
          refine .callDS hij ?_ rfl rfl ?_ rfl
          · (cbv; refine .mk ?_; repeat' (first | exact AllP.nil | refine AllP.cons (by with_reducible rfl) ?_ | refine AllP.cons ?_ ?_))
            all_goals first | rfl | exact ei.symm | (rw [hml, List.take_length, ints_append]; rfl)
          cbv
          refine .need rfl ?_
          refine .loop Nat (fun r => r ≤ R.length) (fun r => [(15, .os 2), (104, .ds 5 fun _ => Node.rows R), (105, .int .i64 fun _ => (R.length : Int)), (106, .int .i64 fun _ => (r : Int))]) (fun r => [(0, .cells 33 q.svs), (1, .cells 25 [.ds 1 fun _ => ints u]), (2, .arr 31 5 fun _ => Node.rows (g k ++ R.take r))]) 8 (fun r => R.length - r) 0 (Nat.zero_le _) ?_ ?_
          · (refine le_of ?_; cbv; refine .mk ?_; repeat' (first | exact AllP.nil | refine AllP.cons (by with_reducible rfl) ?_ | refine AllP.cons ?_ ?_))
            all_goals first | rfl | (simp [lenL, Node.rows_length]; done) | (simp; done)
          rintro r hr
          cbv
          refine .split (fun h3 => ?_) (fun h3 => ?_)
          · have hrl : r < R.length := ltT h3
            refine Exists.elim (getI hrl) fun z hz => ?_
            refine .need ⟨by simp, by rw [Node.rows_length]; exact Int.ofNat_lt.2 hrl⟩ ?_
            refine .row _ _ (Node.rows_get hz) (Node.row_toSV _) ?_
            cbv
            refine .need (by simp only [Node.rows_length, List.length_append, List.length_take, List.length_cons, List.length_nil]; omega) ?_
            refine .prop ⟨r + 1, hrl, by omega, ?_⟩
            have hR : g k ++ R.take (r + 1) = (g k ++ R.take r) ++ [z] := by rw [List.take_add_one, hz]; simp
            (refine le_of ?_; cbv; refine .mk ?_; repeat' (first | exact AllP.nil | refine AllP.cons (by with_reducible rfl) ?_ | refine AllP.cons ?_ ?_))
            all_goals first | (first | rfl | exact ⟨rfl, rfl⟩ | (refine wrap64_of ?_ ?_ ?_ <;> simp only [natCast_eq] <;> omega)) | (rw [hR, Node.rows_append, Node.rows_one, Node.row_dvs]; rfl)
          · have hrl : r = R.length := Nat.le_antisymm hr (geF h3)
            refine .prop ⟨k + 1, hkl, by omega, ?_⟩
            (refine le_of ?_; cbv; refine .mk ?_; repeat' (first | exact AllP.nil | refine AllP.cons (by with_reducible rfl) ?_ | refine AllP.cons ?_ ?_))
            all_goals first | (first | rfl | exact ⟨rfl, rfl⟩ | (refine wrap64_of ?_ ?_ ?_ <;> simp only [natCast_eq] <;> omega)) | (rw [hgj, hrl, List.take_length])
      · have h1 : decide ((k : Int) < (c.length : Int)) = false := h1
        have hkl : k = c.length := Nat.le_antisymm hk (Nat.le_of_not_lt fun h => of_decide_eq_false h1 (Int.ofNat_lt.2 h))
        (refine .fin () 99 trivial (le_of ?_); cbv; refine .mk ?_; repeat' (first | exact AllP.nil | refine AllP.cons (by with_reducible rfl) ?_ | refine AllP.cons ?_ ?_))
        all_goals first | rfl | (rw [hkl]; done)
end Go.Qu
