/- The program's Instances. -/
import Derived.Test.YtoaifhhfcokipaaGreatDoorXz
import Derived.Test.YtoaifhhfcokipaaGreatDoorXy
namespace Go.Qu
open Go.Eng Go.Proofs
def rawN : List DV := [.raw (.slice none 0 0)]
/-- the choices as far as they are made -/
def chPart (u : List Int) (ds : List Decl) (k : Nat) : List (List DV) := unks ([0] :: (ds.take k).map fun d => chs u d.sort) ++ List.replicate (ds.length - k) rawN
theorem chPart_len (u : List Int) (ds : List Decl) (k : Nat) (h : k ≤ ds.length) : (chPart u ds k).length = ds.length + 1 := by
  simp [chPart, unks_length]
  omega
theorem chPart_nil {u : List Int} {ds : List Decl} {k : Nat} (h : k < ds.length) : (chPart u ds k)[k + 1]? = some rawN := by
  have hl : (unks ([0] :: (ds.take k).map fun d => chs u d.sort)).length = k + 1 := by rw [unks_length, List.length_cons, List.length_map, List.length_take]; omega
  unfold chPart
  rw [List.getElem?_append_right (by omega), hl, Nat.sub_self, List.getElem?_replicate, if_pos (by omega)]
theorem chPart_succ {u : List Int} {ds : List Decl} {k : Nat} {d : Decl} (h : ds[k]? = some d) : (chPart u ds k).set (k + 1) [.sl 1 (ints (chs u d.sort))] = chPart u ds (k + 1) := by
  have hk : k < ds.length := (List.getElem?_eq_some_iff.1 h).1
  have hl : (unks ([0] :: (ds.take k).map fun d => chs u d.sort)).length = k + 1 := by rw [unks_length, List.length_cons, List.length_map, List.length_take]; omega
  unfold chPart
  rw [List.set_append_right _ _ (by omega), hl, Nat.sub_self, show ds.length - k = (ds.length - (k + 1)) + 1 by omega, List.replicate_succ, List.set_cons_zero, List.take_add_one, h, List.map_append, ← List.cons_append, unks_append, List.append_assoc]
  rfl
theorem chPart_all (u : List Int) (ds : List Decl) : chPart u ds ds.length = unks ([0] :: ds.map fun d => chs u d.sort) := by
  simp [chPart]
set_option maxRecDepth 100000 in
set_option maxHeartbeats 1600000 in
theorem inst2_ok (q : Qual) (u : List Int) (hsz : Sm q.node) (hul : u.length < 1073741824) : Pure Tryz.prog 6 [.agg q.svs, .agg [.ds 1 fun _ => ints u]] (.tup [.ds 5 fun _ => Node.rows (instV (qualB uniB varsB q) q u).1, .int .i64 fun _ => (instV (qualB uniB varsB q) q u).2]) := by
  have hiv : instV (qualB uniB varsB q) q u = bif !(qualB uniB varsB q && unkB u) then ([], 3) else bif decide (2000 < cntQ q u) then ([], 2) else bif cntQ q u == 0 then ([], 0) else (builtR q u (chAll q u) [], 0) := rfl
  have hqv : qualV uniB varsB q = bif qualB uniB varsB q then 0 else 3 := rfl
  have hdl : qualB uniB varsB q = true → 1 ≤ q.decls.length ∧ q.decls.length ≤ 8 := by
    intro h
    unfold qualB at h
    have := (Bool.and_eq_true_iff.1 h).1
    simpa using this
  have hul2 : unkB u = true → 1 ≤ u.length ∧ u.length ≤ 40 := by
    intro h
    unfold unkB at h
    have := (Bool.and_eq_true_iff.1 h).1
    simpa using this
  generalize qualB uniB varsB q = ok at *
  generalize hI : instV ok q u = I at *
  clear hI
  refine pure_of (P := fun _ => Tryz.prog) tabOk Tryz.func6 rfl rfl ?_
  cbv
  refine .call (qual2_ok q hsz) ?_ rfl rfl ?_
  · (cbv; refine .mk ?_; repeat' (first | exact AllP.nil | refine AllP.cons (by with_reducible rfl) ?_ | refine AllP.cons ?_ ?_))
    all_goals rfl
  cbv
  refine .split (fun h1 => ?_) (fun h1 => ?_)
  · have h1 : (qualV uniB varsB q != 0) = true := h1
    have hok : ok = false := by rw [hqv] at h1; cases ok <;> simp_all
    have e : I = ([], 3) := by rw [hiv, hok]; rfl
    rw [e]
    (refine .fin () 99 trivial (le_of ?_); cbv; refine .mk ?_; repeat' (first | exact AllP.nil | refine AllP.cons (by with_reducible rfl) ?_ | refine AllP.cons ?_ ?_))
    all_goals rfl
  have h1 : (qualV uniB varsB q != 0) = false := h1
  have hok : ok = true := by rw [hqv] at h1; cases ok <;> simp_all
  refine .call (unk16_ok u hul) ?_ rfl rfl ?_
  · (cbv; refine .mk ?_; repeat' (first | exact AllP.nil | refine AllP.cons (by with_reducible rfl) ?_ | refine AllP.cons ?_ ?_))
    all_goals rfl
  cbv
  refine .split (fun h2 => ?_) (fun h2 => ?_)
  · have h2 : (!unkB u) = true := h2
    have hu : unkB u = false := by simpa using h2
    have e : I = ([], 3) := by rw [hiv, hok, hu]; rfl
    rw [e]
    (refine .fin () 99 trivial (le_of ?_); cbv; refine .mk ?_; repeat' (first | exact AllP.nil | refine AllP.cons (by with_reducible rfl) ?_ | refine AllP.cons ?_ ?_))
    all_goals rfl
  have h2 : (!unkB u) = false := h2
  have hu : unkB u = true := by simpa using h2
  have hd := hdl hok
  have hu3 := hul2 hu
  rw [hok, hu, Bool.and_true, Bool.not_true, cond_false] at hiv
  refine Exists.elim (getI (show 0 < q.decls.length from hd.1)) fun d0 hd0 => ?_
  refine Exists.elim (getI (show 0 < u.length from hu3.1)) fun u0 hu0 => ?_
  have hcq : cntQ q u = bif d0.sort == u0 then (chAll q u).foldl cntF 1 else 0 := by unfold cntQ; rw [hd0, hu0]
  refine .need ⟨by decide, by rw [Decl.rows_length]; exact Int.ofNat_lt.2 hd.1⟩ ?_
  refine .row _ _ (Decl.rows_get hd0) (Decl.dvs_toSV _) ?_
  cbv
  refine .need ⟨by decide, by rw [ints_length]; exact Int.ofNat_lt.2 hu3.1⟩ ?_
  refine .row [.int .i64 u0] [.int .i64 fun _ => u0] (ints_get hu0) rfl ?_
  cbv
  refine .need rfl ?_
  refine .split (fun h3 => ?_) (fun h3 => ?_)
  · have h3 : (d0.sort != u0) = true := h3
    have e : I = ([], 0) := by rw [hiv, hcq, show (d0.sort == u0) = false by simpa using h3]; rfl
    rw [e]
    (refine .fin () 99 trivial (le_of ?_); cbv; refine .mk ?_; repeat' (first | exact AllP.nil | refine AllP.cons (by with_reducible rfl) ?_ | refine AllP.cons ?_ ?_))
    all_goals rfl
  have h3 : (d0.sort != u0) = false := h3
  have h3 : (d0.sort == u0) = true := by simpa using h3
  rw [h3, cond_true] at hcq
  have hqr : (Decl.rows q.decls).length = q.decls.length := Decl.rows_length _
  refine .need (by simp [lenL, Decl.rows_length]; omega) ?_
  refine .need (by simp [lenL, Decl.rows_length]; omega) ?_
  refine .need (by show (0:Int) ≤ 1 ∧ (1:Int) ≤ ((Decl.rows q.decls).length : Int); rw [Decl.rows_length]; omega) ?_
  have hdl1 : (q.decls.drop 1).length = q.decls.length - 1 := List.length_drop
  have hdr : Decl.rows (q.decls.drop 1) = (Decl.rows q.decls).drop 1 := by simp [Decl.rows]
  have hall : chAll q u = (q.decls.drop 1).map fun d => chs u d.sort := rfl
  generalize hds : q.decls.drop 1 = ds at *
  have hdt : List.drop (1 : Int).toNat (List.take (((Decl.rows q.decls).length : Nat) : Int).toNat (Decl.rows q.decls)) = Decl.rows ds := by
    rw [Int.toNat_natCast, List.take_length, hdr]
    rfl
  have hch0 : setRow (List.replicate (((Decl.rows q.decls).length : Nat) : Int).toNat rawN) 0 0 [.sl 1 (ints [0])] = chPart u ds 0 := by
    rw [Decl.rows_length, Int.toNat_natCast, show q.decls.length = ds.length + 1 by omega, List.replicate_succ]
    rfl
  have hcn : ∀ k, ((ds.take k).map fun d => chs u d.sort).foldl cntF 1 ≤ 2001 := fun k => cnt_le _ 1 (by decide)
  have hnS : ∀ {k : Nat} {d : Decl}, ds[k]? = some d → ((ds.take (k + 1)).map fun d => chs u d.sort).foldl cntF 1 = cntF (((ds.take k).map fun d => chs u d.sort).foldl cntF 1) (chs u d.sort) := by
    intro k d h
    rw [List.take_add_one, h, List.map_append, List.foldl_append]
    rfl
  have hnE : ((ds.take ds.length).map fun d => chs u d.sort).foldl cntF 1 = cntQ q u := by rw [List.take_length, ← hall, hcq]
  have hn0 : ((ds.take 0).map fun d => chs u d.sort).foldl cntF 1 = 1 := rfl
  generalize hne : (fun k => ((ds.take k).map fun d => chs u d.sort).foldl cntF 1) = cn at *
  have hne' : ∀ k, ((ds.take k).map fun d => chs u d.sort).foldl cntF 1 = cn k := fun k => by rw [← hne]
  simp only [hne'] at hcn hnS hnE hn0
  clear hne hne'
  refine .loop Nat (fun k => k ≤ ds.length) (fun k => [(7, .int .i64 fun _ => (cn k : Nat)), (46, .ds 2 fun _ => Decl.rows ds), (47, .int .i64 fun _ => (ds.length : Int)), (48, .int .i64 fun _ => (k : Int))]) (fun k => [(0, .cells 33 q.svs), (1, .cells 25 [.ds 1 fun _ => ints u]), (2, .arr 23 1 fun _ => chPart u ds k)]) 4 (fun k => ds.length - k) 0 (Nat.zero_le _) ?_ ?_
  · (refine le_of ?_; cbv; refine .mk ?_; repeat' (first | exact AllP.nil | refine AllP.cons (by with_reducible rfl) ?_ | refine AllP.cons ?_ ?_))
    all_goals first | rfl | exact hdt.symm | exact hch0.symm | skip
    · rw [hn0]; rfl
    · show ((ds.length : Nat) : Int) = ((List.drop (1 : Int).toNat (List.take (((Decl.rows q.decls).length : Nat) : Int).toNat (Decl.rows q.decls))).length : Int); rw [hdt, Decl.rows_length]
  · rintro k hk
    cbv
    refine .split (fun h4 => ?_) (fun h4 => ?_)
    · have hkl : k < ds.length := ltT h4
      refine Exists.elim (getI hkl) fun d hd => ?_
      refine .need ⟨by simp, by rw [Decl.rows_length]; exact Int.ofNat_lt.2 hkl⟩ ?_
      refine .row _ _ (Decl.rows_get hd) (Decl.dvs_toSV _) ?_
      cbv
      have hpl := chPart_len u ds k hk
      have hkb1 : (0 : Int) ≤ ((k + 1 : Nat) : Int) ∧ ((k + 1 : Nat) : Int) < ((ds.length + 1 : Nat) : Int) := ⟨Int.natCast_nonneg _, Int.ofNat_lt.2 (by omega)⟩
      have hw : IntKind.i64.wrap ((k : Int) + 1) = ((k + 1 : Nat) : Int) := by rw [IntKind.wrap_i64]; omega
      have hcnil := chPart_nil (u := u) hkl
      have hcS := chPart_succ (u := u) hd
      refine .loop Nat (fun j => j ≤ u.length) (fun j => [(54, .ds 1 fun _ => ints u), (55, .int .i64 fun _ => (u.length : Int)), (56, .int .i64 fun _ => (j : Int))]) (fun j => [(0, .cells 33 q.svs), (1, .cells 25 [.ds 1 fun _ => ints u]), (2, .hole 23 (fun _ => chPart u ds k) (fun _ => ((k + 1 : Nat) : Int)) 5), (4, .cells 42 d.svs), (5, .arr 3 1 fun _ => ints (chsK u d.sort j))]) 6 (fun j => u.length - j) 0 (Nat.zero_le _) ?_ ?_
      · refine Le.trans (Le.openH (j := 2) (T := 23) (T' := 3) (sz := 1) (l := fun _ => chPart u ds k) (h := fun _ => ((k + 1 : Nat) : Int)) rfl ?_) ?_
        · rw [Int.toNat_natCast]; exact hcnil
        · (refine le_of ?_; cbv; refine .mk ?_; repeat' (first | exact AllP.nil | refine AllP.cons (by with_reducible rfl) ?_ | refine AllP.cons ?_ ?_))
          all_goals first | rfl | (simp [lenL, ints_length]; done)
      · rintro j hj
        cbv
        refine .split (fun h5 => ?_) (fun h5 => ?_)
        · have hjl : j < u.length := ltT h5
          refine Exists.elim (getI hjl) fun x hx => ?_
          refine .need ⟨by simp, by rw [ints_length]; exact Int.ofNat_lt.2 hjl⟩ ?_
          refine .row [.int .i64 x] [.int .i64 fun _ => x] (ints_get hx) rfl ?_
          cbv
          have hcS := chsK_succ u d.sort j
          have hcl := chsK_len u d.sort j
          have hP : chP u d.sort j = (decide (0 < (j : Int)) && (x == d.sort)) := by
            unfold chP
            rw [hx]
            by_cases h0 : 0 < j
            · rw [decide_eq_true h0, decide_eq_true (show (0 : Int) < (j : Int) from Int.ofNat_lt.2 h0)]
              by_cases he : x = d.sort <;> simp [he]
            · rw [decide_eq_false h0, decide_eq_false (show ¬ (0 : Int) < (j : Int) from fun h => h0 (Int.ofNat_lt.1 h))]
              rfl
          have hA : (0 : Int) ≤ IntKind.i64.wrap ((k : Int) + 1) ∧ IntKind.i64.wrap ((k : Int) + 1) < ((chPart u ds k).length : Int) := by rw [hw, hpl]; exact hkb1
          have hB : IntKind.i64.wrap ((k : Int) + 1) = ((k + 1 : Nat) : Int) ∧ (0 : Int) ≤ ((k + 1 : Nat) : Int) ∧ ((k + 1 : Nat) : Int) < ((chPart u ds k).length : Int) := by rw [hw, hpl]; exact ⟨rfl, hkb1⟩
          refine .split (fun h6 => ?_) (fun h6 => ?_)
          · rw [hP.trans h6, cond_true] at hcS
            refine .need hA (.need hB (.need (by simp [ints_length]; omega) (.need hA (.need hB ?_))))
            refine .prop ⟨j + 1, hjl, by omega, ?_⟩
            (refine le_of ?_; cbv; refine .mk ?_; repeat' (first | exact AllP.nil | refine AllP.cons (by with_reducible rfl) ?_ | refine AllP.cons ?_ ?_))
            all_goals first | (first | rfl | exact ⟨rfl, rfl⟩ | (refine wrap64_of ?_ ?_ ?_ <;> simp only [natCast_eq] <;> omega)) | (rw [hcS, ints_append]; rfl)
          · rw [hP.trans h6, cond_false] at hcS
            refine .prop ⟨j + 1, hjl, by omega, ?_⟩
            (refine le_of ?_; cbv; refine .mk ?_; repeat' (first | exact AllP.nil | refine AllP.cons (by with_reducible rfl) ?_ | refine AllP.cons ?_ ?_))
            all_goals first | (first | rfl | exact ⟨rfl, rfl⟩ | (refine wrap64_of ?_ ?_ ?_ <;> simp only [natCast_eq] <;> omega)) | (rw [hcS]; done)
        · have hjl : j = u.length := Nat.le_antisymm hj (geF h5)
          have hA : (0 : Int) ≤ IntKind.i64.wrap ((k : Int) + 1) ∧ IntKind.i64.wrap ((k : Int) + 1) < ((chPart u ds k).length : Int) := by rw [hw, hpl]; exact hkb1
          have hB : IntKind.i64.wrap ((k : Int) + 1) = ((k + 1 : Nat) : Int) ∧ (0 : Int) ≤ ((k + 1 : Nat) : Int) ∧ ((k + 1 : Nat) : Int) < ((chPart u ds k).length : Int) := by rw [hw, hpl]; exact ⟨rfl, hkb1⟩
          have hcn1 := hcn k
          have hst := cnt_step (cn k) (chs u d.sort) hcn1 (Nat.lt_of_le_of_lt (chs_len u d.sort) hul)
          rw [← hnS hd] at hst
          refine .need hA (.need hB ?_)
          refine .prop ⟨k + 1, hkl, by omega, ?_⟩
          refine Le.trans (Le.shutH (j := 2) (q := 5) (T := 23) (T' := 3) (sz := 1) (l := fun _ => chPart u ds k) (h := fun _ => ((k + 1 : Nat) : Int)) (lq := fun _ => ints (chsK u d.sort j)) rfl rfl ?_) ?_
          · rw [Int.toNat_natCast, hpl]; omega
          · (refine le_of ?_; cbv; refine .mk ?_; repeat' (first | exact AllP.nil | refine AllP.cons (by with_reducible rfl) ?_ | refine AllP.cons ?_ ?_))
            all_goals first | (first | rfl | exact ⟨rfl, rfl⟩ | (refine wrap64_of ?_ ?_ ?_ <;> simp only [natCast_eq] <;> omega)) | skip
            · rw [hst, show lenL (fun _ => ints (chsK u d.sort j)) () = ((chs u d.sort).length : Int) from by rw [hjl]; simp [lenL, ints_length, chs]]
            · rw [Int.toNat_natCast, hjl]; exact hcS.symm
    · have hkl : k = ds.length := Nat.le_antisymm hk (geF h4)
      have hcnk : cn k = cntQ q u := by rw [hkl]; exact hnE
      have hLk : chPart u ds k = unks ([0] :: chAll q u) := by rw [hkl, chPart_all, hall]
      refine .split (fun h5 => ?_) (fun h5 => ?_)
      · have h5 : decide (2000 < ((cn k : Nat) : Int)) = true := h5
        have h5 : 2000 < cn k := Int.ofNat_lt.1 (of_decide_eq_true h5)
        have e : I = ([], 2) := by rw [hiv, decide_eq_true (by omega)]; rfl
        rw [e]
        (refine .fin () 99 trivial (le_of ?_); cbv; refine .mk ?_; repeat' (first | exact AllP.nil | refine AllP.cons (by with_reducible rfl) ?_ | refine AllP.cons ?_ ?_))
        all_goals rfl
      have h5 : decide (2000 < ((cn k : Nat) : Int)) = false := h5
      have h5 : cn k ≤ 2000 := Nat.le_of_not_lt fun h => of_decide_eq_false h5 (Int.ofNat_lt.2 h)
      rw [decide_eq_false (show ¬ 2000 < cntQ q u by omega), cond_false] at hiv
      have hN : ([0] :: chAll q u).length = q.decls.length := by rw [hall, List.length_cons, List.length_map, hdl1]; omega
      have hT : ∃ T : List (List Int), I = (T.map (item q u ([0] :: chAll q u)), 0) ∧ T.length = cn k ∧ (∀ c ∈ T, c ∈ tups (([0] :: chAll q u).map List.length)) ∧ Chn (incC (([0] :: chAll q u).map List.length) q.decls.length) (List.replicate q.decls.length 0) T ∧ (∀ c, T[0]? = some c → c = List.replicate q.decls.length 0) := by
        by_cases h0 : cn k = 0
        · refine ⟨[], ?_, h0.symm, (fun c h => nomatch h), trivial, (fun c h => nomatch h)⟩
          rw [hiv, show (cntQ q u == 0) = true by rw [← hcnk, h0]; rfl]
          rfl
        · refine ⟨tups (([0] :: chAll q u).map List.length), ?_, ?_, fun c h => h, ?_, ?_⟩
          · rw [hiv, show (cntQ q u == 0) = false by rw [← hcnk]; simpa using h0, cond_false, builtR_item]
          · have h6 := builtR_len q u (chAll q u) []
            rw [builtR_item, List.length_map] at h6
            have h7 := cnt_prod (chAll q u) 1 (by decide) (by rw [← hcq, ← hcnk]; exact h0) (by rw [← hcq, ← hcnk]; exact h5)
            rw [h6, hcnk, hcq, ← h7, Nat.one_mul]
          · have h6 := (tups_chn (([0] :: chAll q u).map List.length)).1
            rw [List.length_map, hN] at h6
            exact h6
          · intro c hc
            have h6 := (tups_chn (([0] :: chAll q u).map List.length)).2
            rw [List.length_map, hN, List.head?_eq_getElem?, hc] at h6
            rcases h6 with h | h
            · cases h
            · injection h
      refine Exists.elim hT fun T hT => ?_
      obtain ⟨hTI, hTl, hTm, hTc, hT0⟩ := hT
      rw [hTI]
      have hfact : ∀ c ∈ T, ∀ (i : Nat) (d : Decl), q.decls[i]? = some d → ∃ (ci : List Int) (x n : Nat), ([0] :: chAll q u)[i]? = some ci ∧ c[i]? = some (x : Int) ∧ x < ci.length ∧ ci[x]? = some (n : Int) ∧ u[n]? = some d.sort ∧ (vals ([0] :: chAll q u) c)[i]? = some (n : Int) := fun c hc i d hd => ch_fact hd0 (by rw [hu0]; rw [show d0.sort = u0 by simpa using h3]) (hTm c hc) hd
      have hTcl : ∀ c ∈ T, c.length = q.decls.length ∧ ∀ x ∈ c, 0 ≤ x ∧ x ≤ 1000 := by
        intro c hc
        have h6 := tups_len (hTm c hc)
        refine ⟨by rw [h6.1, List.length_map, hN], fun x hx => ?_⟩
        obtain ⟨q1, n, q2, q3⟩ := h6.2 x hx
        obtain ⟨ci, q4, rfl⟩ := List.mem_map.1 q2
        have : ci.length ≤ 40 := by
          rcases List.mem_cons.1 q4 with rfl | q4
          · decide
          · obtain ⟨d, _, rfl⟩ := List.mem_map.1 (by rw [hall] at q4; exact q4)
            exact Nat.le_trans (chs_len u d.sort) hu3.2
        omega
      have hLl : ∀ ci ∈ ([0] :: chAll q u), ci.length ≤ 40 := by
        intro ci q4
        rcases List.mem_cons.1 q4 with rfl | q4
        · decide
        · obtain ⟨d, _, rfl⟩ := List.mem_map.1 (by rw [hall] at q4; exact q4)
          exact Nat.le_trans (chs_len u d.sort) hu3.2
      have hitem : ∀ c, item q u ([0] :: chAll q u) c = sub (q.decls.map Decl.name) ((vals ([0] :: chAll q u) c).map (varN u)) q.node := fun c => rfl
      have hvl : ∀ c ∈ T, (vals ([0] :: chAll q u) c).length = q.decls.length := by
        intro c hc
        unfold vals
        rw [List.length_zipWith, (hTcl c hc).1, hN, Nat.min_self]
      generalize item q u ([0] :: chAll q u) = it at *
      generalize ([0] :: chAll q u) = L at *
      generalize vals L = vl at *
      have hTl2 : T.length ≤ 2000 := by omega
      clear hiv hcq hcn hnS hnE hn0 hch0 hTm hTI
      have hlen : lenL (fun _ => chPart u ds k) () = (q.decls.length : Int) := by rw [← hN, hLk]; simp [lenL, unks_length]
      refine .need (by rw [hlen]; simp; omega) ?_
      refine .loop (Nat × List Int) (fun p => p.1 ≤ T.length ∧ p.2.length = q.decls.length ∧ ∀ c, T[p.1]? = some c → p.2 = c) (fun p => [(12, .os 5), (97, .int .i64 fun _ => (T.length : Int)), (98, .int .i64 fun _ => (p.1 : Int))]) (fun p => [(0, .cells 33 q.svs), (1, .cells 25 [.ds 1 fun _ => ints u]), (2, .arr 23 1 fun _ => unks L), (4, .arr 3 1 fun _ => ints p.2), (5, .arr 31 5 fun _ => Node.rows ((T.map it).take p.1))]) 6 (fun p => T.length - p.1) (0, List.replicate q.decls.length 0) ⟨Nat.zero_le _, List.length_replicate, fun c hc => (hT0 c hc).symm⟩ ?_ ?_
      · (refine le_of ?_; cbv; refine .mk ?_; repeat' (first | exact AllP.nil | refine AllP.cons (by with_reducible rfl) ?_ | refine AllP.cons ?_ ?_))
        all_goals first | rfl | exact hLk.symm | (rw [hTl]; done) | skip
        show ints (List.replicate q.decls.length 0) = List.replicate (lenL (fun _ => chPart u ds k) ()).toNat [DV.int .i64 0]
        rw [hlen, Int.toNat_natCast]
        simp [ints]
      · rintro ⟨t, cur⟩ ⟨ht, hcl, hcc⟩
        cbv
        refine .split (fun h6 => ?_) (fun h6 => ?_)
        · have htl : t < T.length := ltT h6
          refine Exists.elim (getI htl) fun c hc => ?_
          have := hcc c hc
          subst this
          have hcT := List.mem_of_getElem? hc
          have hfc := hfact _ hcT
          have hvc := hvl _ hcT
          refine .loop Nat (fun i => i ≤ q.decls.length) (fun i => [(14, .os 6), (15, .os 7), (101, .ds 2 fun _ => Decl.rows q.decls), (102, .int .i64 fun _ => (q.decls.length : Int)), (103, .int .i64 fun _ => (i : Int))]) (fun i => [(0, .cells 33 q.svs), (1, .cells 25 [.ds 1 fun _ => ints u]), (2, .arr 23 1 fun _ => unks L), (4, .arr 3 1 fun _ => ints cur), (5, .arr 31 5 fun _ => Node.rows ((T.map it).take t)), (6, .arr 9 1 fun _ => strs ((q.decls.take i).map Decl.name)), (7, .arr 31 5 fun _ => Node.rows (((vl cur).take i).map (varN u)))]) 8 (fun i => q.decls.length - i) 0 (Nat.zero_le _) ?_ ?_
          · (refine le_of ?_; cbv; refine .mk ?_; repeat' (first | exact AllP.nil | refine AllP.cons (by with_reducible rfl) ?_ | refine AllP.cons ?_ ?_))
            all_goals first | rfl | (simp [lenL, Decl.rows_length]; done)
          · rintro i hi
            cbv
            refine .split (fun h7 => ?_) (fun h7 => ?_)
            · have hil : i < q.decls.length := ltT h7
              refine Exists.elim (getI hil) fun d hd => ?_
              refine Exists.elim (hfc i d hd) fun ci hci => Exists.elim hci fun x hci => Exists.elim hci fun n hci => ?_
              obtain ⟨f1, f2, f3, f4, f5, f6⟩ := hci
              refine .need ⟨by simp, by rw [Decl.rows_length]; exact Int.ofNat_lt.2 hil⟩ ?_
              refine .row _ _ (Decl.rows_get hd) (Decl.dvs_toSV _) ?_
              cbv
              have hn40 : n < u.length := (List.getElem?_eq_some_iff.1 f5).1
              have hic : i < cur.length := by rw [show cur.length = q.decls.length from hcl]; exact hil
              have hiL : i < L.length := by omega
              have hci : ci.length ≤ 40 := hLl ci (List.mem_of_getElem? f1)
              have hkq : (q.decls.take i).length ≤ 8 := by rw [List.length_take]; omega
              have hka : ((vl cur).take i).length ≤ 8 := by rw [List.length_take]; omega
              refine Exists.elim (show ∃ z0, zname n = z0 from ⟨_, rfl⟩) fun z0 hz0 => ?_
              have hp0 := param2_ok n (by omega)
              rw [hz0] at hp0
              refine .need (by simp only [strs_length, List.length_map, List.length_cons, List.length_nil]; omega) ?_
              refine .need ⟨by simp, by rw [unks_length]; exact Int.ofNat_lt.2 hiL⟩ ?_
              refine .row [.sl 1 (ints ci)] [.ds 1 fun _ => ints ci] (unks_get f1) rfl ?_
              cbv
              refine .need ⟨by simp, by rw [ints_length]; exact Int.ofNat_lt.2 hic⟩ ?_
              refine .row [.int .i64 (x : Int)] [.int .i64 fun _ => (x : Int)] (ints_get f2) rfl ?_
              cbv
              refine .need ⟨by simp, by rw [ints_length]; exact Int.ofNat_lt.2 f3⟩ ?_
              refine .row [.int .i64 (n : Int)] [.int .i64 fun _ => (n : Int)] (ints_get f4) rfl ?_
              cbv
              refine .callD hp0 ?_ rfl rfl (fun h => nomatch h) ?_ rfl
              · (cbv; refine .mk ?_; repeat' (first | exact AllP.nil | refine AllP.cons (by with_reducible rfl) ?_ | refine AllP.cons ?_ ?_))
                all_goals rfl
              cbv
              refine .need (by simp only [Node.rows_length, List.length_map, List.length_cons, List.length_nil]; omega) ?_
              refine .need rfl ?_
              refine .prop ⟨i + 1, hil, by omega, ?_⟩
              refine Le.trans (Le.rows (j := 12) (T := 31) (sz := 5) (l' := fun _ => Node.rows (((vl cur).take i).map (varN u)) ++ Node.rows [varN u (n : Int)]) rfl ?_ ?_) ?_
              · rw [List.length_append, List.length_append]
                rfl
              · exact fun S xs hx2 => DRows_app (fun _ h => h) (fun _ h => var_row f5 hz0 h) hx2
              · have hd2 : q.decls.take (i + 1) = q.decls.take i ++ [d] := by rw [List.take_add_one, hd]; rfl
                have hc2 : (vl cur).take (i + 1) = (vl cur).take i ++ [(n : Int)] := by rw [List.take_add_one, f6]; rfl
                (refine le_of ?_; cbv; refine .mk ?_; repeat' (first | exact AllP.nil | refine AllP.cons (by with_reducible rfl) ?_ | refine AllP.cons ?_ ?_))
                all_goals first | (first | rfl | exact ⟨rfl, rfl⟩ | (refine wrap64_of ?_ ?_ ?_ <;> simp only [natCast_eq] <;> omega)) | (rw [hd2, List.map_append]; simp [strs]; done) | (rw [hc2, List.map_append, Node.rows_append]; rfl)
            · have hil : i = q.decls.length := Nat.le_antisymm hi (geF h7)
              have hdk : q.decls.take i = q.decls := by rw [hil, List.take_length]
              have hck : (vl cur).take i = vl cur := List.take_of_length_le (by rw [hvc, hil]; exact Nat.le_refl _)
              rw [hdk, hck]
              refine Exists.elim (show ∃ z, it cur = z from ⟨_, rfl⟩) fun z hz => ?_
              have hsb := subst2_ok (q.decls.map Decl.name) ((vl cur).map (varN u)) (by rw [List.length_map]; omega) (by rw [List.length_map, hvc]; omega) (fun a ha => by obtain ⟨c, _, rfl⟩ := List.mem_map.1 ha; exact varN_Sm u c) q.node hsz
              rw [← hitem cur, hz] at hsb
              refine .call hsb ?_ rfl rfl ?_
              · (cbv; refine .mk ?_; repeat' (first | exact AllP.nil | refine AllP.cons (by with_reducible rfl) ?_ | refine AllP.cons ?_ ?_))
                all_goals rfl
              cbv
              have hgl : ((T.map it).take t).length ≤ 2000 := by rw [List.length_take, List.length_map]; omega
              refine .need (by simp only [Node.rows_length, List.length_cons, List.length_nil]; omega) ?_
              have hcu := hTcl _ hcT
              have hg1 : (T.map it).take (t + 1) = (T.map it).take t ++ [z] := by rw [map_take_succ it hc, hz]
              have hnx : ∀ c', T[t + 1]? = some c' → (incC (L.map List.length) q.decls.length cur).2 = c' := fun c' h => Chn.get hTc hc h
              have hil2 : (incC (L.map List.length) q.decls.length cur).2.length = q.decls.length := by rw [incC_len]; exact hcu.1
              have hend : ∀ (x : List Int), x = (incC (L.map List.length) q.decls.length cur).2 → (t + 1 ≤ T.length ∧ x.length = q.decls.length ∧ ∀ c, T[t + 1]? = some c → x = c) := fun x hx => by rw [hx]; exact ⟨htl, hil2, hnx⟩
              generalize htg : (incC (L.map List.length) q.decls.length cur).2 = tgt at *
              refine .loop (Nat × List Int) (fun p => p.1 ≤ q.decls.length ∧ p.2.length = q.decls.length ∧ (incC (L.map List.length) p.1 p.2).2 = tgt ∧ ∀ x ∈ p.2, 0 ≤ x ∧ x ≤ 1000) (fun p => [(18, .int .i64 fun _ => (p.1 : Int) - 1)]) (fun p => [(0, .cells 33 q.svs), (1, .cells 25 [.ds 1 fun _ => ints u]), (2, .arr 23 1 fun _ => unks L), (4, .arr 3 1 fun _ => ints p.2), (9, .arr 31 5 fun _ => Node.rows ((T.map it).take (t + 1)))]) 10 (fun p => p.1) (q.decls.length, cur) ⟨Nat.le_refl _, hcu.1, ?_, hcu.2⟩ ?_ ?_
              · exact htg
              · (refine le_of ?_; cbv; refine .mk ?_; repeat' (first | exact AllP.nil | refine AllP.cons (by with_reducible rfl) ?_ | refine AllP.cons ?_ ?_))
                all_goals first | rfl | (rw [hg1, Node.rows_append, Node.rows_one, Node.row_dvs]; rfl) | skip
                show ((q.decls.length : Nat) : Int) - 1 = IntKind.i64.wrap (((ints cur).length : Int) - 1)
                rw [ints_length, hcu.1, IntKind.wrap_i64]
                omega
              · rintro ⟨m, cu⟩ ⟨hm, hcul, hinc, hcub⟩
                have hcul : cu.length = q.decls.length := hcul
                have hm : m ≤ q.decls.length := hm
                cases m with
                | zero =>
                  cbv
                  have hinc : cu = tgt := hinc
                  refine .split (fun h8 => ?_) (fun h8 => ?_)
                  · exact absurd (of_decide_eq_true h8) (show ¬ (0 : Int) ≤ ((0 : Nat) : Int) - 1 by decide)
                  · refine .prop ⟨(t + 1, cu), hend cu hinc, by show T.length - (t + 1) < T.length - t; omega, ?_⟩
                    (refine le_of ?_; cbv; refine .mk ?_; repeat' (first | exact AllP.nil | refine AllP.cons (by with_reducible rfl) ?_ | refine AllP.cons ?_ ?_))
                    all_goals (first | rfl | exact ⟨rfl, rfl⟩ | (refine wrap64_of ?_ ?_ ?_ <;> simp only [natCast_eq] <;> omega))
                | succ m =>
                  have hmL : m < L.length := by omega
                  refine Exists.elim (getI hmL) fun ci hci => ?_
                  refine Exists.elim (getI (show m < cu.length by omega)) fun x hx => ?_
                  have hcil : ci.length ≤ 40 := hLl ci (List.mem_of_getElem? hci)
                  have hxb := hcub x (List.mem_of_getElem? hx)
                  have hm1 : ((m + 1 : Nat) : Int) - 1 = (m : Int) := by omega
                  have hmw : IntKind.i64.wrap ((m : Int) - 1) = (m : Int) - 1 := by rw [IntKind.wrap_i64]; omega
                  have hwx : IntKind.i64.wrap (x + 1) = x + 1 := by rw [IntKind.wrap_i64]; omega
                  have hgi : giI cu m = x := by unfold giI; rw [hx]; rfl
                  have hgn : gnN (L.map List.length) m = ci.length := by unfold gnN; rw [List.getElem?_map, hci]; rfl
                  have hincS : incC (L.map List.length) (m + 1) cu = if x + 1 < (ci.length : Int) then (false, cu.set m (x + 1)) else incC (L.map List.length) m (cu.set m 0) := by rw [incC, hgi, hgn]
                  have hA : (0 : Int) ≤ ((m + 1 : Nat) : Int) - 1 ∧ ((m + 1 : Nat) : Int) - 1 < ((ints cu).length : Int) := by rw [ints_length]; omega
                  have hS : setRow (ints cu) (((m + 1 : Nat) : Int) - 1).toNat 0 [.int .i64 (IntKind.i64.wrap (x + 1))] = ints (cu.set m (x + 1)) := by rw [hm1, hwx, Int.toNat_natCast, ints_set]
                  have hB : (0 : Int) ≤ ((m + 1 : Nat) : Int) - 1 ∧ ((m + 1 : Nat) : Int) - 1 < ((setRow (ints cu) (((m + 1 : Nat) : Int) - 1).toNat 0 [.int .i64 (IntKind.i64.wrap (x + 1))]).length : Int) := by rw [hS, ints_length, List.length_set]; omega
                  have hC : (setRow (ints cu) (((m + 1 : Nat) : Int) - 1).toNat 0 [.int .i64 (IntKind.i64.wrap (x + 1))])[(((m + 1 : Nat) : Int) - 1).toNat]? = some [.int .i64 (x + 1)] := by rw [hS, hm1, Int.toNat_natCast]; exact ints_get (List.getElem?_set_self (by omega))
                  cbv
                  refine .split (fun h8 => ?_) (fun h8 => ?_)
                  · refine .need hA ?_
                    refine .row [.int .i64 x] [.int .i64 fun _ => x] (by show (ints cu)[(((m + 1 : Nat) : Int) - 1).toNat]? = _; rw [hm1, Int.toNat_natCast]; exact ints_get hx) rfl ?_
                    cbv
                    refine .need hA (.need hB ?_)
                    refine .row [.int .i64 (x + 1)] [.int .i64 fun _ => (x + 1)] hC rfl ?_
                    cbv
                    refine .need ⟨hA.1, by rw [unks_length]; show ((m + 1 : Nat) : Int) - 1 < (L.length : Int); omega⟩ ?_
                    refine .row [.sl 1 (ints ci)] [.ds 1 fun _ => ints ci] (by show (unks L)[(((m + 1 : Nat) : Int) - 1).toNat]? = _; rw [hm1, Int.toNat_natCast]; exact unks_get hci) rfl ?_
                    cbv
                    refine .need rfl ?_
                    have hincS2 : (incC (L.map List.length) (m + 1) cu).2 = tgt := hinc
                    rw [hincS] at hincS2
                    refine .split (fun h9 => ?_) (fun h9 => ?_)
                    · have h9 : decide (x + 1 < (((ints ci).length : Nat) : Int)) = true := h9
                      have h9 := of_decide_eq_true h9
                      rw [ints_length] at h9
                      rw [if_pos h9] at hincS2
                      refine .prop ⟨(t + 1, cu.set m (x + 1)), hend _ hincS2, by show T.length - (t + 1) < T.length - t; omega, ?_⟩
                      (refine le_of ?_; cbv; refine .mk ?_; repeat' (first | exact AllP.nil | refine AllP.cons (by with_reducible rfl) ?_ | refine AllP.cons ?_ ?_))
                      all_goals first | (first | rfl | exact ⟨rfl, rfl⟩ | (refine wrap64_of ?_ ?_ ?_ <;> simp only [natCast_eq] <;> omega)) | exact hS.symm
                    · have h9 : decide (x + 1 < (((ints ci).length : Nat) : Int)) = false := h9
                      have h9 := of_decide_eq_false h9
                      rw [ints_length] at h9
                      rw [if_neg h9] at hincS2
                      refine .need hB ?_
                      refine .prop ⟨(m, cu.set m 0), ⟨Nat.le_of_succ_le hm, by show (cu.set m 0).length = _; rw [List.length_set]; exact hcul, hincS2, ?_⟩, Nat.lt_succ_self m, ?_⟩
                      · intro y hy
                        rcases List.mem_or_eq_of_mem_set hy with h | h
                        · exact hcub y h
                        · rw [h]; omega
                      · (refine le_of ?_; cbv; refine .mk ?_; repeat' (first | exact AllP.nil | refine AllP.cons (by with_reducible rfl) ?_ | refine AllP.cons ?_ ?_))
                        all_goals first | rfl | skip
                        · show ((m : Nat) : Int) - 1 = IntKind.i64.wrap (((m + 1 : Nat) : Int) - 1 - 1)
                          rw [hm1, hmw]
                        · show ints (cu.set m 0) = setRow (setRow (ints cu) (((m + 1 : Nat) : Int) - 1).toNat 0 [.int .i64 (IntKind.i64.wrap (x + 1))]) (((m + 1 : Nat) : Int) - 1).toNat 0 [.int .i64 0]
                          rw [hS, hm1, Int.toNat_natCast, ints_set, List.set_set]
                  · exact absurd hA.1 (of_decide_eq_false h8)
        · have htl : t = T.length := Nat.le_antisymm ht (geF h6)
          (refine .fin () 99 trivial (le_of ?_); cbv; refine .mk ?_; repeat' (first | exact AllP.nil | refine AllP.cons (by with_reducible rfl) ?_ | refine AllP.cons ?_ ?_))
          all_goals first | rfl | skip
          rw [htl, ← List.length_map (f := it), List.take_length]
end Go.Qu
