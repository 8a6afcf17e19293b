/- The law, for every name; laid by mkl.py. -/
import Derived.Test.YtkgiopdkhhinoaaGreatDoorVl
import Derived.Test.YtkgiopdkhhinoaaGreatDoorVm
import Derived.Test.YtkgiopdkhhinoaaGreatDoorVi
import Derived.Test.YtkgiopdkhhinoaaGreatDoorVj
import Derived.Test.YtkgiopdkhhinoaaGreatDoorVe
import Derived.Test.YtkgiopdkhhinoaaGreatDoorVf
import Derived.Test.YtkgiopdkhhinoaaGreatDoorVh
set_option linter.all false
namespace Go.Qu
open Go.Eng Go.Proofs
theorem law0 {which a b c : Int} {l : List Int} (h0 : 0 <= which) (h1 : which < 256) (hi : which % 19 = 0)  : Pure Tryz.prog 3 [.int .u8 fun _ => which, .int .i64 fun _ => a, .int .i64 fun _ => b, .int .i64 fun _ => c, .ds 1 fun _ => ints l] (.bs fun _ => true) :=
  lawII _ (names_at 0 h0 h1 hi rfl) rfl rfl rfl rfl rfl rfl rfl (fun ha hb => rprim0 a b) (fun ha hb => eprim_II a b ha hb (kinds0 1) (oprim0 a b)) (earity_II a b (kinds0 1)) (epow_II a b) (ebase_UI1 b (kinds0 3))
theorem law1 {which a b c : Int} {l : List Int} (h0 : 0 <= which) (h1 : which < 256) (hi : which % 19 = 1)  : Pure Tryz.prog 3 [.int .u8 fun _ => which, .int .i64 fun _ => a, .int .i64 fun _ => b, .int .i64 fun _ => c, .ds 1 fun _ => ints l] (.bs fun _ => true) :=
  lawII _ (names_at 1 h0 h1 hi rfl) rfl rfl rfl rfl rfl rfl rfl (fun ha hb => rprim1 a b) (fun ha hb => eprim_II a b ha hb (kinds1 1) (oprim1 a b)) (earity_II a b (kinds1 1)) (epow_II a b) (ebase_UI1 b (kinds1 3))
theorem law2 {which a b c : Int} {l : List Int} (h0 : 0 <= which) (h1 : which < 256) (hi : which % 19 = 2)  : Pure Tryz.prog 3 [.int .u8 fun _ => which, .int .i64 fun _ => a, .int .i64 fun _ => b, .int .i64 fun _ => c, .ds 1 fun _ => ints l] (.bs fun _ => true) :=
  lawII _ (names_at 2 h0 h1 hi rfl) rfl rfl rfl rfl rfl rfl rfl (fun ha hb => rprim2 a b ha hb) (fun ha hb => eprim_II a b ha hb (kinds2 1) (oprim2 a b ha hb)) (earity_II a b (kinds2 1)) (epow_II a b) (ebase_UI1 b (kinds2 3))
theorem law4 {which a b c : Int} {l : List Int} (h0 : 0 <= which) (h1 : which < 256) (hi : which % 19 = 4)  : Pure Tryz.prog 3 [.int .u8 fun _ => which, .int .i64 fun _ => a, .int .i64 fun _ => b, .int .i64 fun _ => c, .ds 1 fun _ => ints l] (.bs fun _ => true) :=
  lawII _ (names_at 4 h0 h1 hi rfl) rfl rfl rfl rfl rfl rfl rfl (fun ha hb => rprim4 a b) (fun ha hb => eprim_II a b ha hb (kinds4 1) (oprim4 a b)) (earity_II a b (kinds4 1)) (epow_II a b) (ebase_UI1 b (kinds4 3))
theorem law5 {which a b c : Int} {l : List Int} (h0 : 0 <= which) (h1 : which < 256) (hi : which % 19 = 5)  : Pure Tryz.prog 3 [.int .u8 fun _ => which, .int .i64 fun _ => a, .int .i64 fun _ => b, .int .i64 fun _ => c, .ds 1 fun _ => ints l] (.bs fun _ => true) :=
  lawII _ (names_at 5 h0 h1 hi rfl) rfl rfl rfl rfl rfl rfl rfl (fun ha hb => rprim5 a b) (fun ha hb => eprim_II a b ha hb (kinds5 1) (oprim5 a b)) (earity_II a b (kinds5 1)) (epow_II a b) (ebase_UI1 b (kinds5 3))
theorem law6 {which a b c : Int} {l : List Int} (h0 : 0 <= which) (h1 : which < 256) (hi : which % 19 = 6)  : Pure Tryz.prog 3 [.int .u8 fun _ => which, .int .i64 fun _ => a, .int .i64 fun _ => b, .int .i64 fun _ => c, .ds 1 fun _ => ints l] (.bs fun _ => true) :=
  lawII _ (names_at 6 h0 h1 hi rfl) rfl rfl rfl rfl rfl rfl rfl (fun ha hb => rprim6 a b) (fun ha hb => eprim_II a b ha hb (kinds6 1 (by decide)) (oprim6 a b)) (earity_II a b (kinds6 1 (by decide))) (epow_II a b) (ebase_UI1 b (kinds6 3 (by decide)))
theorem law7 {which a b c : Int} {l : List Int} (h0 : 0 <= which) (h1 : which < 256) (hi : which % 19 = 7)  : Pure Tryz.prog 3 [.int .u8 fun _ => which, .int .i64 fun _ => a, .int .i64 fun _ => b, .int .i64 fun _ => c, .ds 1 fun _ => ints l] (.bs fun _ => true) :=
  lawII _ (names_at 7 h0 h1 hi rfl) rfl rfl rfl rfl rfl rfl rfl (fun ha hb => rprim7 a b) (fun ha hb => eprim_II a b ha hb (kinds7 1 (by decide)) (oprim7 a b)) (earity_II a b (kinds7 1 (by decide))) (epow_II a b) (ebase_UI1 b (kinds7 3 (by decide)))
theorem law8 {which a b c : Int} {l : List Int} (h0 : 0 <= which) (h1 : which < 256) (hi : which % 19 = 8)  : Pure Tryz.prog 3 [.int .u8 fun _ => which, .int .i64 fun _ => a, .int .i64 fun _ => b, .int .i64 fun _ => c, .ds 1 fun _ => ints l] (.bs fun _ => true) :=
  lawII _ (names_at 8 h0 h1 hi rfl) rfl rfl rfl rfl rfl rfl rfl (fun ha hb => rprim8 a b) (fun ha hb => eprim_II a b ha hb (kinds8 1) (oprim8 a b)) (earity_II a b (kinds8 1)) (epow_II a b) (ebase_UI1 b (kinds8 3))
theorem law9 {which a b c : Int} {l : List Int} (h0 : 0 <= which) (h1 : which < 256) (hi : which % 19 = 9)  : Pure Tryz.prog 3 [.int .u8 fun _ => which, .int .i64 fun _ => a, .int .i64 fun _ => b, .int .i64 fun _ => c, .ds 1 fun _ => ints l] (.bs fun _ => true) :=
  lawII _ (names_at 9 h0 h1 hi rfl) rfl rfl rfl rfl rfl rfl rfl (fun ha hb => rprim9 a b) (fun ha hb => eprim_II a b ha hb (kinds9 1) (oprim9 a b)) (earity_II a b (kinds9 1)) (epow_II a b) (ebase_UI1 b (kinds9 3))
theorem law10 {which a b c : Int} {l : List Int} (h0 : 0 <= which) (h1 : which < 256) (hi : which % 19 = 10)  : Pure Tryz.prog 3 [.int .u8 fun _ => which, .int .i64 fun _ => a, .int .i64 fun _ => b, .int .i64 fun _ => c, .ds 1 fun _ => ints l] (.bs fun _ => true) :=
  lawII _ (names_at 10 h0 h1 hi rfl) rfl rfl rfl rfl rfl rfl rfl (fun ha hb => rprim10 a b) (fun ha hb => eprim_II a b ha hb (kinds10 1) (oprim10 a b)) (earity_II a b (kinds10 1)) (epow_II a b) (ebase_UI1 b (kinds10 3))
theorem law11 {which a b c : Int} {l : List Int} (h0 : 0 <= which) (h1 : which < 256) (hi : which % 19 = 11)  : Pure Tryz.prog 3 [.int .u8 fun _ => which, .int .i64 fun _ => a, .int .i64 fun _ => b, .int .i64 fun _ => c, .ds 1 fun _ => ints l] (.bs fun _ => true) :=
  lawII _ (names_at 11 h0 h1 hi rfl) rfl rfl rfl rfl rfl rfl rfl (fun ha hb => rprim11 a b) (fun ha hb => eprim_II a b ha hb (kinds11 1) (oprim11 a b)) (earity_II a b (kinds11 1)) (epow_II a b) (ebase_UI1 b (kinds11 3))
theorem law18n {which a b c : Int} {l : List Int} (h0 : 0 <= which) (h1 : which < 256) (hi : which % 19 = 18) (hn : a < 0) : Pure Tryz.prog 3 [.int .u8 fun _ => which, .int .i64 fun _ => a, .int .i64 fun _ => b, .int .i64 fun _ => c, .ds 1 fun _ => ints l] (.bs fun _ => true) :=
  lawII _ (names_at 18 h0 h1 hi rfl) rfl rfl rfl rfl rfl rfl rfl (fun ha hb => rprim18n a b hn) (fun ha hb => eprim_II a b ha hb (kinds18 1) (oprim18n a b hn)) (earity_II a b (kinds18 1)) (epow_II a b) (ebase_UI1 b (kinds18 3))
theorem law18g {which a b c : Int} {l : List Int} (h0 : 0 <= which) (h1 : which < 256) (hi : which % 19 = 18) (hn : 1000 < a) : Pure Tryz.prog 3 [.int .u8 fun _ => which, .int .i64 fun _ => a, .int .i64 fun _ => b, .int .i64 fun _ => c, .ds 1 fun _ => ints l] (.bs fun _ => true) :=
  lawII _ (names_at 18 h0 h1 hi rfl) rfl rfl rfl rfl rfl rfl rfl (fun ha hb => rprim18g a b hn) (fun ha hb => eprim_II a b ha hb (kinds18 1) (oprim18g a b hn)) (earity_II a b (kinds18 1)) (epow_II a b) (ebase_UI1 b (kinds18 3))
theorem law3 {which a b c : Int} {l : List Int} (h0 : 0 <= which) (h1 : which < 256) (hi : which % 19 = 3)  : Pure Tryz.prog 3 [.int .u8 fun _ => which, .int .i64 fun _ => a, .int .i64 fun _ => b, .int .i64 fun _ => c, .ds 1 fun _ => ints l] (.bs fun _ => true) :=
  lawO (names_at 3 h0 h1 hi rfl)  (fun ha => rprim3 a b) (fun ha => eprim_IO a b ha (kinds3 1) (oprim3 a b)) (earity_I a b (kinds3 0)) (epow_IIO a b) (ebase_UI1O b (kinds3 3))
theorem law12 {which a b c : Int} {l : List Int} (h0 : 0 <= which) (h1 : which < 256) (hi : which % 19 = 12) : Pure Tryz.prog 3 [.int .u8 fun _ => which, .int .i64 fun _ => a, .int .i64 fun _ => b, .int .i64 fun _ => c, .ds 1 fun _ => ints l] (.bs fun _ => true) :=
  lawAnd (names_at 12 h0 h1 hi rfl) (rprim12 (decide (a % 2 = 1)) (decide (b % 2 = 1))) (eprim_BB (decide (a % 2 = 1)) (decide (b % 2 = 1)) (kinds12 2) (oprim12 (decide (a % 2 = 1)) (decide (b % 2 = 1)))) (earity_BB (decide (a % 2 = 1)) (decide (b % 2 = 1)) (kinds12 2)) (epow_BB (decide (a % 2 = 1)) (decide (b % 2 = 1))) (ebase_UB2 (decide (b % 2 = 1)) (kinds12 3))
theorem law13 {which a b c : Int} {l : List Int} (h0 : 0 <= which) (h1 : which < 256) (hi : which % 19 = 13) : Pure Tryz.prog 3 [.int .u8 fun _ => which, .int .i64 fun _ => a, .int .i64 fun _ => b, .int .i64 fun _ => c, .ds 1 fun _ => ints l] (.bs fun _ => true) :=
  lawOr (names_at 13 h0 h1 hi rfl) (rprim13 (decide (a % 2 = 1)) (decide (b % 2 = 1))) (eprim_BB (decide (a % 2 = 1)) (decide (b % 2 = 1)) (kinds13 2) (oprim13 (decide (a % 2 = 1)) (decide (b % 2 = 1)))) (earity_BB (decide (a % 2 = 1)) (decide (b % 2 = 1)) (kinds13 2)) (epow_BB (decide (a % 2 = 1)) (decide (b % 2 = 1))) (ebase_UB2 (decide (b % 2 = 1)) (kinds13 3))
theorem law14 {which a b c : Int} {l : List Int} (h0 : 0 <= which) (h1 : which < 256) (hi : which % 19 = 14) : Pure Tryz.prog 3 [.int .u8 fun _ => which, .int .i64 fun _ => a, .int .i64 fun _ => b, .int .i64 fun _ => c, .ds 1 fun _ => ints l] (.bs fun _ => true) :=
  lawNot (names_at 14 h0 h1 hi rfl) (rprim14 (decide (a % 2 = 1))) (eprim_B (decide (a % 2 = 1)) (kinds14 2) (oprim14 (decide (a % 2 = 1)))) (earity_B (decide (a % 2 = 1)) (kinds14 0)) (epow_B (decide (a % 2 = 1))) (ebase_U2 (kinds14 3))
theorem law15 {which a b c : Int} {l : List Int} (h0 : 0 <= which) (h1 : which < 256) (hi : which % 19 = 15)  : Pure Tryz.prog 3 [.int .u8 fun _ => which, .int .i64 fun _ => a, .int .i64 fun _ => b, .int .i64 fun _ => c, .ds 1 fun _ => ints l] (.bs fun _ => true) :=
  lawLen (names_at 15 h0 h1 hi rfl)  (fun hl hm _ _ => rprim15 l) (fun hl hm _ _ => eprim_V l hl hm (kinds15 4) (oprim15 l hl)) (earity_V l (kinds15 0)) (epow_V l) (ebase_U4 (kinds15 3))
theorem law16e {which a b c : Int} {l : List Int} (h0 : 0 <= which) (h1 : which < 256) (hi : which % 19 = 16) (hn : ¬ (0 <= b /\ b < (l.length : Int))) : Pure Tryz.prog 3 [.int .u8 fun _ => which, .int .i64 fun _ => a, .int .i64 fun _ => b, .int .i64 fun _ => c, .ds 1 fun _ => ints l] (.bs fun _ => true) :=
  lawGet (names_at 16 h0 h1 hi rfl)  (fun hl hm hb _ => rprim16e l b hn) (fun hl hm hb _ => eprim_VI l hl hm b hb (kinds16 4) (oprim16e l b hn)) (earity_VI l b (kinds16 1)) (epow_VI l b) (ebase_UI4 b (kinds16 3))
theorem law16v {which a b c : Int} {l : List Int} (h0 : 0 <= which) (h1 : which < 256) (hi : which % 19 = 16) {x : Int} (p0 : 0 <= b) (p1 : b < (l.length : Int)) (hx : l[b.toNat]? = some x) : Pure Tryz.prog 3 [.int .u8 fun _ => which, .int .i64 fun _ => a, .int .i64 fun _ => b, .int .i64 fun _ => c, .ds 1 fun _ => ints l] (.bs fun _ => true) :=
  lawGet (names_at 16 h0 h1 hi rfl)  (fun hl hm hb _ => rprim16v l b x p0 p1 hx) (fun hl hm hb _ => eprim_VI l hl hm b hb (kinds16 4) (oprim16v l b x p0 p1 hx)) (earity_VI l b (kinds16 1)) (epow_VI l b) (ebase_UI4 b (kinds16 3))
theorem law17e {which a b c : Int} {l : List Int} (h0 : 0 <= which) (h1 : which < 256) (hi : which % 19 = 17) (hn : ¬ (0 <= b /\ b < (l.length : Int))) : Pure Tryz.prog 3 [.int .u8 fun _ => which, .int .i64 fun _ => a, .int .i64 fun _ => b, .int .i64 fun _ => c, .ds 1 fun _ => ints l] (.bs fun _ => true) :=
  lawPutE (names_at 17 h0 h1 hi rfl)  (fun hl hm hb hc => rprim17e l b c hn) (fun hl hm hb hc => eprim_VII l hl hm b c hb hc (kinds17 4) (oprim17e l b c hn)) (earity_VII l b c (kinds17 1)) (epow_VII l b c) (ebase_UII4 b c (kinds17 3))
theorem law17v {which a b c : Int} {l : List Int} (h0 : 0 <= which) (h1 : which < 256) (hi : which % 19 = 17) {x : Int} (p0 : 0 <= b) (p1 : b < (l.length : Int)) (hx : l[b.toNat]? = some x) : Pure Tryz.prog 3 [.int .u8 fun _ => which, .int .i64 fun _ => a, .int .i64 fun _ => b, .int .i64 fun _ => c, .ds 1 fun _ => ints l] (.bs fun _ => true) :=
  have hz : l.length <= 1000 -> (l.set b.toNat c).length <= 1000 := fun h => by rw [List.length_set]; exact h
  lawPut (names_at 17 h0 h1 hi rfl)  hz (fun hl hm hb hc => rprim17v l hl b c x p0 p1 hx) (fun hl hm hb hc => eprim_VIIS (l.set b.toNat c) (hz hl) l hl hm b c hb hc (kinds17 4) (oprim17v l hl b c x p0 p1 hx)) (earity_VII l b c (kinds17 1)) (epow_VII l b c) (ebase_UII4 b c (kinds17 3))
theorem rprim18w (n : Nat) (hn : n <= 1000) (b m : Int) (hm : m = (n : Int)) : Eng.Spec Tryz.prog 7 [.raw (.string ⟨#[109, 97, 107, 101]⟩), .os 0] [(0, .arr 27 4 fun _ => [(num0 m).dv, (num0 b).dv])] 1 (fun _ : Unit => True) (fun _ => .tup [.agg (vecV (List.replicate n b)), .int .i64 fun _ => 0]) (fun _ => [(0, .arr 27 4 fun _ => [(num0 m).dv, (num0 b).dv])]) := by
  subst hm; exact rprim18v n hn b
theorem oprim18w (n : Nat) (hn : n <= 1000) (b m : Int) (hm : m = (n : Int)) : Eng.Spec Tryz.prog 18 [.raw (.string ⟨#[109, 97, 107, 101]⟩), .os 0] [(0, .arr 27 4 fun _ => [(num0 m).dv, (num0 b).dv])] 1 (fun _ : Unit => True) (fun _ => .tup [.agg (vecV (List.replicate n b)), .int .i64 fun _ => 0]) (fun _ => [(0, .arr 27 4 fun _ => [(num0 m).dv, (num0 b).dv])]) := by
  subst hm; exact oprim18v n hn b
theorem law18v {which a b c : Int} {l : List Int} (h0 : 0 <= which) (h1 : which < 256) (hi : which % 19 = 18) {n : Nat} (hn : n <= 1000) (hk : a = (n : Int)) : Pure Tryz.prog 3 [.int .u8 fun _ => which, .int .i64 fun _ => a, .int .i64 fun _ => b, .int .i64 fun _ => c, .ds 1 fun _ => ints l] (.bs fun _ => true) :=
  have hz : l.length <= 1000 -> (List.replicate n b).length <= 1000 := fun _ => by rw [List.length_replicate]; exact hn
  lawS (names_at 18 h0 h1 hi rfl)  hz (fun ha hb => rprim18w n hn b a hk) (fun ha hb => eprim_IIS (List.replicate n b) (by rw [List.length_replicate]; exact hn) a b ha hb (kinds18 1) (oprim18w n hn b a hk)) (earity_II a b (kinds18 1)) (epow_II a b) (ebase_UI1 b (kinds18 3))
theorem law_ok (which a b c : Int) (l : List Int) (h0 : 0 <= which) (h1 : which < 256) : Pure Tryz.prog 3 [.int .u8 fun _ => which, .int .i64 fun _ => a, .int .i64 fun _ => b, .int .i64 fun _ => c, .ds 1 fun _ => ints l] (.bs fun _ => true) := by
  have hi : which % 19 = 0 \/ which % 19 = 1 \/ which % 19 = 2 \/ which % 19 = 3 \/ which % 19 = 4 \/ which % 19 = 5 \/ which % 19 = 6 \/ which % 19 = 7 \/ which % 19 = 8 \/ which % 19 = 9 \/ which % 19 = 10 \/ which % 19 = 11 \/ which % 19 = 12 \/ which % 19 = 13 \/ which % 19 = 14 \/ which % 19 = 15 \/ which % 19 = 16 \/ which % 19 = 17 \/ which % 19 = 18 := by omega
  have hget : 0 <= b -> b < (l.length : Int) -> ∃ x, l[b.toNat]? = some x := fun p q => ⟨_, List.getElem?_eq_getElem (by omega)⟩
  rcases hi with hi | hi | hi | hi | hi | hi | hi | hi | hi | hi | hi | hi | hi | hi | hi | hi | hi | hi | hi
  . exact law0 h0 h1 hi
  . exact law1 h0 h1 hi
  . exact law2 h0 h1 hi
  . exact law3 h0 h1 hi
  . exact law4 h0 h1 hi
  . exact law5 h0 h1 hi
  . exact law6 h0 h1 hi
  . exact law7 h0 h1 hi
  . exact law8 h0 h1 hi
  . exact law9 h0 h1 hi
  . exact law10 h0 h1 hi
  . exact law11 h0 h1 hi
  . exact law12 h0 h1 hi
  . exact law13 h0 h1 hi
  . exact law14 h0 h1 hi
  . exact law15 h0 h1 hi
  . by_cases hb : 0 <= b /\ b < (l.length : Int)
    . obtain ⟨x, hx⟩ := hget hb.1 hb.2; exact law16v h0 h1 hi hb.1 hb.2 hx
    . exact law16e h0 h1 hi hb
  . by_cases hb : 0 <= b /\ b < (l.length : Int)
    . obtain ⟨x, hx⟩ := hget hb.1 hb.2; exact law17v h0 h1 hi hb.1 hb.2 hx
    . exact law17e h0 h1 hi hb
  . by_cases ha : a < 0
    . exact law18n h0 h1 hi ha
    . by_cases hg : 1000 < a
      . exact law18g h0 h1 hi hg
      . exact law18v (n := a.toNat) h0 h1 hi (by omega) (by omega)
end Go.Qu
