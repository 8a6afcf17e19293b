/- The program's data as plain Lean values, and as deep values. The table of the types of this translation, laid by mktab.py out of the dump; the kernel holds it against the program. -/
import Derived.Test.YtoaifhhfcokipaaGreatDoorXc
import Derived.Test.YtoaifhhfcokipaaGreatDoorProg
namespace Go.Qu
open Go.Eng
inductive Node where
  | mk (op sort : Int) (name : ByteArray) (num : Int) (kids : List Node)
namespace Node
def op : Node → Int | .mk o _ _ _ _ => o
def sort : Node → Int | .mk _ s _ _ _ => s
def name : Node → ByteArray | .mk _ _ n _ _ => n
def num : Node → Int | .mk _ _ _ m _ => m
def kids : Node → List Node | .mk _ _ _ _ k => k
mutual
theorem ind {P : Node → Prop} (h : ∀ o s n m ks, (∀ k ∈ ks, P k) → P (.mk o s n m ks)) : ∀ x, P x
  | .mk o s n m ks => h o s n m ks (inds h ks)
theorem inds {P : Node → Prop} (h : ∀ o s n m ks, (∀ k ∈ ks, P k) → P (.mk o s n m ks)) : ∀ (l : List Node), ∀ k ∈ l, P k
  | [] => by simp
  | x :: l => List.forall_mem_cons.2 ⟨ind h x, inds h l⟩
end
mutual
def row : Node → List DV
  | .mk o s n m ks => [.int .i64 o, .int .i64 s, .str n, .int .i64 m, .sl 5 (rows ks)]
def rows : List Node → List (List DV)
  | [] => []
  | x :: l => row x :: rows l
end
theorem rows_eq : ∀ l, rows l = l.map row
  | [] => rfl
  | x :: l => by rw [rows, rows_eq l]; rfl
/-- a node's cells -/
def svs (x : Node) : List SV := [.int .i64 fun _ => x.op, .int .i64 fun _ => x.sort, .str fun _ => x.name, .int .i64 fun _ => x.num, .ds 5 fun _ => rows x.kids]
def dvs (x : Node) : List DV := [.int .i64 x.op, .int .i64 x.sort, .str x.name, .int .i64 x.num, .sl 5 (rows x.kids)]
theorem row_dvs (x : Node) : x.row = x.dvs := by cases x; rfl
theorem row_toSV (x : Node) : x.row.map DV.toSV = x.svs := by cases x; rfl
theorem rows_length (l : List Node) : (rows l).length = l.length := by rw [rows_eq]; simp
theorem rows_get {l : List Node} {i : Nat} {x : Node} (h : l[i]? = some x) : (rows l)[i]? = some x.row := by rw [rows_eq]; simp [h]
mutual
def size : Node → Nat
  | .mk _ _ _ _ ks => 1 + sizes ks
def sizes : List Node → Nat
  | [] => 0
  | x :: l => size x + sizes l
end
theorem sizes_take_succ : ∀ (l : List Node) (k : Nat) (h : k < l.length), sizes (l.take (k + 1)) = sizes (l.take k) + size l[k]
  | x :: l, 0, h => by simp [sizes]
  | x :: l, k + 1, h => by
    have := sizes_take_succ l k (by simpa using h)
    simp [sizes, this, Nat.add_assoc]
theorem sizes_take_le : ∀ (l : List Node) (k : Nat), sizes (l.take k) ≤ sizes l
  | [], k => by simp
  | x :: l, 0 => by simp [sizes]
  | x :: l, k + 1 => by have := sizes_take_le l k; simp [sizes]; omega
theorem length_le_sizes : ∀ (l : List Node), l.length ≤ sizes l
  | [] => by simp
  | .mk o s n m ks :: l => by have := length_le_sizes l; simp [sizes, size]; omega
mutual
/-- a node and all within it, in preorder -/
def pre : Node → List Node
  | x@(.mk _ _ _ _ ks) => x :: pres ks
def pres : List Node → List Node
  | [] => []
  | x :: l => pre x ++ pres l
end
theorem pre_eq (x : Node) : pre x = x :: pres x.kids := by cases x; rw [pre]; rfl
theorem pres_append : ∀ (a b : List Node), pres (a ++ b) = pres a ++ pres b
  | [], b => by simp [pres]
  | x :: a, b => by simp [pres, pres_append a b]
theorem pres_take_succ {l : List Node} {k : Nat} {y : Node} (h : l[k]? = some y) : pres (l.take (k + 1)) = pres (l.take k) ++ y.pre := by
  rw [List.take_add_one, pres_append, h]
  simp [pres]
theorem pres_split {l : List Node} {k : Nat} {y : Node} (h : l[k]? = some y) : pres l = pres (l.take k) ++ (y.pre ++ pres (l.drop (k + 1))) := by
  conv => lhs; rw [← List.take_append_drop (k + 1) l]
  rw [pres_append, pres_take_succ h, List.append_assoc]
theorem size_kid {x y : Node} {k : Nat} (h : x.kids[k]? = some y) : y.size + x.kids.length ≤ x.size := by
  cases x with
  | mk o s n m ks =>
    have hk : ks[k]? = some y := h
    have hlt : k < ks.length := (List.getElem?_eq_some_iff.1 hk).1
    have h1 := sizes_take_succ ks k hlt
    have h2 := sizes_take_le ks (k + 1)
    have h3 := length_le_sizes (ks.take k)
    have h4 := length_le_sizes (ks.drop (k + 1))
    have h5 : sizes ks = sizes (ks.take (k + 1)) + sizes (ks.drop (k + 1)) := by
      have : ∀ (a b : List Node), sizes (a ++ b) = sizes a + sizes b := by
        intro a b
        induction a with
        | nil => simp [sizes]
        | cons x a ih => simp [sizes, ih]; omega
      conv => lhs; rw [← List.take_append_drop (k + 1) ks]
      rw [this]
    have h6 : ks[k] = y := by simpa [hlt] using hk
    rw [h6] at h1
    simp only [List.length_take, List.length_drop] at h3 h4
    show size y + ks.length ≤ 1 + sizes ks
    omega
/-- what a walk yields -/
def its (l : List Node) : List (List SV) := l.map fun y => [.agg y.svs]
theorem its_length (l : List Node) : (its l).length = l.length := by simp [its]
theorem its_get {l : List Node} {i : Nat} {item : List SV} (h : (its l)[i]? = some item) : ∃ y, l[i]? = some y ∧ item = [.agg y.svs] := by
  rw [its, List.getElem?_map] at h
  cases hy : l[i]? with
  | none => rw [hy] at h; cases h
  | some y => rw [hy] at h; cases h; exact ⟨y, rfl, rfl⟩
theorem its_ok (l : List Node) : ∀ item ∈ its l, item.length = 1 ∧ KBs 0 item := by
  intro item h
  obtain ⟨y, _, rfl⟩ := List.mem_map.1 h
  exact ⟨rfl, kbVs_sound _ rfl⟩
end Node
end Go.Qu
namespace Go.Eng
open Go.Proofs
def tabL : List TI := [
  badT,
  ⟨.other, 1, 8, [.nilFunc], false⟩,
  ⟨.int .i64, 1, 8, [.int .i64 0], false⟩,
  ⟨.int .i64, 1, 8, [.int .i64 0], false⟩,
  ⟨.bool, 1, 1, [.bool false], false⟩,
  ⟨.int .u8, 1, 1, [.int .u8 0], false⟩,
  ⟨.int .u8, 1, 1, [.int .u8 0], false⟩,
  ⟨.struct [(0, 1), (1, 1), (2, 1), (3, 1)], 4, 24, [.int .i64 0, .int .i64 0, .bool false, .int .u8 0], false⟩,
  ⟨.struct [(0, 1), (1, 1), (2, 1), (3, 1)], 4, 24, [.int .i64 0, .int .i64 0, .bool false, .int .u8 0], false⟩,
  ⟨.str, 1, 16, [.string ⟨#[]⟩], false⟩,
  ⟨.str, 1, 16, [.string ⟨#[]⟩], false⟩,
  ⟨.str, 1, 16, [.string ⟨#[]⟩], false⟩,
  ⟨.int .u64, 1, 8, [.int .u64 0], false⟩,
  ⟨.struct [(0, 1), (1, 1)], 2, 24, [.string ⟨#[]⟩, .int .u64 0], false⟩,
  ⟨.struct [(0, 1), (1, 1)], 2, 24, [.string ⟨#[]⟩, .int .u64 0], false⟩,
  ⟨.ptr 165, 1, 8, [.pointer none], false⟩,
  ⟨.ptr 168, 1, 8, [.pointer none], false⟩,
  ⟨.ptr 177, 1, 8, [.pointer none], false⟩,
  ⟨.struct [(0, 1)], 1, 8, [.pointer none], false⟩,
  ⟨.struct [(0, 1)], 1, 8, [.pointer none], false⟩,
  ⟨.other, 1, 16, [.nilIface], false⟩,
  ⟨.int .i32, 1, 4, [.int .i32 0], false⟩,
  ⟨.sl 33, 1, 24, [.slice none 0 0], false⟩,
  ⟨.sl 3, 1, 24, [.slice none 0 0], false⟩,
  ⟨.struct [(0, 1)], 1, 24, [.slice none 0 0], false⟩,
  ⟨.struct [(0, 1)], 1, 24, [.slice none 0 0], false⟩,
  ⟨.other, 1, 8, [.nilFunc], false⟩,
  ⟨.other, 1, 8, [.nilFunc], false⟩,
  ⟨.sl 42, 1, 24, [.slice none 0 0], false⟩,
  ⟨.sl 31, 1, 24, [.slice none 0 0], false⟩,
  ⟨.struct [(0, 1), (1, 1), (2, 1), (3, 1), (4, 1)], 5, 64, [.int .i64 0, .int .i64 0, .string ⟨#[]⟩, .int .i64 0, .slice none 0 0], false⟩,
  ⟨.struct [(0, 1), (1, 1), (2, 1), (3, 1), (4, 1)], 5, 64, [.int .i64 0, .int .i64 0, .string ⟨#[]⟩, .int .i64 0, .slice none 0 0], false⟩,
  ⟨.struct [(0, 1), (1, 1), (2, 5)], 7, 104, [.string ⟨#[]⟩, .slice none 0 0, .int .i64 0, .int .i64 0, .string ⟨#[]⟩, .int .i64 0, .slice none 0 0], false⟩,
  ⟨.struct [(0, 1), (1, 1), (2, 5)], 7, 104, [.string ⟨#[]⟩, .slice none 0 0, .int .i64 0, .int .i64 0, .string ⟨#[]⟩, .int .i64 0, .slice none 0 0], false⟩,
  ⟨.int .i64, 1, 8, [.int .i64 0], false⟩,
  badT,
  ⟨.other, 1, 8, [.nilFunc], false⟩,
  ⟨.other, 1, 8, [.nilFunc], false⟩,
  ⟨.other, 1, 8, [.nilFunc], false⟩,
  ⟨.other, 1, 8, [.nilFunc], false⟩,
  ⟨.other, 1, 8, [.nilFunc], false⟩,
  ⟨.struct [(0, 1), (1, 1)], 2, 24, [.string ⟨#[]⟩, .int .i64 0], true⟩,
  ⟨.struct [(0, 1), (1, 1)], 2, 24, [.string ⟨#[]⟩, .int .i64 0], true⟩,
  ⟨.other, 1, 8, [.nilFunc], false⟩,
  ⟨.other, 1, 8, [.nilFunc], false⟩,
  ⟨.other, 1, 8, [.nilFunc], false⟩,
  ⟨.other, 1, 8, [.nilFunc], false⟩,
  ⟨.sl 23, 1, 24, [.slice none 0 0], false⟩,
  ⟨.sl 9, 1, 24, [.slice none 0 0], false⟩,
  ⟨.other, 1, 8, [.nilFunc], false⟩,
  ⟨.other, 1, 8, [.nilFunc], false⟩,
  ⟨.other, 1, 8, [.nilFunc], false⟩,
  ⟨.other, 1, 8, [.nilFunc], false⟩,
  ⟨.other, 1, 8, [.nilFunc], false⟩,
  ⟨.other, 1, 8, [.nilFunc], false⟩,
  ⟨.other, 1, 8, [.nilFunc], false⟩,
  ⟨.other, 1, 8, [.nilFunc], false⟩,
  ⟨.other, 1, 8, [.nilFunc], false⟩,
  ⟨.other, 1, 8, [.nilFunc], false⟩,
  ⟨.other, 1, 8, [.nilFunc], false⟩,
  ⟨.other, 1, 8, [.nilFunc], false⟩,
  ⟨.other, 1, 8, [.nilFunc], false⟩,
  ⟨.other, 1, 8, [.nilFunc], false⟩,
  badT,
  ⟨.other, 1, 8, [.nilFunc], false⟩,
  ⟨.other, 1, 8, [.nilFunc], false⟩,
  ⟨.other, 1, 8, [.nilFunc], false⟩,
  ⟨.other, 1, 8, [.nilFunc], false⟩,
  badT,
  ⟨.other, 1, 8, [.nilFunc], false⟩,
  ⟨.sl 25, 1, 24, [.slice none 0 0], false⟩,
  ⟨.sl 93, 1, 24, [.slice none 0 0], false⟩,
  ⟨.sl 29, 1, 24, [.slice none 0 0], false⟩,
  ⟨.struct [(0, 1), (1, 1), (2, 1)], 3, 72, [.slice none 0 0, .slice none 0 0, .slice none 0 0], false⟩,
  ⟨.struct [(0, 1), (1, 1), (2, 1)], 3, 72, [.slice none 0 0, .slice none 0 0, .slice none 0 0], false⟩,
  ⟨.other, 1, 8, [.nilFunc], false⟩,
  ⟨.other, 1, 8, [.nilFunc], false⟩,
  ⟨.other, 1, 8, [.nilFunc], false⟩,
  ⟨.other, 1, 8, [.nilFunc], false⟩,
  ⟨.other, 1, 8, [.nilFunc], false⟩,
  ⟨.other, 1, 8, [.nilFunc], false⟩,
  ⟨.other, 1, 8, [.nilFunc], false⟩,
  ⟨.other, 1, 8, [.nilFunc], false⟩,
  ⟨.other, 1, 8, [.nilFunc], false⟩,
  ⟨.other, 1, 8, [.nilFunc], false⟩,
  ⟨.other, 1, 8, [.nilFunc], false⟩,
  ⟨.other, 1, 8, [.nilFunc], false⟩,
  ⟨.other, 1, 8, [.nilFunc], false⟩,
  ⟨.int .u64, 1, 8, [.int .u64 0], false⟩,
  ⟨.other, 1, 8, [.nilFunc], false⟩,
  ⟨.other, 1, 8, [.nilFunc], false⟩,
  ⟨.other, 1, 8, [.nilFunc], false⟩,
  ⟨.struct [(0, 1), (1, 1), (2, 1), (3, 1), (4, 1), (5, 5)], 10, 144, [.string ⟨#[]⟩, .int .i64 0, .int .i64 0, .slice none 0 0, .slice none 0 0, .int .i64 0, .int .i64 0, .string ⟨#[]⟩, .int .i64 0, .slice none 0 0], false⟩,
  ⟨.struct [(0, 1), (1, 1), (2, 1), (3, 1), (4, 1), (5, 5)], 10, 144, [.string ⟨#[]⟩, .int .i64 0, .int .i64 0, .slice none 0 0, .slice none 0 0, .int .i64 0, .int .i64 0, .string ⟨#[]⟩, .int .i64 0, .slice none 0 0], false⟩,
  ⟨.other, 1, 8, [.nilFunc], false⟩,
  ⟨.other, 1, 8, [.nilFunc], false⟩,
  ⟨.other, 1, 8, [.nilFunc], false⟩,
  ⟨.other, 1, 8, [.nilFunc], false⟩,
  ⟨.other, 1, 8, [.nilFunc], false⟩,
  ⟨.other, 1, 8, [.nilFunc], false⟩,
  ⟨.other, 1, 8, [.nilFunc], false⟩,
  ⟨.map 9 3, 1, 8, [.map none], false⟩,
  ⟨.other, 1, 8, [.nilFunc], false⟩,
  ⟨.other, 1, 8, [.nilFunc], false⟩,
  ⟨.other, 1, 8, [.nilFunc], false⟩,
  ⟨.other, 1, 8, [.nilFunc], false⟩,
  badT,
  ⟨.other, 1, 8, [.nilFunc], false⟩,
  ⟨.other, 1, 8, [.nilFunc], false⟩,
  ⟨.other, 1, 8, [.nilFunc], false⟩,
  ⟨.other, 1, 8, [.nilFunc], false⟩,
  ⟨.other, 1, 8, [.nilFunc], false⟩,
  ⟨.other, 1, 8, [.nilFunc], false⟩,
  ⟨.other, 1, 8, [.nilFunc], false⟩,
  ⟨.other, 1, 8, [.nilFunc], false⟩,
  ⟨.other, 1, 8, [.nilFunc], false⟩,
  ⟨.other, 1, 8, [.nilFunc], false⟩,
  ⟨.other, 1, 8, [.nilFunc], false⟩,
  ⟨.other, 1, 8, [.nilFunc], false⟩,
  ⟨.sl 5, 1, 24, [.slice none 0 0], false⟩,
  ⟨.other, 1, 8, [.nilFunc], false⟩,
  ⟨.other, 1, 8, [.nilFunc], false⟩,
  ⟨.other, 1, 8, [.nilFunc], false⟩,
  ⟨.other, 1, 8, [.nilFunc], false⟩,
  ⟨.other, 1, 8, [.nilFunc], false⟩,
  ⟨.other, 1, 8, [.nilFunc], false⟩,
  ⟨.other, 1, 8, [.nilFunc], false⟩,
  ⟨.other, 1, 8, [.nilFunc], false⟩,
  ⟨.other, 1, 8, [.nilFunc], false⟩,
  ⟨.other, 1, 8, [.nilFunc], false⟩,
  ⟨.other, 1, 8, [.nilFunc], false⟩,
  badT,
  ⟨.int .u64, 1, 8, [.int .u64 0], false⟩,
  ⟨.other, 1, 8, [.nilFunc], false⟩,
  ⟨.other, 1, 8, [.nilFunc], false⟩,
  badT,
  ⟨.other, 1, 8, [.nilFunc], false⟩,
  ⟨.other, 1, 8, [.nilFunc], false⟩,
  ⟨.other, 1, 8, [.nilFunc], false⟩,
  ⟨.int .i64, 1, 8, [.int .i64 0], false⟩,
  badT,
  ⟨.other, 1, 8, [.nilFunc], false⟩,
  ⟨.other, 1, 8, [.nilFunc], false⟩,
  ⟨.other, 1, 8, [.nilFunc], false⟩,
  ⟨.other, 1, 8, [.nilFunc], false⟩,
  ⟨.other, 1, 8, [.nilFunc], false⟩,
  ⟨.int .u32, 1, 4, [.int .u32 0], false⟩,
  ⟨.other, 1, 8, [.nilFunc], false⟩,
  ⟨.other, 1, 8, [.nilFunc], false⟩,
  badT,
  badT,
  ⟨.other, 1, 8, [.nilFunc], false⟩,
  ⟨.int .u64, 1, 8, [.int .u64 0], false⟩,
  ⟨.other, 1, 8, [.nilFunc], false⟩,
  ⟨.other, 1, 8, [.nilFunc], false⟩,
  ⟨.other, 1, 8, [.nilFunc], false⟩,
  ⟨.ptr 3, 1, 8, [.pointer none], false⟩,
  ⟨.other, 1, 8, [.nilFunc], false⟩,
  ⟨.ptr 152, 1, 8, [.pointer none], false⟩,
  badT,
  ⟨.other, 1, 8, [.nilFunc], false⟩,
  badT,
  badT,
  ⟨.other, 1, 8, [.nilFunc], false⟩,
  ⟨.struct [(0, 1), (1, 1), (2, 1), (3, 1)], 4, 40, [.pointer none, .pointer none, .pointer none, .string ⟨#[]⟩], false⟩,
  ⟨.struct [(0, 1), (1, 1), (2, 1), (3, 1)], 4, 40, [.pointer none, .pointer none, .pointer none, .string ⟨#[]⟩], false⟩,
  badT,
  ⟨.struct [(0, 0)], 0, 0, [], false⟩,
  ⟨.struct [(0, 0)], 0, 0, [], false⟩,
  ⟨.other, 1, 8, [.nilFunc], false⟩,
  ⟨.int .u8, 1, 1, [.int .u8 0], false⟩,
  ⟨.int .u8, 1, 1, [.int .u8 0], false⟩,
  ⟨.other, 1, 8, [.nilFunc], false⟩,
  ⟨.ptr 5, 1, 8, [.pointer none], false⟩,
  ⟨.int .i32, 1, 4, [.int .i32 0], false⟩,
  ⟨.int .i32, 1, 4, [.int .i32 0], false⟩,
  ⟨.struct [(0, 1), (1, 1), (2, 1), (3, 1), (4, 1), (5, 1), (6, 1), (7, 1), (8, 1), (9, 1), (10, 1)], 11, 48, [.int .u64 0, .int .u64 0, .int .u32 0, .int .u8 0, .int .u8 0, .int .u8 0, .int .u8 0, .nilFunc, .pointer none, .int .i32 0, .int .i32 0], false⟩,
  ⟨.struct [(0, 1), (1, 1), (2, 1), (3, 1), (4, 1), (5, 1), (6, 1), (7, 1), (8, 1), (9, 1), (10, 1)], 11, 48, [.int .u64 0, .int .u64 0, .int .u32 0, .int .u8 0, .int .u8 0, .int .u8 0, .int .u8 0, .nilFunc, .pointer none, .int .i32 0, .int .i32 0], false⟩,
  ⟨.other, 1, 8, [.pointer none], false⟩]
def tab : Nat → TI := nth badT tabL
theorem tabOk : TabOk Tryz.prog tab := tabOk_of (by kernel_rfl) (by kernel_rfl)
end Go.Eng
