/- A concrete evaluator of the program's code over a memory of its own: definitions alone. The concrete evaluator: what its values and memory stand for. The concrete evaluator: its memory and the machine's. -/
import Derived.Test.YtkgiopdkhhinoaaGreatDoorXa
set_option linter.all false
namespace Go.Z
open Go.Eng (TI TD DV nth upd slice' splice)
noncomputable section
inductive Tri (α : Type) where
  | e
  | n (v : Option α) (c0 c1 c2 c3 c4 c5 c6 c7 : Tri α)
inductive Pa where
  | h
  | d0 (p : Pa)
  | d1 (p : Pa)
  | d2 (p : Pa)
  | d3 (p : Pa)
  | d4 (p : Pa)
  | d5 (p : Pa)
  | d6 (p : Pa)
  | d7 (p : Pa)
def dig (d : Nat) (p : Pa) : Pa := bif Nat.beq d 0 then .d0 p else bif Nat.beq d 1 then .d1 p else bif Nat.beq d 2 then .d2 p else bif Nat.beq d 3 then .d3 p else bif Nat.beq d 4 then .d4 p else bif Nat.beq d 5 then .d5 p else bif Nat.beq d 6 then .d6 p else .d7 p
def pathF (m : Nat) : Nat -> Pa := @Nat.rec (fun _ => Nat -> Pa) (fun _ => .h) (fun _ ih i => bif Nat.beq i 0 then .h else dig (Nat.mod (Nat.pred i) 8) (ih (Nat.div (Nat.pred i) 8))) m
def pathOf (i : Nat) : Pa := pathF (Nat.succ i) i
noncomputable def getP {α : Type} (p : Pa) : Tri α -> Option α := @Pa.rec (fun _ => Tri α -> Option α)
  (fun t => @Tri.casesOn α (fun _ => Option α) t none (fun v c0 c1 c2 c3 c4 c5 c6 c7 => v))
  (fun _ ih t => @Tri.casesOn α (fun _ => Option α) t none (fun v c0 c1 c2 c3 c4 c5 c6 c7 => ih c0))
  (fun _ ih t => @Tri.casesOn α (fun _ => Option α) t none (fun v c0 c1 c2 c3 c4 c5 c6 c7 => ih c1))
  (fun _ ih t => @Tri.casesOn α (fun _ => Option α) t none (fun v c0 c1 c2 c3 c4 c5 c6 c7 => ih c2))
  (fun _ ih t => @Tri.casesOn α (fun _ => Option α) t none (fun v c0 c1 c2 c3 c4 c5 c6 c7 => ih c3))
  (fun _ ih t => @Tri.casesOn α (fun _ => Option α) t none (fun v c0 c1 c2 c3 c4 c5 c6 c7 => ih c4))
  (fun _ ih t => @Tri.casesOn α (fun _ => Option α) t none (fun v c0 c1 c2 c3 c4 c5 c6 c7 => ih c5))
  (fun _ ih t => @Tri.casesOn α (fun _ => Option α) t none (fun v c0 c1 c2 c3 c4 c5 c6 c7 => ih c6))
  (fun _ ih t => @Tri.casesOn α (fun _ => Option α) t none (fun v c0 c1 c2 c3 c4 c5 c6 c7 => ih c7)) p
noncomputable def setP {α : Type} (w : Option α) (p : Pa) : Tri α -> Tri α := @Pa.rec (fun _ => Tri α -> Tri α)
  (fun t => @Tri.casesOn α (fun _ => Tri α) t (.n w .e .e .e .e .e .e .e .e) (fun v c0 c1 c2 c3 c4 c5 c6 c7 => .n w c0 c1 c2 c3 c4 c5 c6 c7))
  (fun _ ih t => @Tri.casesOn α (fun _ => Tri α) t (.n none (ih .e) .e .e .e .e .e .e .e) (fun v c0 c1 c2 c3 c4 c5 c6 c7 => .n v (ih c0) c1 c2 c3 c4 c5 c6 c7))
  (fun _ ih t => @Tri.casesOn α (fun _ => Tri α) t (.n none .e (ih .e) .e .e .e .e .e .e) (fun v c0 c1 c2 c3 c4 c5 c6 c7 => .n v c0 (ih c1) c2 c3 c4 c5 c6 c7))
  (fun _ ih t => @Tri.casesOn α (fun _ => Tri α) t (.n none .e .e (ih .e) .e .e .e .e .e) (fun v c0 c1 c2 c3 c4 c5 c6 c7 => .n v c0 c1 (ih c2) c3 c4 c5 c6 c7))
  (fun _ ih t => @Tri.casesOn α (fun _ => Tri α) t (.n none .e .e .e (ih .e) .e .e .e .e) (fun v c0 c1 c2 c3 c4 c5 c6 c7 => .n v c0 c1 c2 (ih c3) c4 c5 c6 c7))
  (fun _ ih t => @Tri.casesOn α (fun _ => Tri α) t (.n none .e .e .e .e (ih .e) .e .e .e) (fun v c0 c1 c2 c3 c4 c5 c6 c7 => .n v c0 c1 c2 c3 (ih c4) c5 c6 c7))
  (fun _ ih t => @Tri.casesOn α (fun _ => Tri α) t (.n none .e .e .e .e .e (ih .e) .e .e) (fun v c0 c1 c2 c3 c4 c5 c6 c7 => .n v c0 c1 c2 c3 c4 (ih c5) c6 c7))
  (fun _ ih t => @Tri.casesOn α (fun _ => Tri α) t (.n none .e .e .e .e .e .e (ih .e) .e) (fun v c0 c1 c2 c3 c4 c5 c6 c7 => .n v c0 c1 c2 c3 c4 c5 (ih c6) c7))
  (fun _ ih t => @Tri.casesOn α (fun _ => Tri α) t (.n none .e .e .e .e .e .e .e (ih .e)) (fun v c0 c1 c2 c3 c4 c5 c6 c7 => .n v c0 c1 c2 c3 c4 c5 c6 (ih c7))) p
noncomputable def Tri.get {α : Type} (t : Tri α) (i : Nat) : Option α := getP (pathOf i) t
noncomputable def Tri.set {α : Type} (t : Tri α) (i : Nat) (v : Option α) : Tri α := setP v (pathOf i) t
noncomputable def lfold {α σ : Type} (f : α -> σ -> Option σ) (l : List α) : σ -> Option σ :=
  @List.rec α (fun _ => σ -> Option σ) (fun s => some s) (fun a _ ih s => match f a s with
    | some s => ih s
    | none => none) l
inductive ZV where
  | int (k : IntKind) (n : Int)
  | bool (b : Bool)
  | str (l n : Nat)
  | ptr (j o : Nat)
  | sl (sz j o n : Nat) (c : Option Nat)
  | mp (j : Nat)
  | fn (f : Nat) (fs caps : List ZV)
  | yl (j : Nat)
  | ifc (t : Nat) (v : ZV)
  | agg (l : List ZV)
  | tup (l : List ZV)
  | raw (v : Value)
  | dsl (sz : Nat) (l : List (List DV))
  | dpt (sz : Nat) (l : List (List DV)) (i off : Nat)
  /- a value that is not known -/
  | any
structure ZEnt where
  key : ZV
  val : ZV
  born : Nat
inductive ZJ where
  | normal
  | exit (id : Nat)
  | goto (l : Nat)
  | ret
inductive ZO where
  | cells (T lo n : Nat) (d : Tri ZV)
  | ro (T lo n : Nat) (d : Tri ZV)
  | map (clock : Nat) (es : List ZEnt)
  | umap (es : List ZEnt)
  | siter (l n pos : Nat)
  | miter (j : Nat)
  | loop (p : Option ZJ) (t : Tri ZV) (nt : Nat) (ps : List Nat) (a b : Code)
structure FI where
  code : Code
  res : List ResultVar
  nt : Nat
structure Env where
  tab : Nat -> TI
  fnT : Nat -> Option FI
  noI : Nat -> Bool
  isI : Nat -> Bool
  isF : Nat -> Bool
  ups : Nat -> Bool
  lies : Nat -> Nat -> Nat -> Nat -> Bool
  row8 : Nat -> Nat -> Bool
  ext : Nat -> Nat
  fty : Nat -> Nat -> Nat
def zundef : ZV := .raw undef
def zstrN (l : List UInt8) : Nat := l.foldl (fun n c => n * 256 + c.toNat) 0
def zofS (b : ByteArray) : ZV := .str b.size (zstrN b.data.toList)
def zbyte (l n i : Nat) : Nat := Nat.mod (Nat.div n (Nat.pow 256 (l - 1 - i))) 256
def zsub (l n a b : Nat) : Nat := Nat.mod (Nat.div n (Nat.pow 256 (l - b))) (Nat.pow 256 (b - a))
def zcat (l n l' n' : Nat) : Nat := n * Nat.pow 256 l' + Nat.mod n' (Nat.pow 256 l')
def zok (l n : Nat) : Bool := Nat.blt n (Nat.pow 256 l)
def zeqS (l n l' n' : Nat) : Option Bool :=
  match zok l n, zok l' n' with
  | true, true => match Nat.beq l l' with
    | true => some (Nat.beq n n')
    | false => some false
  | _, _ => none
def zltS (l n l' n' : Nat) : Option Bool :=
  match zok l n, zok l' n' with
  | true, true => match Nat.blt l l' with
    | true => some (Nat.ble n (Nat.div n' (Nat.pow 256 (l' - l))))
    | false => some (Nat.blt (Nat.div n (Nat.pow 256 (l - l'))) n')
  | _, _ => none
def zscal : Value -> ZV
  | .int k n => .int k n
  | .bool b => .bool b
  | .string s => zofS s
  | v => .raw v
def zofV : Value -> ZV
  | .int k n => .int k n
  | .bool b => .bool b
  | .string s => zofS s
  | .agg cs => .agg (cs.toList.map zscal)
  | .tuple cs => match cs.toList with
    | [] => .tup []
    | _ => .raw (.tuple cs)
  | v => .raw v
def zrd (t : Tri ZV) (o : Operand) : ZV :=
  match o with
  | .tmp i => match t.get i with
    | some v => v
    | none => zundef
  | .const v => zofV v
  | .func f => .fn f [] []
  | .global g => .raw (.pointer (some ⟨g, 0, none⟩))
def zcells : ZV -> List ZV
  | .agg l => l
  | v => [v]
def zone : ZV -> Bool
  | .agg _ => false
  | .tup _ => false
  | .raw v => v.oneCell'
  | .any => false
  | _ => true
def zones (l : List ZV) : Bool := l.all zone
def DV.toZV : DV -> ZV
  | .int k n => .int k n
  | .bool b => .bool b
  | .str s => zofS s
  | .sl sz l => .dsl sz l
  | .raw v => .raw v
inductive ZR where
  | ok (v : ZV) (M : Tri ZO) (n : Nat)
  | call (f : Nat) (args : List ZV)
  | yld (j : Nat) (args : List ZV)
  | dfr (f : Nat) (args : List ZV)
  | rcv
  | bad (why : Nat)
abbrev ZF := Tri ZO -> Nat -> ZR
def zret (v : ZV) : ZF := fun M n => .ok v M n
def zbad (w : Nat) : ZF := fun _ _ => .bad w
def zwhen (b : Bool) (k : ZF) : ZF := match b with
  | true => k
  | false => zbad 1
def cellsGo (d : Tri ZV) : Nat -> Nat -> Option (List ZV)
  | _, 0 => some []
  | i, k + 1 => match d.get i, cellsGo d (Nat.succ i) k with
    | some v, some l => some (v :: l)
    | _, _ => none
def putGo : List ZV -> Nat -> Tri ZV -> Tri ZV
  | [], _, d => d
  | v :: l, i, d => putGo l (Nat.succ i) (d.set i (some v))
def triOf (l : List ZV) : Tri ZV := putGo l 0 .e
def znew (T : Nat) (l : List ZV) (k : Nat -> ZV) : ZF := fun M n => .ok (k n) (M.set n (some (.cells T 0 l.length (triOf l)))) (Nat.succ n)
def zaggD : TD -> Bool
  | .struct _ => true
  | _ => false
def zbadT : TD -> Bool
  | .bad => true
  | _ => false
def zread : Option ZO -> Option (Nat × Nat × Nat × Tri ZV)
  | some (.cells T lo m d) => some (T, lo, m, d)
  | some (.ro T lo m d) => some (T, lo, m, d)
  | _ => none
def zload (i : TI) (p : ZV) : ZF := fun M n =>
  match p with
  | .ptr j o => match zread (M.get j) with
    | some (_, lo, m, d) => match Nat.ble lo o, zaggD i.d with
      | true, true => match Nat.ble (o + i.size) m, cellsGo d o i.size with
        | true, some l => .ok (.agg l) M n
        | _, _ => .bad 10
      | true, false => match Nat.blt o m, d.get o with
        | true, some v => .ok v M n
        | _, _ => .bad 11
      | false, _ => .bad 12
    | _ => .bad 13
  | .dpt _ l ix off => match l[ix]? with
    | some r => match zaggD i.d with
      | true => match Nat.ble (off + i.size) r.length with
        | true => .ok (.agg ((slice' r off i.size).map DV.toZV)) M n
        | false => .bad 14
      | false => match r[off]? with
        | some v => .ok (DV.toZV v) M n
        | none => .bad 15
    | none => .bad 16
  | _ => .bad 17
def zstore (i : TI) (p v : ZV) : ZF := fun M n =>
  match p with
  | .ptr j o => match M.get j with
    | some (.cells T lo m d) => match Nat.ble lo o, Nat.ble (o + i.size) m, Nat.beq (zcells v).length i.size, zones (zcells v) with
      | true, true, true, true => .ok zundef (M.set j (some (.cells T lo m (putGo (zcells v) o d)))) n
      | _, _, _, _ => .bad 20
    | _ => .bad 21
  | _ => .bad 22
def zltI (a b : Int) : Bool :=
  match b - a with
  | .ofNat n => Nat.blt 0 n
  | .negSucc _ => false
def zeqI (a b : Int) : Bool :=
  match a, b with
  | .ofNat n, .ofNat m => Nat.beq n m
  | .negSucc n, .negSucc m => Nat.beq n m
  | _, _ => false
def zwrap (k : IntKind) (n : Int) : Int := k.wrap n
def zint (op : BinOp) (k : IntKind) (a b : Int) : ZF :=
  match op with
  | .add => zret (.int k (zwrap k (a + b)))
  | .sub => zret (.int k (zwrap k (a - b)))
  | .mul => zret (.int k (zwrap k (a * b)))
  | .quo => zwhen (!zeqI b 0) (zret (.int k (zwrap k (a.tdiv b))))
  | .rem => zwhen (!zeqI b 0) (zret (.int k (a.tmod b)))
  | .and => zret (.int k (k.wrap (BitVec.ofInt k.bits a &&& BitVec.ofInt k.bits b).toNat))
  | .or => zret (.int k (k.wrap (BitVec.ofInt k.bits a ||| BitVec.ofInt k.bits b).toNat))
  | .xor => zret (.int k (k.wrap (BitVec.ofInt k.bits a ^^^ BitVec.ofInt k.bits b).toNat))
  | .eql => zret (.bool (zeqI a b))
  | .neq => zret (.bool (!zeqI a b))
  | .lss => zret (.bool (zltI a b))
  | .leq => zret (.bool (!zltI b a))
  | .gtr => zret (.bool (zltI b a))
  | .geq => zret (.bool (!zltI a b))
  | _ => zbad 30
def zshift (op : BinOp) (k : IntKind) (a b : Int) : ZF :=
  match b, op with
  | .ofNat m, .shl => zret (.int k (k.wrap (a * 2 ^ (min m k.bits))))
  | .ofNat m, .shr => zret (.int k (a.fdiv (2 ^ (min m k.bits))))
  | _, _ => zbad 31
def isShift : BinOp -> Bool
  | .shl => true
  | .shr => true
  | _ => false
def zbool (o : Option Bool) (k : Bool -> Bool) : ZF :=
  match o with
  | some b => zret (.bool (k b))
  | none => zbad 32
def zorO : Option Bool -> Option Bool -> Option Bool
  | some a, some b => some (a || b)
  | _, _ => none
def zstrOp (op : BinOp) (l n l' n' : Nat) : ZF :=
  match op with
  | .add => zwhen (Nat.blt (l + l') 9223372036854775807) (zret (.str (l + l') (zcat l n l' n')))
  | .eql => zbool (zeqS l n l' n') id
  | .neq => zbool (zeqS l n l' n') not
  | .lss => zbool (zltS l n l' n') id
  | .leq => zbool (zorO (zltS l n l' n') (zeqS l n l' n')) id
  | .gtr => zbool (zorO (zltS l n l' n') (zeqS l n l' n')) not
  | .geq => zbool (zltS l n l' n') not
  | _ => zbad 33
def znil : ZV -> Option Bool
  | .raw (.pointer none) => some true
  | .raw (.slice none 0 0) => some true
  | .raw (.map none) => some true
  | .raw .nilFunc => some true
  | .raw .nilIface => some true
  | .ptr _ _ => some false
  | .dpt _ _ _ _ => some false
  | .sl _ _ _ _ _ => some false
  | .dsl _ (_ :: _) => some false
  | .mp _ => some false
  | .fn _ _ _ => some false
  | .yl _ => some false
  | .ifc _ _ => some false
  | _ => none
def znilK (E : Env) (T : Nat) : ZV -> Bool
  | .raw (.pointer none) => match (E.tab T).d with
    | .ptr _ => true
    | _ => false
  | .raw (.slice none 0 0) => match (E.tab T).d with
    | .sl _ => true
    | _ => false
  | .raw (.map none) => match (E.tab T).d with
    | .map _ _ => true
    | _ => false
  | .raw .nilFunc => E.isF T
  | .raw .nilIface => E.isI T
  | _ => false
def znilOf (y x : ZV) (cy : Bool) : Option Bool :=
  match y, x with
  | .raw (.pointer none), .raw (.pointer none) => some true
  | .raw (.pointer none), .ptr _ _ => some false
  | .raw (.pointer none), .dpt _ _ _ _ => some false
  | .raw (.slice none 0 0), .raw (.slice none 0 0) => some true
  | .raw (.slice none 0 0), .sl _ _ _ _ _ => some false
  | .raw (.slice none 0 0), .dsl _ (_ :: _) => some false
  | .raw (.map none), .raw (.map none) => some true
  | .raw (.map none), .mp _ => some false
  | .raw .nilFunc, .raw .nilFunc => some true
  | .raw .nilFunc, .fn _ _ _ => some false
  | .raw .nilFunc, .yl _ => some false
  | .raw .nilIface, .raw .nilIface => match cy with
    | true => some true
    | false => none
  | .raw .nilIface, .ifc _ _ => some false
  | _, _ => none
def zeqL : List ZV -> List ZV -> Option Bool
  | [], [] => some true
  | .int _ a :: l, .int _ b :: m => match zeqL l m with
    | some c => some (zeqI a b && c)
    | none => none
  | .str a b :: l, .str c d :: m => match zeqS a b c d, zeqL l m with
    | some x, some y => some (x && y)
    | _, _ => none
  | _, _ => none
def zalike : List Value -> List ZV -> Bool
  | [], [] => true
  | .int k _ :: zs, .int k' _ :: l => match decide (k = k') with
    | true => zalike zs l
    | false => false
  | .string _ :: zs, .str _ _ :: l => zalike zs l
  | _, _ => false
def zeqOp (op : BinOp) (b : Option Bool) : ZF :=
  match op with
  | .eql => zbool b id
  | .neq => zbool b not
  | _ => zbad 34
def zbin (E : Env) (T : Nat) (op : BinOp) (cy : Bool) (x y : ZV) : ZF :=
  match x, y with
  | .int k a, .int k' b => match isShift op with
    | true => zshift op k a b
    | false => match decide (k = k') with
      | true => zint op k a b
      | false => zbad 35
  | .str l n, .str l' n' => zstrOp op l n l' n'
  | .bool a, .bool b => match (E.tab T).d with
    | .bool => zeqOp op (some (a == b))
    | _ => zbad 36
  | .agg l, .agg m => match (E.tab T).d, (E.tab T).eq, zalike (E.tab T).zero l, zalike (E.tab T).zero m with
    | .struct _, true, true, true => zeqOp op (zeqL l m)
    | _, _, _, _ => zbad 37
  | .ptr j o, .ptr j' o' => match (E.tab T).d with
    | .ptr e => zwhen (!zbadT (E.tab e).d && Nat.blt 0 (E.tab e).size) (zwhen (Nat.beq j j') (zwhen (Nat.beq o o') (zeqOp op (some true))))
    | _ => zbad 39
  | x, y => zwhen (znilK E T y) (zeqOp op (znilOf y x cy))
def zun (op : UnOp) (v : ZV) : ZF :=
  match op, v with
  | .not, .bool b => zret (.bool !b)
  | .neg, .int k a => zret (.int k (k.wrap (0 - a)))
  | _, _ => zbad 40
def zfieldOff (i : TI) (f : Nat) : Nat × Nat :=
  match i.d with
  | .struct os => nth (0, 0) os f
  | _ => (0, 0)
def zplaces (i : TI) : List (Nat × ZV) -> List ZV -> Option (List ZV)
  | [], c => some c
  | (f, v) :: ps, c =>
    match Nat.beq (zcells v).length (zfieldOff i f).2, Nat.blt 0 (zfieldOff i f).2, Nat.ble ((zfieldOff i f).1 + (zfieldOff i f).2) c.length, zones (zcells v) with
    | true, true, true, true => zplaces i ps (splice c (zfieldOff i f).1 (zcells v))
    | _, _, _, _ => none
def zbuild (i : TI) (ps : List (Nat × ZV)) : ZF :=
  match i.d with
  | .struct _ => (match zplaces i ps (i.zero.map zofV) with
    | some c => zret (.agg c)
    | none => zbad 41)
  | _ => zbad 42
def zdense (sz : Nat) : Nat -> List (Nat × ZV) -> Option (List ZV)
  | _, [] => some []
  | m, (i, v) :: l => match Nat.beq i m, Nat.beq (zcells v).length sz, zones (zcells v), zdense sz (Nat.succ m) l with
    | true, true, true, some rs => some (zcells v ++ rs)
    | _, _, _, _ => none
def zelem (E : Env) (T : Nat) (k : Nat -> TI -> ZF) : ZF := fun M n =>
  match (E.tab T).d with
  | .sl e => match zbadT (E.tab e).d, Nat.blt 0 (E.tab e).size, Nat.beq (E.tab e).zero.length (E.tab e).size with
    | false, true, true => k e (E.tab e) M n
    | _, _, _ => .bad 43
  | _ => .bad 44
def zbuildSlice (E : Env) (T m : Nat) (ps : List (Nat × ZV)) : ZF :=
  zelem E T fun e i M n => match zdense i.size 0 ps, Nat.beq ps.length m, Nat.blt (m * i.size) 10000 with
    | some l, true, true => znew e l (fun j => .sl i.size j 0 m (some m)) M n
    | _, _, _ => .bad 45
def zrep : Nat -> List ZV -> List ZV -> List ZV
  | 0, _, acc => acc
  | k + 1, z, acc => zrep k z (z ++ acc)
def zmakeSlice (E : Env) (T : Nat) (vn vc : ZV) : ZF :=
  match vn, vc with
  | .int .i64 (.ofNat a), .int .i64 (.ofNat b) => match Nat.ble a b, Nat.ble b 100000 with
    | true, true => zelem E T fun e i => zwhen (Nat.ble i.bytes 100000 && zones (i.zero.map zofV)) (znew e (zrep b (i.zero.map zofV) []) fun j => .sl i.size j 0 a (some b))
    | _, _ => zbad 47
  | _, _ => zbad 48
def znatO : Option ZV -> Option (Option Nat)
  | none => some none
  | some (.int _ (.ofNat a)) => some (some a)
  | _ => none
def zbounds (l : Nat) (c : Option Nat) (lo hi mx : Option Nat) : Option (Nat × Nat × Option Nat) :=
  match lo.getD 0, hi, mx with
  | a, none, none => match Nat.ble a l with
    | true => some (a, l, c.map (· - a))
    | false => none
  | a, some b, none => match Nat.ble a b, Nat.ble b (c.getD l) with
    | true, true => some (a, b, c.map (· - a))
    | _, _ => none
  | a, some b, some m => match Nat.ble a b, Nat.ble b m, Nat.ble m (c.getD l) with
    | true, true, true => some (a, b, some (m - a))
    | _, _, _ => none
  | _, none, some _ => none
def zslice (E : Env) (T : Nat) (v : ZV) (lo hi mx : Option ZV) : ZF :=
  match znatO lo, znatO hi, znatO mx with
  | some lo, some hi, some mx => match (E.tab T).d, v with
    | .str, .str l n => match mx, zbounds l none lo hi none with
      | none, some (a, b, _) => zret (.str (b - a) (zsub l n a b))
      | _, _ => zbad 49
    | .sl _, .sl sz j o m c => zelem E T fun _ i M n => match Nat.beq i.size sz, zbounds m c lo hi mx with
      | true, some (a, b, c') => .ok (.sl sz j (o + a * sz) (b - a) c') M n
      | _, _ => .bad 50
    | .sl _, .dsl sz l => zelem E T fun _ i M n => match Nat.beq i.size sz, zbounds l.length none lo hi none, mx with
      | true, some (a, b, _), none => .ok (.dsl sz ((l.take b).drop a)) M n
      | _, _, _ => .bad 51
    | .sl _, .raw (.slice none 0 0) => zelem E T fun _ _ M n => match zbounds 0 (some 0) lo hi mx with
      | some _ => .ok (.raw (.slice none 0 0)) M n
      | none => .bad 52
    | _, _ => zbad 53
  | _, _, _ => zbad 54
def zfieldAddr (i : TI) (p : ZV) (f : Nat) : ZF :=
  match Nat.blt 0 (zfieldOff i f).2, p with
  | true, .ptr j o => zret (.ptr j (o + (zfieldOff i f).1))
  | true, .dpt sz l ix o => zret (.dpt sz l ix (o + (zfieldOff i f).1))
  | _, _ => zbad 55
def zfield (i : TI) (ti : TI) (v : ZV) (f : Nat) : ZF :=
  match v with
  | .agg l => zwhen (Nat.blt 0 (zfieldOff i f).2 && !zbadT ti.d) fun M n => match Nat.ble ((zfieldOff i f).1 + (zfieldOff i f).2) l.length, zaggD ti.d with
    | true, true => .ok (.agg (slice' l (zfieldOff i f).1 (zfieldOff i f).2)) M n
    | true, false => match l[(zfieldOff i f).1]? with
      | some v => .ok v M n
      | none => .bad 56
    | _, _ => .bad 57
  | _ => zbad 58
def zindexAddr (E : Env) (T : Nat) (v ix : ZV) : ZF :=
  match ix with
  | .int _ (.ofNat k) => match v with
    | .sl sz j o m _ => zelem E T fun _ i M n => match Nat.beq i.size sz, Nat.blt k m with
      | true, true => .ok (.ptr j (o + k * sz)) M n
      | _, _ => .bad 60
    | .dsl sz l => zelem E T fun _ i M n => match Nat.beq i.size sz, Nat.blt k l.length with
      | true, true => .ok (.dpt sz l k 0) M n
      | _, _ => .bad 61
    | _ => zbad 62
  | _ => zbad 63
def zindex (i : TI) (v ix : ZV) : ZF :=
  match i.d, v, ix with
  | .str, .str l n, .int _ (.ofNat k) => zwhen (Nat.blt k l) (zret (.int .u8 (.ofNat (zbyte l n k))))
  | _, _, _ => zbad 64
def zkeyEq : ZV -> ZV -> Option Bool
  | .str l n, .str l' n' => zeqS l n l' n'
  | .int k a, .int k' b => match decide (k = k') with
    | true => some (zeqI a b)
    | false => none
  | _, _ => none
def zkeyOk : TD -> ZV -> Bool
  | .str, .str _ _ => true
  | .int k, .int k' _ => decide (k = k')
  | _, _ => false
def zfind (k : ZV) : List ZEnt -> Nat -> Option (Option (Nat × ZEnt))
  | [], _ => some none
  | e :: es, i => match zkeyEq k e.key with
    | some true => some (some (i, e))
    | some false => zfind k es (Nat.succ i)
    | none => none
def zmap (E : Env) (T : Nat) (k : Nat -> TI -> ZF) : ZF := fun M n =>
  match (E.tab T).d with
  | .map kt e => match zbadT (E.tab e).d, zbadT (E.tab kt).d with
    | false, false => k kt (E.tab e) M n
    | _, _ => .bad 70
  | _ => .bad 71
def zzero (i : TI) : ZV :=
  match zaggD i.d, i.zero with
  | true, l => .agg (l.map zofV)
  | false, [v] => zofV v
  | _, _ => .raw undef
def zpack (ok : Bool) (v : ZV) (b : Bool) : ZV :=
  match ok with
  | true => .tup [v, .bool b]
  | false => v
def zents : ZO -> Option (List ZEnt)
  | .map _ es => some es
  | .umap es => some es
  | _ => none
def zlookup (E : Env) (T : Nat) (m k : ZV) (ok : Bool) : ZF :=
  zmap E T fun kt i => zwhen (zkeyOk (E.tab kt).d k) (zwhen (zaggD i.d || Nat.beq i.zero.length 1) fun M n => match m with
    | .mp j => match M.get j with
      | some o => match zents o with
        | some es => match zfind k es 0 with
          | some (some (_, e)) => .ok (zpack ok e.val true) M n
          | some none => .ok (zpack ok (zzero i) false) M n
          | none => .bad 72
        | none => .bad 70
      | none => .bad 73
    | .raw (.map none) => .ok (zpack ok (zzero i) false) M n
    | _ => .bad 74)
def zmapSet (k v : ZV) : ZO -> Option ZO
  | .map c es => match zfind k es 0 with
    | some (some (i, e)) => some (.map c (es.set i ⟨k, v, e.born⟩))
    | some none => some (.map (Nat.succ c) (es ++ [⟨k, v, c⟩]))
    | none => none
  | .umap es => match zfind k es 0 with
    | some (some (i, e)) => some (.umap (es.set i ⟨k, v, e.born⟩))
    | some none => some (.umap (⟨k, v, 0⟩ :: es))
    | none => none
  | _ => none
def zmapPut (E : Env) (T : Nat) (m k v : ZV) : ZF :=
  zmap E T fun kt _ => zwhen (zkeyOk (E.tab kt).d k) fun M n => match m with
    | .mp j => match M.get j with
      | some o => match zmapSet k v o with
        | some o => .ok zundef (M.set j (some o)) n
        | none => .bad 75
      | _ => .bad 76
    | _ => .bad 77
def zmapEntry (E : Env) (T : Nat) (m k : ZV) : ZF :=
  zmap E T fun kt i => zwhen (zkeyOk (E.tab kt).d k) (zwhen (zaggD i.d || Nat.beq i.zero.length 1) fun M n => match m with
    | .mp j => match M.get j with
      | some (.map c es) => match zfind k es 0 with
        | some (some (p, e)) => .ok (.tup [e.val, .int .i64 (.ofNat e.born)]) (M.set j (some (.map c (es.set p ⟨k, e.val, e.born⟩)))) n
        | some none => .ok (.tup [zzero i, .int .i64 (.ofNat c)]) (M.set j (some (.map (Nat.succ c) (es ++ [⟨k, zzero i, c⟩])))) n
        | none => .bad 78
      | _ => .bad 79
    | _ => .bad 80)
def zborn (b : Nat) : List ZEnt -> Nat -> Option (Nat × ZEnt)
  | [], _ => none
  | e :: es, i => match Nat.beq e.born b with
    | true => some (i, e)
    | false => zborn b es (Nat.succ i)
def zentryStore (m s v : ZV) : ZF := fun M n =>
  match m, s with
  | .mp j, .int .i64 (.ofNat b) => match M.get j with
    | some (.map c es) => match zborn b es 0 with
      | some (i, e) => .ok zundef (M.set j (some (.map c (es.set i ⟨e.key, v, e.born⟩)))) n
      | none => .bad 81
    | _ => .bad 82
  | _, _ => .bad 83
def zlen (i : TI) (x : ZV) : ZF :=
  match i.d, x with
  | .sl _, .sl _ _ _ m _ => zret (.int .i64 (.ofNat m))
  | .sl _, .dsl _ l => zret (.int .i64 (.ofNat l.length))
  | .sl _, .raw (.slice none 0 0) => zret (.int .i64 0)
  | .str, .str l _ => zret (.int .i64 (.ofNat l))
  | .map _ _, .mp j => fun M n => match M.get j with
    | some (.map _ es) => .ok (.int .i64 (.ofNat es.length)) M n
    | _ => .bad 84
  | .map _ _, .raw (.map none) => zret (.int .i64 0)
  | _, _ => zbad 85
def zbytesL (l n : Nat) : Nat -> List ZV -> List ZV
  | 0, acc => acc
  | k + 1, acc => zbytesL l n k (.int .u8 (.ofNat (zbyte l n k)) :: acc)
def zsrc (sz : Nat) (x : ZV) (M : Tri ZO) : Option (Nat × List ZV) :=
  match x with
  | .raw (.slice none 0 0) => some (0, [])
  | .sl sz' j o m _ => match Nat.beq sz sz', zread (M.get j) with
    | true, some (_, lo, h, d) => match Nat.ble lo o, Nat.ble (o + m * sz) h, cellsGo d o (m * sz) with
      | true, true, some l => some (m, l)
      | _, _, _ => none
    | _, _ => match m with
      | 0 => some (0, [])
      | _ => none
  | .dsl sz' l => match Nat.beq sz sz' with
    | true => some (l.length, l.flatMap fun r => r.map DV.toZV)
    | false => none
  | .str l n => match Nat.beq sz 1 with
    | true => some (l, zbytesL l n l [])
    | false => none
  | _ => none
def zappendTo (e : Nat) (i : TI) (s : ZV) (m : Nat) (l : List ZV) : ZF := fun M n =>
  match m with
  | 0 => match s with
    | .raw (.slice none 0 0) => .ok s M n
    | .sl _ _ _ _ _ => .ok s M n
    | .dsl _ _ => .ok s M n
    | _ => .bad 89
  | m + 1 => match Nat.ble (m + 1) 1000000 with
    | false => .bad 90
    | true => match s with
      | .raw (.slice none 0 0) => znew e l (fun j => .sl i.size j 0 (m + 1) none) M n
      | .sl sz j o k c => match Nat.beq sz i.size, Nat.ble k 1000000, c with
        | true, true, some c => match Nat.ble (k + (m + 1)) c with
          | true => match M.get j with
            | some (.cells T lo h d) => match Nat.ble lo o, Nat.ble (o + (k + (m + 1)) * sz) h with
              | true, true => .ok (.sl sz j o (k + (m + 1)) (some c)) (M.set j (some (.cells T lo h (putGo l (o + k * sz) d)))) n
              | _, _ => .bad 91
            | _ => .bad 92
          | false => match k with
            | 0 => znew e l (fun j => .sl sz j 0 (m + 1) none) M n
            | k + 1 => match zread (M.get j) with
              | some (_, lo, h, d) => match Nat.ble lo o, Nat.ble (o + (k + 1) * sz) h with
                | true, true => .ok (.sl sz n o (k + 1 + (m + 1)) none) (M.set n (some (.cells e o (o + (k + 1 + (m + 1)) * sz) (putGo l (o + (k + 1) * sz) d)))) (Nat.succ n)
                | _, _ => .bad 93
              | _ => .bad 94
        | true, true, none => match M.get j with
          | some (.cells T lo h d) => match Nat.ble lo o && Nat.beq T e, Nat.beq (o + k * sz) h, Nat.ble (o + (k + (m + 1)) * sz) h with
            | true, true, _ => .ok (.sl sz n o (k + (m + 1)) none) ((M.set j none).set n (some (.cells T o (o + (k + (m + 1)) * sz) (putGo l h d)))) (Nat.succ n)
            | true, false, true => .ok (.sl sz j o (k + (m + 1)) none) (M.set j (some (.cells T lo h (putGo l (o + k * sz) d)))) n
            | _, _, _ => .bad 95
          | _ => .bad 96
        | _, _, _ => .bad 97
      | _ => .bad 99
def zappend (E : Env) (T U : Nat) (s x : ZV) : ZF :=
  zelem E T fun e i => fun M n => match Nat.ble i.bytes 1000, (match (E.tab U).d with
    | .sl _ => Nat.beq T U
    | .str => true
    | _ => false), zsrc i.size x M with
    | true, true, some (m, l) => zappendTo e i s m l M n
    | _, _, _ => .bad 100
def zisStr : ZV -> Bool
  | .str _ _ => true
  | _ => false
def zcopy (E : Env) (T : Nat) (d x : ZV) : ZF :=
  zelem E T fun _ i => fun M n => match d, zsrc i.size x M with
    | .sl sz j o k _, some (m, l) => match Nat.beq sz i.size && !zisStr x, M.get j with
      | true, some (.cells T' lo h c) => match Nat.ble lo o, Nat.ble (o + k * sz) h with
        | true, true => .ok (.int .i64 (.ofNat (Nat.min m k))) (M.set j (some (.cells T' lo h (putGo (l.take (Nat.min m k * sz)) o c)))) n
        | _, _ => .bad 101
      | _, _ => .bad 102
    | _, _ => .bad 103
def zbytesN : List ZV -> Nat -> Option Nat
  | [], n => some n
  | .int .u8 (.ofNat b) :: l, n => match Nat.blt b 256 with
    | true => zbytesN l (n * 256 + b)
    | false => none
  | _, _ => none
def zsliceData (j o : Nat) (c : Option Nat) : ZF := fun M n =>
  match M.get j with
  | some (.cells _ lo m _) => match Nat.ble lo o, Nat.blt o m, c with
    | true, true, none => .ok (.ptr j o) M n
    | _, _, _ => .bad 112
  | _ => .bad 113
def zstringOf (E : Env) (pt j o k : Nat) : ZF := fun M n =>
  match k with
  | 0 => .ok (.str 0 0) M n
  | k + 1 => match M.get j with
    | some (.cells T lo m d) => match E.row8 pt T && Nat.ble k 1000000, Nat.ble lo o && Nat.beq lo 0, Nat.ble (o + (k + 1)) m, cellsGo d o (k + 1) with
      | true, true, true, some l => match zbytesN l 0 with
        | some b => .ok (.str (k + 1) b) (M.set j none) n
        | none => .bad 140
      | _, _, _, _ => .bad 141
    | _ => .bad 142
def zclear (i : TI) (j : Nat) : ZF := fun M n =>
  match i.d with
  | .map _ _ => match M.get j with
    | some (.map c _) => .ok (.tup []) (M.set j (some (.map c []))) n
    | _ => .bad 105
  | _ => .bad 106
def zbuiltin (E : Env) (b : Builtin) (tys : List Nat) (args : List ZV) : ZF :=
  match b, tys, args with
  | .len, [t], [x] => zlen (E.tab t) x
  | .append, [t, u], [s, x] => zappend E t u s x
  | .copy, [t, _], [d, x] => zcopy E t d x
  | .cap, [t], [.sl _ _ _ _ (some c)] => match (E.tab t).d with
    | .sl _ => zret (.int .i64 (.ofNat c))
    | _ => zbad 104
  | .min, _, [.int k a, .int _ b] => zret (.int k (match zltI b a with | true => b | false => a))
  | .max, _, [.int k a, .int _ b] => zret (.int k (match zltI a b with | true => b | false => a))
  | .recover, _, _ => fun _ _ => .rcv
  | .unsafeSliceData, _, [.sl _ j o _ c] => zsliceData j o c
  | .unsafeString, [pt, _], [.ptr j o, .int _ (.ofNat k)] => zstringOf E pt j o k
  | .clear, [t], [.mp j] => zclear (E.tab t) j
  | _, _, _ => zbad 107
def zcmp (l n l' n' : Nat) : ZF :=
  match zltS l n l' n', zltS l' n' l n with
  | some true, _ => zret (.int .i64 (-1))
  | some false, some true => zret (.int .i64 1)
  | some false, some false => zret (.int .i64 0)
  | _, _ => zbad 108
def zcallV (E : Env) (v : ZV) (args : List ZV) : ZF :=
  match v with
  | .fn f fs caps => match E.ext f, fs ++ args ++ caps with
    | 0, l => fun _ _ => .call f l
    | 1, [x] => zret x
    | 2, [.str l n, .str l' n'] => zcmp l n l' n'
    | _, _ => zbad 109
  | .yl j => fun _ _ => .yld j args
  | _ => zbad 110
def zdefer (v : ZV) (args : List ZV) : ZF :=
  match v with
  | .fn f fs caps => fun _ _ => .dfr f (fs ++ args ++ caps)
  | _ => zbad 111
def zconv (E : Env) (S D : Nat) (v : ZV) : ZF :=
  match (E.tab S).d, (E.tab D).d, v with
  | _, .int k, .int _ a => zwhen (!zbadT (E.tab S).d) (zret (.int k (zwrap k a)))
  | _, .str, .str l n => zwhen (!zbadT (E.tab S).d) (zret (.str l n))
  | .sl e, .str, x => match (E.tab e).d with
    | .int .u8 => zwhen (!zisStr x) fun M n => match zsrc 1 x M with
      | some (m, l) => match zbytesN l 0 with
        | some b => .ok (.str m b) M n
        | none => .bad 120
      | none => .bad 121
    | _ => zbad 122
  | .ptr e, .other, .ptr j o => zwhen (E.ups D) (zwhen (!zbadT (E.tab e).d && Nat.blt 0 (E.tab e).size) fun M n => match M.get j with
      | some (.cells _ lo m _) => match Nat.ble lo o, Nat.blt o m with
        | true, true => .ok (.ptr j o) M n
        | _, _ => .bad 119
      | _ => .bad 118)
  | .other, .ptr u, .ptr j o => zwhen (E.ups S) fun M n => match M.get j with
      | some (.cells T lo m _) => match Nat.beq lo 0, E.lies T m o u with
        | true, true => .ok (.ptr j o) M n
        | _, _ => .bad 116
      | _ => .bad 115
  | _, _, _ => zbad 123
def zassert (E : Env) (D : Nat) (v : ZV) (ok : Bool) : ZF :=
  match E.noI D, v with
  | true, .ifc t w => match Nat.beq t D with
    | true => zret (zpack ok w true)
    | false => match ok, zbadT (E.tab D).d, zaggD (E.tab D).d || Nat.beq (E.tab D).zero.length 1 with
      | true, false, true => zret (zpack true (zzero (E.tab D)) false)
      | _, _, _ => zbad 124
  | _, _ => zbad 125
def zoptO (t : Tri ZV) (o : Option Operand) : Option ZV :=
  match o with
  | some o => some (zrd t o)
  | none => none
def zofParts (t : Tri ZV) (ps : List (Nat × Operand)) : List (Nat × ZV) := ps.map fun p => (p.1, zrd t p.2)
def zrds (t : Tri ZV) (os : List Operand) : List ZV := os.map (zrd t)
def znext (v : ZV) : ZF :=
  match v with
  | .ptr j 0 => fun M n => match M.get j with
    | some (.siter l s pos) => match Nat.blt pos l with
      | true => match Nat.blt (zbyte l s pos) 128 with
        | true => .ok (.tup [.bool true, .int .i64 (.ofNat pos), .int .i32 (.ofNat (zbyte l s pos))]) (M.set j (some (.siter l s (Nat.succ pos)))) n
        | false => .bad 126
      | false => .ok (.tup [.bool false]) M n
    | _ => .bad 127
  | _ => zbad 128
def isConstO : Operand -> Bool
  | .const _ => true
  | _ => false
def zop (E : Env) (o : Op) (_ty : Nat) : Tri ZV -> ZF :=
  match o with
  | .move x => fun t => zret (zrd t x)
  | .assign x => fun t => zret (zrd t x)
  | .pick c a b => fun t => match zrd t c with
    | .bool true => zret (zrd t a)
    | .bool false => zret (zrd t b)
    | _ => zbad 130
  | .alloc T => fun _ => zwhen (!zbadT (E.tab T).d && zones ((E.tab T).zero.map zofV)) (znew T ((E.tab T).zero.map zofV) fun j => .ptr j 0)
  | .box T x => fun t => zwhen (zones (zcells (zrd t x))) (znew T (zcells (zrd t x)) fun j => .ptr j 0)
  | .build T ps => fun t => zbuild (E.tab T) (zofParts t ps.toList)
  | .buildSlice T m ps => fun t => zbuildSlice E T m (zofParts t ps.toList)
  | .load T a => fun t => zwhen (!zbadT (E.tab T).d) (zload (E.tab T) (zrd t a))
  | .store T a x => fun t => zwhen (!zbadT (E.tab T).d) (zstore (E.tab T) (zrd t a) (zrd t x))
  | .nilCheck x => fun t => match znil (zrd t x) with
    | some false => zret (zrd t x)
    | _ => zbad 131
  | .binOp op T x y _ => fun t => zbin E T op (isConstO y) (zrd t x) (zrd t y)
  | .unOp op _ x => fun t => zun op (zrd t x)
  | .convert S D x => fun t => zconv E S D (zrd t x)
  | .makeInterface T x => fun t => zwhen (E.noI T) (zret (.ifc T (zrd t x)))
  | .makeFunc (.func f) fs cs => fun t => zret (.fn f (zrds t fs.toList) (zrds t cs.toList))
  | .makeMap _ none => fun _ M n => .ok (.mp n) (M.set n (some (.map 0 []))) (Nat.succ n)
  | .makeSlice T l c => fun t => zmakeSlice E T (zrd t l) (zrd t c)
  | .slice T x lo hi mx => fun t => zslice E T (zrd t x) (zoptO t lo) (zoptO t hi) (zoptO t mx)
  | .fieldAddr T x f => fun t => zfieldAddr (E.tab T) (zrd t x) f
  | .field T x f => fun t => zfield (E.tab T) (E.tab (E.fty T f)) (zrd t x) f
  | .indexAddr T x ix => fun t => zindexAddr E T (zrd t x) (zrd t ix)
  | .index T x ix => fun t => zindex (E.tab T) (zrd t x) (zrd t ix)
  | .lookup T x k ok => fun t => zlookup E T (zrd t x) (zrd t k) ok
  | .mapEntry T m k => fun t => zmapEntry E T (zrd t m) (zrd t k)
  | .entryStore _ m s v => fun t => zentryStore (zrd t m) (zrd t s) (zrd t v)
  | .mapUpdate T m k v => fun t => zmapPut E T (zrd t m) (zrd t k) (zrd t v)
  | .insert T m k v => fun t => zmapPut E T (zrd t m) (zrd t k) (zrd t v)
  | .range T x => fun t => match (E.tab T).d, zrd t x with
    | .str, .str l s => fun M n => .ok (.ptr n 0) (M.set n (some (.siter l s 0))) (Nat.succ n)
    | .map _ _, .mp j => fun M n => match M.get j with
      | some (.map _ []) => .ok (.ptr n 0) (M.set n (some (.miter j))) (Nat.succ n)
      | _ => .bad 139
    | _, _ => zbad 133
  | .next it true => fun t => znext (zrd t it)
  | .next it false => fun t => match zrd t it with
    | .ptr j 0 => fun M n => match M.get j with
      | some (.miter k) => match M.get k with
        | some (.map _ []) => .ok (.tup [.bool false]) M n
        | _ => .bad 145
      | _ => .bad 146
    | _ => zbad 147
  | .typeAssert x _ D ok => fun t => zassert E D (zrd t x) ok
  | .extract x i => fun t => match zrd t x with
    | .tup l => match l[i]? with
      | some v => zret v
      | none => zbad 134
    | _ => zbad 135
  | .call c => match c.callee with
    | .builtin b => fun t => zbuiltin E b c.argTypes.toList (zrds t c.args.toList)
    | .value f => fun t => zcallV E (zrd t f) (zrds t c.args.toList)
    | _ => fun _ => zbad 136
  | .defer c => match c.callee with
    | .value f => fun t => zdefer (zrd t f) (zrds t c.args.toList)
    | _ => fun _ => zbad 137
  | _ => fun _ => zbad 138
structure ZS where
  t : Tri ZV
  nt : Nat
  M : Tri ZO
  n : Nat
  df : List (Nat × List ZV)
structure ZC where
  v : ZV
  M : Tri ZO
  n : Nat
abbrev CF := Nat -> List ZV -> Tri ZO -> Nat -> Option ZC
abbrev IH := Code -> ZS -> Option (ZJ × ZS)
def forceN {γ : Type} (n : Nat) (k : Nat -> γ) : γ :=
  match n with
  | 0 => k 0
  | m + 1 => k (m + 1)
def forceV {γ : Type} (v : ZV) (k : ZV -> γ) : γ :=
  match v with
  | .int kd f => match f with
    | .ofNat m => forceN m fun m => k (.int kd (.ofNat m))
    | .negSucc m => forceN m fun m => k (.int kd (.negSucc m))
  | .bool b => match b with
    | true => k (.bool true)
    | false => k (.bool false)
  | .str l n => forceN l fun l => forceN n fun n => k (.str l n)
  | .ptr j o => forceN j fun j => forceN o fun o => k (.ptr j o)
  | .sl sz j o m c => forceN j fun j => forceN o fun o => forceN m fun m => match c with
    | some c => forceN c fun c => k (.sl sz j o m (some c))
    | none => k (.sl sz j o m none)
  | v => k v
def zput (s : ZS) (d : Option Nat) (v : ZV) (M : Tri ZO) (n : Nat) : Option ZS :=
  match d with
  | some d => match Nat.blt d s.nt with
    | true => forceV v fun v => some ⟨s.t.set d (some v), s.nt, M, n, s.df⟩
    | false => none
  | none => some ⟨s.t, s.nt, M, n, s.df⟩
def zfin (cf : CF) (yf : CF) (o : Oper) (s : ZS) (r : ZR) : Option ZS :=
  match r with
  | .ok v M n => zput s o.dst v M n
  | .call f args => match cf f args s.M s.n with
    | some c => zput s o.dst c.v c.M c.n
    | none => none
  | .yld j args => match yf j args s.M s.n with
    | some c => zput s o.dst c.v c.M c.n
    | none => none
  | .dfr f args => zput ⟨s.t, s.nt, s.M, s.n, (f, args) :: s.df⟩ o.dst zundef s.M s.n
  | _ => none
def zwanted (all : List Oper) (o : Oper) (t : Tri ZV) : Option Bool :=
  match o.guard with
  | none => some true
  | some (j, want) => match all[j]? with
    | some g => match g.dst with
      | some d => match t.get d with
        | some (.bool b) => some (b == want)
        | some (.raw v) => match v with
          | .bool _ => none
          | _ => some false
        | _ => none
      | none => none
    | none => none
def zstep (E : Env) (cf yf : CF) (all : List Oper) (o : Oper) (s : ZS) : Option ZS :=
  match zwanted all o s.t with
  | some true => zfin cf yf o s (zop E o.op o.type s.t s.M s.n)
  | some false => zput s o.dst zundef s.M s.n
  | none => none
def zregion (E : Env) (cf yf : CF) (ops : List Oper) (s : ZS) : Option ZS := lfold (zstep E cf yf ops) ops s
inductive Kd where
  | pure
  | read
  | new
  | eff
def kind : Op -> Kd
  | .move _ => .pure
  | .assign _ => .pure
  | .pick _ _ _ => .pure
  | .build _ _ => .pure
  | .nilCheck _ => .pure
  | .binOp _ _ _ _ _ => .pure
  | .unOp _ _ _ => .pure
  | .makeInterface _ _ => .pure
  | .makeFunc _ _ _ => .pure
  | .slice _ _ _ _ _ => .pure
  | .fieldAddr _ _ _ => .pure
  | .field _ _ _ => .pure
  | .indexAddr _ _ _ => .pure
  | .index _ _ _ => .pure
  | .extract _ _ => .pure
  | .typeAssert _ _ _ _ => .pure
  | .load _ _ => .read
  | .lookup _ _ _ _ => .read
  | .convert _ _ _ => .read
  | .call c => match c.callee with
    | .builtin .len => .read
    | .builtin .min => .pure
    | .builtin .max => .pure
    | .builtin .cap => .pure
    | _ => .eff
  | .alloc _ => .new
  | .box _ _ => .new
  | .buildSlice _ _ _ => .new
  | .makeMap _ _ => .new
  | _ => .eff
def binds (o : Oper) : List Nat := (o.after.toList.filter (Region.binds .any)).map (·.on)
def inN (l : List Nat) (j : Nat) : Bool := l.any (Nat.beq j)
def reach : List Oper -> List (List Nat) -> List (List Nat)
  | [], acc => acc
  | o :: ops, acc => reach ops (acc ++ [binds o ++ (binds o).flatMap fun q => (acc[q]?).getD []])
def isEff : Kd -> Bool
  | .eff => true
  | _ => false
def isNew : Kd -> Bool
  | .new => true
  | _ => false
def isRead : Kd -> Bool
  | .read => true
  | _ => false
def tmpsOf (o : Oper) : List Nat := o.op.operands.toList.filterMap fun
  | .tmp i => some i
  | _ => none
def dsts (ops : List Oper) : List Nat := ops.filterMap (·.dst)
def noTwo : List Nat -> Bool
  | [] => true
  | a :: l => !inN l a && noTwo l
def readsOk (ops : List Oper) (rs : List (List Nat)) : Bool :=
  (ops.zip rs).zipIdx.all fun p => (tmpsOf p.1.1).all (fun i => (ops.zip rs).zipIdx.all fun q => match q.1.1.dst with
    | some d => !Nat.beq d i || inN p.1.2 q.2 || inN q.1.2 p.2
    | none => true) && (match p.1.1.guard with
    | some (j, _) => inN p.1.2 j
    | none => true)
def staysOk (ops : List Oper) (rs : List (List Nat)) (p : Oper × Nat) : Bool :=
  (tmpsOf p.1).all fun i => ops.zipIdx.all fun q => match q.1.dst with
    | some d => !Nat.beq d i || inN ((rs[p.2]?).getD []) q.2
    | none => true
def effIx (ops : List Oper) : List Nat := ops.zipIdx.filterMap fun p => match isEff (kind p.1.op) with
  | true => some p.2
  | false => none
def chainOk (rs : List (List Nat)) : List Nat -> Bool
  | a :: b :: l => inN ((rs[b]?).getD []) a && chainOk rs (b :: l)
  | _ => true
def belowOk (rs : List (List Nat)) : Bool := rs.zipIdx.all fun p => p.1.all fun q => Nat.blt q p.2
def isDefer : Op -> Bool
  | .defer _ => true
  | _ => false
def drawOk (ops : List Oper) : Bool :=
  noTwo (dsts ops) && readsOk ops (reach ops []) && chainOk (reach ops []) (effIx ops) && belowOk (reach ops []) && ops.all fun o => !isDefer o.op
def winLo (rs : List (List Nat)) (es : List Nat) (i : Nat) : Nat := (es.filter (inN ((rs[i]?).getD []))).length
def winHi (rs : List (List Nat)) (es : List Nat) (i : Nat) : Nat := (es.filter fun e => !inN ((rs[e]?).getD []) i).length
def bytesEq (a b : ByteArray) : Bool := Nat.beq a.size b.size && Nat.beq (zstrN a.data.toList) (zstrN b.data.toList)
def dveq : Nat -> DV -> DV -> Bool
  | 0, _, _ => false
  | f + 1, x, y => match x, y with
    | .int k a, .int k' b => decide (k = k') && zeqI a b
    | .bool a, .bool b => a == b
    | .str a, .str b => bytesEq a b
    | .sl sz l, .sl sz' l' => Nat.beq sz sz' && Nat.beq l.length l'.length && (l.zip l').all fun p => Nat.beq p.1.length p.2.length && (p.1.zip p.2).all fun q => dveq f q.1 q.2
    | .raw (.pointer none), .raw (.pointer none) => true
    | .raw (.slice none 0 0), .raw (.slice none 0 0) => true
    | .raw (.map none), .raw (.map none) => true
    | _, _ => false
def zveq : Nat -> ZV -> ZV -> Bool
  | 0, _, _ => false
  | f + 1, x, y => match x, y with
    | .int k a, .int k' b => decide (k = k') && zeqI a b
    | .bool a, .bool b => a == b
    | .str l n, .str l' n' => Nat.beq l l' && Nat.beq n n'
    | .ptr j o, .ptr j' o' => Nat.beq j j' && Nat.beq o o'
    | .sl sz j o m c, .sl sz' j' o' m' c' => Nat.beq sz sz' && Nat.beq j j' && Nat.beq o o' && Nat.beq m m' && (match c, c' with
      | none, none => true
      | some c, some c' => Nat.beq c c'
      | _, _ => false)
    | .mp j, .mp j' => Nat.beq j j'
    | .fn g m l, .fn g' m' l' => Nat.beq g g' && Nat.beq m.length m'.length && Nat.beq l.length l'.length && ((m.zip m').all fun p => zveq f p.1 p.2) && (l.zip l').all fun p => zveq f p.1 p.2
    | .yl j, .yl j' => Nat.beq j j'
    | .ifc t v, .ifc t' v' => Nat.beq t t' && zveq f v v'
    | .agg l, .agg l' => Nat.beq l.length l'.length && (l.zip l').all fun p => zveq f p.1 p.2
    | .tup l, .tup l' => Nat.beq l.length l'.length && (l.zip l').all fun p => zveq f p.1 p.2
    | .dsl sz l, .dsl sz' l' => dveq (f + 1) (.sl sz l) (.sl sz' l')
    | .dpt sz l i o, .dpt sz' l' i' o' => dveq (f + 1) (.sl sz l) (.sl sz' l') && Nat.beq i i' && Nat.beq o o'
    | .raw (.pointer none), .raw (.pointer none) => true
    | .raw (.slice none 0 0), .raw (.slice none 0 0) => true
    | .raw (.map none), .raw (.map none) => true
    | .raw .nilFunc, .raw .nilFunc => true
    | .raw .nilIface, .raw .nilIface => true
    | _, _ => false
def zres (cf yf : CF) (M : Tri ZO) (n : Nat) (r : ZR) : Option ZC :=
  match r with
  | .ok v M n => some ⟨v, M, n⟩
  | .call f args => cf f args M n
  | .yld j args => yf j args M n
  | _ => none
structure ZD where
  s : ZS
  pend : List (Nat × Nat × ZO)
  nk : Nat
  hist : List (Tri ZO)
def flush (ps : List Nat) : List (Nat × Nat × ZO) -> Tri ZO -> Tri ZO × List (Nat × Nat × ZO)
  | [], M => (M, [])
  | p :: l, M => match inN ps p.1 with
    | true => flush ps l (M.set p.2.1 (some p.2.2))
    | false => match flush ps l M with
      | (M, l) => (M, p :: l)
def flushAll : List (Nat × Nat × ZO) -> Tri ZO -> Tri ZO
  | [], M => M
  | p :: l, M => flushAll l (M.set p.2.1 (some p.2.2))
def zdput (D : ZD) (o : Option Nat) (v : ZV) : Option ZD :=
  match zput D.s o v D.s.M D.s.n with
  | some s => some { D with s := s }
  | none => none
def zdstep (E : Env) (cf yf : CF) (ops : List Oper) (rs : List (List Nat)) (p : Oper × Nat) (D : ZD) : Option ZD :=
  match zwanted ops p.1 D.s.t with
  | none => none
  | some true => match kind p.1.op with
    | .eff => match flush ((rs[p.2]?).getD []) D.pend D.s.M with
      | (M, pd) => match zres cf yf M D.s.n (zop E p.1.op p.1.type D.s.t M D.s.n) with
        | some c => match zput D.s p.1.dst c.v c.M c.n with
          | some s => some ⟨s, pd, D.nk, s.M :: D.hist⟩
          | none => none
        | none => none
    | .new => match zop E p.1.op p.1.type D.s.t .e D.nk with
      | .ok v M _ => match M.get D.nk with
        | some ob => match zdput D p.1.dst v with
          | some D' => some ⟨D'.s, D'.pend ++ [(p.2, D.nk, ob)], Nat.succ D.nk, D'.hist⟩
          | none => none
        | none => none
      | _ => none
    | _ => match zop E p.1.op p.1.type D.s.t D.s.M D.s.n with
      | .ok v _ _ => zdput D p.1.dst v
      | _ => none
  | some false => match zdput D p.1.dst zundef, isEff (kind p.1.op) with
    | some D, true => some { D with hist := D.s.M :: D.hist }
    | some D, false => match isNew (kind p.1.op) with
      | true => some { D with nk := Nat.succ D.nk }
      | false => some D
    | none, _ => none
def zcheck1 (E : Env) (t : Tri ZV) (n : Nat) (o : Oper) (hs : List (Tri ZO)) : Bool :=
  match o.dst with
  | some d => match t.get d with
    | some v => hs.all fun M => match zop E o.op o.type t M n with
      | .ok u _ _ => zveq 100 u v
      | _ => false
    | none => false
  | none => false
def zcheck (E : Env) (ops : List Oper) (rs : List (List Nat)) (es : List Nat) (D : ZD) : Bool :=
  ops.zipIdx.all fun p => match isRead (kind p.1.op), zwanted ops p.1 D.s.t with
    | true, some true => match Nat.blt (winLo rs es p.2) (winHi rs es p.2) with
      | true => staysOk ops rs p && zcheck1 E D.s.t D.s.n p.1 ((D.hist.reverse.drop (winLo rs es p.2)).take (winHi rs es p.2 + 1 - winLo rs es p.2))
      | false => true
    | true, none => false
    | _, _ => true
def zdraw (E : Env) (cf yf : CF) (ops : List Oper) (s : ZS) : Option ZS :=
  match drawOk ops with
  | true => match lfold (zdstep E cf yf ops (reach ops [])) ops.zipIdx ⟨⟨s.t, s.nt, s.M, s.n + (ops.filter fun o => isNew (kind o.op)).length, s.df⟩, [], s.n, [s.M]⟩ with
    | some D => match zcheck E ops (reach ops []) (effIx ops) D with
      | true => some { D.s with M := flushAll D.pend D.s.M }
      | false => none
    | none => none
  | false => none
def zcond (t : Tri ZV) (o : Operand) : Option Bool :=
  match zrd t o with
  | .bool b => some b
  | _ => none
def setPs : List Nat -> List ZV -> Tri ZV -> Option (Tri ZV)
  | [], [], t => some t
  | p :: ps, v :: vs, t => setPs ps vs (t.set p (some v))
  | _, _, _ => none
def zround (ih : IH) : CF := fun j args M n =>
  match M.get j with
  | some (.loop none t nt ps a b) => match setPs ps args t, ps.all fun p => Nat.blt p nt with
    | some t', true => match ih a ⟨t', nt, M.set j none, n, []⟩ with
      | some (.normal, s1) => match ih b s1 with
        | some (e, s2) => match s2.df with
          | [] => match e with
            | .normal => some ⟨.bool true, s2.M.set j (some (.loop none t nt ps a b)), s2.n⟩
            | .exit i => some ⟨.bool false, s2.M.set j (some (.loop (some (.exit i)) t nt ps a b)), s2.n⟩
            | .goto i => some ⟨.bool false, s2.M.set j (some (.loop (some (.goto i)) t nt ps a b)), s2.n⟩
            | .ret => some ⟨.bool false, s2.M.set j (some (.loop (some .ret) t nt ps a b)), s2.n⟩
          | _ => none
        | none => none
      | _ => none
    | _, _ => none
  | _ => none
def zrange (cf : CF) (s : ZS) (g : Operand) (ps : List Nat) (a b : Code) : Option (ZJ × ZS) :=
  match zrd s.t g with
  | .fn f [] caps => match cf f (.yl s.n :: caps) (s.M.set s.n (some (.loop none s.t s.nt ps a b))) (Nat.succ s.n) with
    | some c => match c.M.get s.n with
      | some (.loop none _ _ _ _ _) => some (.normal, ⟨s.t, s.nt, c.M.set s.n none, c.n, s.df⟩)
      | some (.loop (some e) _ _ _ _ _) => match e with
        | .normal => none
        | e => some (e, ⟨s.t, s.nt, c.M.set s.n none, c.n, s.df⟩)
      | _ => none
    | none => none
  | _ => none
structure MFor where
  ops : List Oper
  pre : List Oper
  it : Nat
  T : Nat
  x : Operand
  i : Nat
  e : Nat
  en : Nat
  ops4 : List Oper
  os4 : List Oper
  d : Bool
  ops5 : List Oper
  pre5 : List Oper
  U : Nat
  m : Operand
  k : Operand
  v : Operand
def rangeOp (o : Oper) : Option (Nat × Nat × Operand) :=
  match o.op, o.dst, o.guard with
  | .range T x, some it, none => some (it, T, x)
  | _, _, _ => none
def lastRange : List Oper -> Option (List Oper × Nat × Nat × Operand)
  | [] => none
  | o :: l => match l with
    | [] => match rangeOp o with
      | some r => some ([], r)
      | none => none
    | _ :: _ => match lastRange l with
      | some (p, r) => some (o :: p, r)
      | none => none
def updOp (o : Oper) : Option (Nat × Operand × Operand × Operand) :=
  match o.op, o.dst, o.guard with
  | .mapUpdate U m k v, none, none => some (U, m, k, v)
  | _, _, _ => none
def lastUpd : List Oper -> Option (List Oper × Nat × Operand × Operand × Operand)
  | [] => none
  | o :: l => match l with
    | [] => match updOp o with
      | some r => some ([], r)
      | none => none
    | _ :: _ => match lastUpd l with
      | some (p, r) => some (o :: p, r)
      | none => none
def nextAt (l : List Oper) : Option (Nat × Nat × Nat) :=
  match l with
  | [o, p] => match o.op, o.dst, o.guard, p.op, p.dst, p.guard with
    | .next (.tmp it) false, some i, none, .extract (.tmp i') 0, some e, none => match Nat.beq i i' with
      | true => some (it, i, e)
      | false => none
    | _, _, _, _, _, _ => none
  | _ => none
def entAt (l : List Oper) : Option (Nat × Nat × List Oper) :=
  match l with
  | o :: l => match o.op, o.dst, o.guard with
    | .entry (.tmp it), some en, none => some (it, en, l)
    | _, _, _ => none
  | [] => none
def lastBinds (l : List Oper) (n : Nat) : Bool := match l[n]? with
  | some o => ((List.range n).all fun k => inN (binds o) k) && (binds o).all fun k => Nat.blt k n
  | none => false
def bodyAt (b : Nat) (L : Code) : Option (Nat × Nat × Nat × List Oper × Nat × Nat × List Oper × Bool × List Oper) :=
  match L with
  | .seq (.region _ nops false) (.seq (.cond (.tmp c) .skip (.exit b')) (.block _ (.seq (.region _ ops4 false) (.region _ ops5 d)))) =>
    match nextAt nops.toList, entAt ops4.toList with
    | some (it, i, e), some (it', en, os4) => match Nat.beq c e && Nat.beq b b' && Nat.beq it it' with
      | true => some (it, i, e, ops4.toList, it', en, os4, d, ops5.toList)
      | false => none
    | _, _ => none
  | _ => none
def rangeAt (a b : Code) : Option MFor :=
  match a with
  | .region _ ops false => match lastRange ops.toList with
    | some (pre, it, T, x) => match b with
      | .block bl (.loop L) => match bodyAt bl L with
        | some (it', i, e, ops4, _, en, os4, d, ops5) => match lastUpd ops5 with
          | some (pre5, U, m, k, v) => match Nat.beq it it' && !Nat.beq i e && !inN (i :: e :: en :: (dsts os4 ++ dsts pre5)) it && (!d || lastBinds ops5 pre5.length) with
            | true => some ⟨ops.toList, pre, it, T, x, i, e, en, ops4, os4, d, ops5, pre5, U, m, k, v⟩
            | false => none
          | none => none
        | none => none
      | _ => none
    | none => none
  | _ => none
def roO : ZO -> Option ZO
  | .cells T lo h d => some (.ro T lo h d)
  | .ro T lo h d => some (.ro T lo h d)
  | _ => none
noncomputable def Tri.roT (t : Tri ZO) : Tri ZO := @Tri.rec ZO (fun _ => Tri ZO) .e (fun v _ _ _ _ _ _ _ _ i0 i1 i2 i3 i4 i5 i6 i7 => .n (match v with
  | some o => roO o
  | none => none) i0 i1 i2 i3 i4 i5 i6 i7) t
def anys (l : List Nat) (t : Tri ZV) : Tri ZV := l.foldl (fun t i => t.set i (some .any)) t
def distinctB : List ZEnt -> Bool
  | [] => true
  | e :: es => (es.all fun x => match zkeyEq e.key x.key with
    | some false => true
    | _ => false) && distinctB es
structure RR where
  v : ZV
  M : Tri ZO
  lo : Nat
  hi : Nat
def zmEval (E : Env) (cf yf : CF) (f : MFor) (tb : Tri ZV) (nt : Nat) (M0 : Tri ZO) (en : ZEnt) (n : Nat) : Option (Nat × ZV × Tri ZO × Nat) :=
  match lfold (zstep E cf yf f.ops4) f.os4 ⟨tb.set f.en (some (.tup [en.key, en.val])), nt, M0, n, []⟩ with
  | some s2 => match (match f.d with
      | true => zdraw E cf yf f.pre5 s2
      | false => lfold (zstep E cf yf f.ops5) f.pre5 s2) with
    | some s3 => match s3.df, zrd s3.t f.m, zkeyEq en.key (zrd s3.t f.k) with
      | [], .mp X, some true => some (X, zrd s3.t f.v, s3.M, s3.n)
      | _, _, _ => none
    | none => none
  | none => none
def zmRounds (E : Env) (cf yf : CF) (f : MFor) (tb : Tri ZV) (nt : Nat) (M0 : Tri ZO) (X : Nat) : List ZEnt -> Nat -> Option (List RR × Nat)
  | [], n => some ([], n)
  | en :: es, n => match zmEval E cf yf f tb nt M0 en n with
    | some (X', v, M', n') => match Nat.beq X' X && Nat.ble n n', zmapPut E f.U (.mp X) en.key v (Tri.e.set X (some (.umap []))) 0, zmRounds E cf yf f tb nt M0 X es n' with
      | true, .ok _ _ _, some (l, n'') => some (⟨v, M', n, n'⟩ :: l, n'')
      | _, _, _ => none
    | none => none
def addR (M' : Tri ZO) : Nat -> Nat -> Tri ZO -> Tri ZO
  | 0, _, A => A
  | k + 1, lo, A => addR M' k (Nat.succ lo) (A.set lo (M'.get lo))
def addRs : List RR -> Tri ZO -> Tri ZO
  | [], A => A
  | r :: l, A => addRs l (addR r.M (r.hi - r.lo) r.lo A)
def withVals : List ZEnt -> List RR -> List ZEnt
  | e :: es, r :: l => ⟨e.key, r.v, e.born⟩ :: withVals es l
  | _, _ => []
def asNew : List ZEnt -> List RR -> List ZEnt
  | e :: es, r :: l => ⟨e.key, r.v, 0⟩ :: asNew es l
  | _, _ => []
def zmLast (X j : Nat) (o : ZO) (es : List ZEnt) (l : List RR) (M : Tri ZO) : Option ZO :=
  match Nat.beq X j with
  | true => match o with
    | .map c _ => some (.map c (withVals es l))
    | _ => none
  | false => match M.get X with
    | some (.map _ []) => some (.umap (asNew es l))
    | some (.umap []) => some (.umap (asNew es l))
    | _ => none
def bornsB (o : ZO) : Bool := match o with
  | .map c es => noTwo (es.map (·.born)) && es.all fun e => Nat.blt e.born c
  | .umap _ => true
  | _ => false
def zmods (f : MFor) : List Nat := f.i :: f.e :: f.en :: (dsts f.os4 ++ dsts f.pre5)
def zmf2 (E : Env) (cf yf : CF) (f : MFor) (s1 : ZS) (j : Nat) (o : ZO) (es : List ZEnt) (tb : Tri ZV) (M0 : Tri ZO) : Option ZS :=
  match es with
  | [] => none
  | en :: _ => match zmEval E cf yf f tb s1.nt M0 en (Nat.succ s1.n) with
    | some (X, _, _, _) => match zmRounds E cf yf f tb s1.nt M0 X es (Nat.succ s1.n), Nat.blt X s1.n with
      | some (l, n), true => match zmLast X j o es l s1.M with
        | some o' => some ⟨tb, s1.nt, addRs l (s1.M.set X (some o')), n, []⟩
        | none => none
      | _, _ => none
    | none => none
def zmf (E : Env) (cf yf : CF) (f : MFor) (s : ZS) : Option ZS :=
  match lfold (zstep E cf yf f.ops) f.pre s with
  | some s1 => match s1.df, (E.tab f.T).d, zrd s1.t f.x with
    | [], .map _ _, .mp j => match s1.M.get j with
      | some o => match zents o with
        | some es => match distinctB es && bornsB o && Nat.blt f.it s1.nt && Nat.blt f.i s1.nt && Nat.blt f.e s1.nt && Nat.blt f.en s1.nt with
          | true => zmf2 E cf yf f s1 j o es (anys (zmods f) (s1.t.set f.it (some (.ptr s1.n 0)))) s1.M.roT
          | false => none
        | none => none
      | none => none
    | _, _, _ => none
  | none => none
def zcode (E : Env) (cf yf : CF) (ih : IH) (c : Code) : ZS -> Option (ZJ × ZS) :=
  match c with
  | .skip => fun s => some (.normal, s)
  | .label _ => fun s => some (.normal, s)
  | .region _ ops d => match d with
    | false => fun s => match zregion E cf yf ops.toList s with
      | some s => some (.normal, s)
      | none => none
    | true => fun s => match zdraw E cf yf ops.toList s with
      | some s => some (.normal, s)
      | none => none
  | .seq a b => fun s => match (match rangeAt a b with
      | some f => zmf E cf yf f s
      | none => none) with
    | some s => some (.normal, s)
    | none => match ih a s with
      | some (e, s) => match e with
        | .normal => ih b s
        | .exit i => some (.exit i, s)
        | .goto i => some (.goto i, s)
        | .ret => some (.ret, s)
      | none => none
  | .cond c x y => fun s => match zcond s.t c with
    | some true => ih x s
    | some false => ih y s
    | none => none
  | .block id c => fun s => match ih c s with
    | some (e, s) => match e with
      | .exit i => match Nat.beq i id with
        | true => some (.normal, s)
        | false => some (.exit i, s)
      | .normal => some (.normal, s)
      | .goto i => some (.goto i, s)
      | .ret => some (.ret, s)
    | none => none
  | .loop c => fun s => match ih c s with
    | some (e, s) => match e with
      | .normal => ih (.loop c) s
      | .exit i => some (.exit i, s)
      | .goto i => some (.goto i, s)
      | .ret => some (.ret, s)
    | none => none
  | .exit i => fun s => some (.exit i, s)
  | .goto i => fun s => some (.goto i, s)
  | .ret => fun s => some (.ret, s)
  | .rangeFunc g ps a b => fun s => zrange cf s g ps.toList a b
  | _ => fun _ => none
def argsGo : List ZV -> Nat -> Tri ZV -> Tri ZV
  | [], _, t => t
  | v :: l, i, t => argsGo l (Nat.succ i) (t.set i (some v))
def zstepS (E : Env) (all : List Oper) (o : Oper) (s : ZS) : Option ZS :=
  match zwanted all o s.t with
  | some true => match zop E o.op o.type s.t s.M s.n with
    | .ok v M n => zput s o.dst v M n
    | .rcv => zput s o.dst (.raw .nilIface) s.M s.n
    | _ => none
  | some false => zput s o.dst zundef s.M s.n
  | none => none
def zcodeS (E : Env) : Code -> ZS -> Option ZS
  | .skip, s => some s
  | .region _ ops d, s => match d with
    | false => lfold (zstepS E ops.toList) ops.toList s
    | true => none
  | .seq a b, s => match zcodeS E a s with
    | some s => zcodeS E b s
    | none => none
  | .cond c x y, s => match zcond s.t c with
    | some true => zcodeS E x s
    | some false => zcodeS E y s
    | none => none
  | _, _ => none
def zdeferred (E : Env) (d : Nat × List ZV) (M : Tri ZO) (n : Nat) : Option (Tri ZO × Nat) :=
  match E.fnT d.1 with
  | some fi => match fi.res, zcodeS E fi.code ⟨argsGo d.2 0 .e, d.2.length + (fi.nt - d.2.length), M, n, []⟩ with
    | [], some s => some (s.M, s.n)
    | _, _ => none
  | none => none
def zleave (E : Env) : List (Nat × List ZV) -> Tri ZO -> Nat -> Option (Tri ZO × Nat)
  | [], M, n => some (M, n)
  | d :: ds, M, n => match zdeferred E d M n with
    | some (M, n) => zleave E ds M n
    | none => none
def zresGo (E : Env) (s : Tri ZV) (M : Tri ZO) : List ResultVar -> Option (List ZV)
  | [] => some []
  | .tmp i :: rs => match zresGo E s M rs with
    | some l => some (zrd s (.tmp i) :: l)
    | none => none
  | .cell i T :: rs => match zbadT (E.tab T).d, zload (E.tab T) (zrd s (.tmp i)) M 0, zresGo E s M rs with
    | false, .ok v _ _, some l => some (v :: l)
    | _, _, _ => none
def zpackR : List ZV -> ZV
  | [v] => v
  | l => .tup l
def zend (E : Env) (fi : FI) (r : Option (ZJ × ZS)) : Option ZC :=
  match r with
  | some (e, s) => match e with
    | .exit _ => none
    | .goto _ => none
    | _ => match zleave E s.df s.M s.n with
      | some (M, n) => match zresGo E s.t M fi.res with
        | some l => some ⟨zpackR l, M, n⟩
        | none => none
      | none => none
  | none => none
/- oc: functions that are told by a contract of their own -/
def zcall (E : Env) (oc : Nat -> Option CF) (ih : IH) : CF := fun g args M n =>
  match oc g with
  | some h => h args.length args M n
  | none => match E.fnT g with
  | some fi => zend E fi (ih fi.code ⟨argsGo args 0 .e, args.length + (fi.nt - args.length), M, n, []⟩)
  | none => none
noncomputable def zN (E : Env) (oc : Nat -> Option CF) (fuel : Nat) : IH :=
  @Nat.rec (fun _ => IH) (fun _ _ => none) (fun _ ih => zcode E (zcall E oc ih) (zround ih) ih) fuel
end
end Go.Z
namespace Go.Z
open Go.Eng (TI TD DV DRep DRows DCells Snap nth upd slice' splice)
theorem beq_ne {a b : Nat} (h : a ≠ b) : Nat.beq a b = false := by
  cases e : Nat.beq a b with
  | false => rfl
  | true => exact absurd (Nat.eq_of_beq_eq_true e) h
theorem getP_e {α : Type} : ∀ (p : Pa), getP p (Tri.e : Tri α) = none
  | .h => rfl
  | .d0 _ => rfl
  | .d1 _ => rfl
  | .d2 _ => rfl
  | .d3 _ => rfl
  | .d4 _ => rfl
  | .d5 _ => rfl
  | .d6 _ => rfl
  | .d7 _ => rfl
theorem Tri.get_e {α : Type} (i : Nat) : (Tri.e : Tri α).get i = none := getP_e _
theorem setP_same {α : Type} (v : Option α) (p : Pa) : ∀ (t : Tri α), getP p (setP v p t) = v := by
  induction p with
  | h => intro t; cases t <;> rfl
  | d0 p ih => intro t; cases t <;> exact ih _
  | d1 p ih => intro t; cases t <;> exact ih _
  | d2 p ih => intro t; cases t <;> exact ih _
  | d3 p ih => intro t; cases t <;> exact ih _
  | d4 p ih => intro t; cases t <;> exact ih _
  | d5 p ih => intro t; cases t <;> exact ih _
  | d6 p ih => intro t; cases t <;> exact ih _
  | d7 p ih => intro t; cases t <;> exact ih _
theorem setP_ne {α : Type} (v : Option α) (p : Pa) : ∀ (q : Pa) (t : Tri α), p ≠ q -> getP q (setP v p t) = getP q t := by
  induction p with
  | h =>
    intro q t h
    cases q with
    | h => exact absurd rfl h
    | _ => cases t <;> first | rfl | exact getP_e _
  | d0 p ih =>
    intro q t h
    cases q with
    | d0 q => cases t with
      | e => exact (ih q .e fun e => h (by rw [e])).trans (getP_e _)
      | n => exact ih q _ fun e => h (by rw [e])
    | h => cases t <;> rfl
    | _ => cases t <;> first | rfl | exact getP_e _
  | d1 p ih =>
    intro q t h
    cases q with
    | d1 q => cases t with
      | e => exact (ih q .e fun e => h (by rw [e])).trans (getP_e _)
      | n => exact ih q _ fun e => h (by rw [e])
    | h => cases t <;> rfl
    | _ => cases t <;> first | rfl | exact getP_e _
  | d2 p ih =>
    intro q t h
    cases q with
    | d2 q => cases t with
      | e => exact (ih q .e fun e => h (by rw [e])).trans (getP_e _)
      | n => exact ih q _ fun e => h (by rw [e])
    | h => cases t <;> rfl
    | _ => cases t <;> first | rfl | exact getP_e _
  | d3 p ih =>
    intro q t h
    cases q with
    | d3 q => cases t with
      | e => exact (ih q .e fun e => h (by rw [e])).trans (getP_e _)
      | n => exact ih q _ fun e => h (by rw [e])
    | h => cases t <;> rfl
    | _ => cases t <;> first | rfl | exact getP_e _
  | d4 p ih =>
    intro q t h
    cases q with
    | d4 q => cases t with
      | e => exact (ih q .e fun e => h (by rw [e])).trans (getP_e _)
      | n => exact ih q _ fun e => h (by rw [e])
    | h => cases t <;> rfl
    | _ => cases t <;> first | rfl | exact getP_e _
  | d5 p ih =>
    intro q t h
    cases q with
    | d5 q => cases t with
      | e => exact (ih q .e fun e => h (by rw [e])).trans (getP_e _)
      | n => exact ih q _ fun e => h (by rw [e])
    | h => cases t <;> rfl
    | _ => cases t <;> first | rfl | exact getP_e _
  | d6 p ih =>
    intro q t h
    cases q with
    | d6 q => cases t with
      | e => exact (ih q .e fun e => h (by rw [e])).trans (getP_e _)
      | n => exact ih q _ fun e => h (by rw [e])
    | h => cases t <;> rfl
    | _ => cases t <;> first | rfl | exact getP_e _
  | d7 p ih =>
    intro q t h
    cases q with
    | d7 q => cases t with
      | e => exact (ih q .e fun e => h (by rw [e])).trans (getP_e _)
      | n => exact ih q _ fun e => h (by rw [e])
    | h => cases t <;> rfl
    | _ => cases t <;> first | rfl | exact getP_e _
def valP : Pa -> Nat
  | .h => 0
  | .d0 p => 8 * valP p + 1
  | .d1 p => 8 * valP p + 2
  | .d2 p => 8 * valP p + 3
  | .d3 p => 8 * valP p + 4
  | .d4 p => 8 * valP p + 5
  | .d5 p => 8 * valP p + 6
  | .d6 p => 8 * valP p + 7
  | .d7 p => 8 * valP p + 8
theorem valP_dig {d : Nat} {p : Pa} (h : d < 8) : valP (dig d p) = 8 * valP p + d + 1 := by
  match d, h with
  | 0, _ => rfl
  | 1, _ => rfl
  | 2, _ => rfl
  | 3, _ => rfl
  | 4, _ => rfl
  | 5, _ => rfl
  | 6, _ => rfl
  | 7, _ => rfl
theorem valP_path : ∀ (m i : Nat), i < m -> valP (pathF m i) = i
  | 0, i, h => absurd h (Nat.not_lt_zero _)
  | m + 1, i, h => by
    show valP (bif Nat.beq i 0 then .h else dig (Nat.mod (Nat.pred i) 8) (pathF m (Nat.div (Nat.pred i) 8))) = i; by_cases h0 : i = 0
    . subst h0; rfl
    . rw [beq_ne h0, cond_false, valP_dig (d := Nat.mod (Nat.pred i) 8) (Nat.mod_lt _ (by decide)), valP_path m _ (by
        have : Nat.div (Nat.pred i) 8 <= Nat.pred i := Nat.div_le_self _ _; have : Nat.pred i = i - 1 := rfl; omega)]
      have h1 : 8 * Nat.div (Nat.pred i) 8 + Nat.mod (Nat.pred i) 8 = Nat.pred i := Nat.div_add_mod _ _; have h2 : Nat.pred i = i - 1 := rfl; omega
theorem path_inj {i j : Nat} (h : pathOf i = pathOf j) : i = j := by
  rw [<- valP_path (Nat.succ i) i (Nat.lt_succ_self _), <- valP_path (Nat.succ j) j (Nat.lt_succ_self _)]; exact congrArg valP h
theorem Tri.get_set {α : Type} (t : Tri α) (i j : Nat) (v : Option α) : (t.set i v).get j = if i = j then v else t.get j := by
  by_cases h : i = j
  . subst h; rw [if_pos rfl]; exact setP_same v _ t
  . rw [if_neg h]; exact setP_ne v _ _ t fun e => h (path_inj e)
theorem lfold_nil {α σ : Type} (f : α -> σ -> Option σ) (s : σ) : lfold f [] s = some s := rfl
theorem lfold_cons {α σ : Type} (f : α -> σ -> Option σ) (a : α) (l : List α) (s : σ) : lfold f (a :: l) s = match f a s with
    | some s => lfold f l s
    | none => none := rfl
def zbytes (l n : Nat) : ByteArray := ⟨((List.range l).map fun i => UInt8.ofNat (zbyte l n i)).toArray⟩
theorem zbytes_size (l n : Nat) : (zbytes l n).size = l := by simp [zbytes, ByteArray.size]
theorem zbyte_lt (l n i : Nat) : zbyte l n i < 256 := Nat.mod_lt _ (by omega)
theorem zbytes_list (l n : Nat) : (zbytes l n).data.toList = (List.range l).map fun i => UInt8.ofNat (zbyte l n i) := by simp [zbytes]
theorem bytes_ext {a b : ByteArray} (h : a.data.toList = b.data.toList) : a = b := by
  cases a; cases b; simp only [ByteArray.mk.injEq]; exact Array.toList_inj.1 h
theorem zstrN_foldl : ∀ (l : List UInt8) (a : Nat), l.foldl (fun n c => n * 256 + c.toNat) a = a * 256 ^ l.length + zstrN l
  | [], a => by simp [zstrN]
  | c :: l, a => by
    show l.foldl (fun n c => n * 256 + c.toNat) (a * 256 + c.toNat) = a * 256 ^ (l.length + 1) + l.foldl (fun n c => n * 256 + c.toNat) (0 * 256 + c.toNat)
    rw [zstrN_foldl l (a * 256 + c.toNat), zstrN_foldl l (0 * 256 + c.toNat), Nat.pow_succ, Nat.add_mul, Nat.zero_mul, Nat.zero_add, Nat.mul_assoc, Nat.mul_comm 256]; omega
theorem zstrN_cons (c : UInt8) (l : List UInt8) : zstrN (c :: l) = c.toNat * 256 ^ l.length + zstrN l := by
  show List.foldl _ _ _ = _; rw [List.foldl_cons, zstrN_foldl]; simp
theorem zstrN_lt : ∀ (l : List UInt8), zstrN l < 256 ^ l.length
  | [] => by simp [zstrN]
  | c :: l => by
    rw [zstrN_cons, List.length_cons, Nat.pow_succ]; have h1 := zstrN_lt l; have h2 := c.toNat_lt; have h3 : c.toNat * 256 ^ l.length <= 255 * 256 ^ l.length := Nat.mul_le_mul_right _ (by omega)
    omega
theorem zbyte_eq (l n i : Nat) : zbyte l n i = n / 256 ^ (l - 1 - i) % 256 := rfl
theorem zbyte_strN : ∀ (l : List UInt8) (i : Nat) (h : i < l.length), zbyte l.length (zstrN l) i = l[i].toNat
  | c :: l, 0, h => by
    rw [zbyte_eq, zstrN_cons, List.length_cons, show l.length + 1 - 1 - 0 = l.length by omega, Nat.mul_comm, Nat.mul_add_div (Nat.pow_pos (by omega)), Nat.div_eq_of_lt (zstrN_lt l), Nat.add_zero]
    exact Nat.mod_eq_of_lt c.toNat_lt
  | c :: l, i + 1, h => by
    have hi : i < l.length := by simpa using h
    have ih := zbyte_strN l i hi; rw [zbyte_eq] at ih; rw [zbyte_eq, zstrN_cons, List.length_cons, show l.length + 1 - 1 - (i + 1) = l.length - 1 - i by omega]
    have key : ∀ (B x y p q : Nat), 0 < B -> p = q + (i + 1) -> zbyte l.length y i = y / B ^ q % B -> (x * B ^ p + y) / B ^ q % B = y / B ^ q % B := by
      intro B x y p q hB hp _
      rw [hp, Nat.pow_add, Nat.pow_succ, show x * (B ^ q * (B ^ i * B)) + y = B ^ q * (B * (x * B ^ i)) + y from by
        rw [Nat.mul_left_comm x, Nat.mul_comm (B ^ i) B, Nat.mul_left_comm x], Nat.mul_add_div (Nat.pow_pos hB), Nat.mul_add_mod]
    rw [key 256 _ _ l.length (l.length - 1 - i) (by omega) (by omega) (zbyte_eq _ _ _), ih]
    rfl
theorem zbytes_ofS (b : ByteArray) : zbytes b.size (zstrN b.data.toList) = b := by
  refine bytes_ext ?_; rw [zbytes_list]; refine List.ext_getElem ?_ ?_
  . rw [List.length_map, List.length_range]; exact (Array.length_toList (xs := b.data)).symm
  . intro i h1 h2; have hs : b.size = b.data.toList.length := (Array.length_toList (xs := b.data)).symm; rw [List.getElem_map, List.getElem_range, hs, zbyte_strN _ i h2]; simp
structure Loc where
  b : Nat
  o : Int
  e : Nat
  k : Bool
def Key (β : Nat -> Loc) (n j : Nat) : Prop := j < n /\ (β j).k = true
theorem Key.mono {β β' : Nat -> Loc} {n n' j : Nat} (hk : Key β n j) (h : ∀ j, Key β n j -> β' j = β j) (hn : n <= n') : Key β' n' j :=
  ⟨Nat.lt_of_lt_of_le hk.1 hn, by rw [h j hk]; exact hk.2⟩
section
variable (S : Snap) (β : Nat -> Loc) (n : Nat)
mutual
def VRel : ZV -> Value -> Prop
  | .int k a, v => v = .int k a
  | .bool b, v => v = .bool b
  | .str l m, v => v = .string (zbytes l m)
  | .ptr j o, v => Key β n j /\ ∃ k : Nat, (k : Int) = (β j).o + o /\ v = .pointer (some ⟨(β j).b, k, none⟩)
  | .sl sz j o m c, v => Key β n j /\ 0 < sz /\ ∃ k q : Nat, v = .slice (some ⟨(β j).b, k, none⟩) m q /\ m <= q /\ (0 < q -> (k : Int) = (β j).o + o) /\ (match c with
      | some c => q = c
      | none => (β j).o + o + (q * sz : Nat) = (β j).e)
  | .mp j, v => Key β n j /\ v = .map (some (β j).b)
  | .fn f fs caps, v => ∃ a b : Array Value, v = .func (.func f) a b /\ VRels fs a.toList /\ VRels caps b.toList
  | .yl j, v => Key β n j /\ v = .func (.yield (β j).b) #[] #[]
  | .ifc t z, v => ∃ u, v = .iface t u /\ VRel z u
  | .agg l, v => ∃ cs : Array Value, v = .agg cs /\ VRels l cs.toList
  | .tup l, v => ∃ cs : Array Value, v = .tuple cs /\ VRels l cs.toList
  | .raw u, v => v = u
  | .dsl sz l, v => DRep S (.sl sz l) v
  | .dpt sz l i off, v => ∃ b o c T fr, S b = some (.cells c T fr) /\ DRows S sz l ((c.toList.drop o).take (l.length * sz)) /\ i < l.length /\ v = .pointer (some ⟨b, o + i * sz + off, none⟩)
  | .any, _ => True
def VRels : List ZV -> List Value -> Prop
  | [], xs => xs = []
  | z :: zs, xs => ∃ v vs, xs = v :: vs /\ VRel z v /\ VRels zs vs
end
end
section
variable {S : Snap} {β β' : Nat -> Loc} {n n' : Nat}
mutual
theorem VRel_mono (h : ∀ j, Key β n j -> β' j = β j) (hn : n <= n') : ∀ (z : ZV) (v : Value), VRel S β n z v -> VRel S β' n' z v
  | .int _ _, v, r => by simpa [VRel] using r
  | .bool _, v, r => by simpa [VRel] using r
  | .str _ _, v, r => by simpa [VRel] using r
  | .raw _, v, r => by simpa [VRel] using r
  | .dsl _ _, v, r => by rw [VRel] at r ⊢; exact r
  | .dpt _ _ _ _, v, r => by rw [VRel] at r ⊢; exact r
  | .any, v, r => by rw [VRel]; exact True.intro
  | .ptr j _, v, r => by
    rw [VRel] at r ⊢; rw [h j r.1]; exact ⟨r.1.mono h hn, r.2⟩
  | .sl _ j _ _ _, v, r => by
    rw [VRel] at r ⊢; rw [h j r.1]; exact ⟨r.1.mono h hn, r.2⟩
  | .mp j, v, r => by
    rw [VRel] at r ⊢; rw [h j r.1]; exact ⟨r.1.mono h hn, r.2⟩
  | .yl j, v, r => by
    rw [VRel] at r ⊢; rw [h j r.1]; exact ⟨r.1.mono h hn, r.2⟩
  | .fn _ fs caps, v, r => by
    rw [VRel] at r ⊢; obtain ⟨a, b, h1, h2, h3⟩ := r; exact ⟨a, b, h1, VRels_mono h hn fs _ h2, VRels_mono h hn caps _ h3⟩
  | .ifc _ z, v, r => by
    rw [VRel] at r ⊢; obtain ⟨u, h1, h2⟩ := r; exact ⟨u, h1, VRel_mono h hn z _ h2⟩
  | .agg l, v, r => by
    rw [VRel] at r ⊢; obtain ⟨u, h1, h2⟩ := r; exact ⟨u, h1, VRels_mono h hn l _ h2⟩
  | .tup l, v, r => by
    rw [VRel] at r ⊢; obtain ⟨u, h1, h2⟩ := r; exact ⟨u, h1, VRels_mono h hn l _ h2⟩
theorem VRels_mono (h : ∀ j, Key β n j -> β' j = β j) (hn : n <= n') : ∀ (z : List ZV) (v : List Value), VRels S β n z v -> VRels S β' n' z v
  | [], v, r => by simpa [VRels] using r
  | z :: zs, v, r => by
    rw [VRels] at r ⊢; obtain ⟨u, us, h1, h2, h3⟩ := r; exact ⟨u, us, h1, VRel_mono h hn z _ h2, VRels_mono h hn zs _ h3⟩
end
theorem VRels_length : ∀ {z : List ZV} {v : List Value}, VRels S β n z v -> v.length = z.length
  | [], v, r => by rw [VRels] at r; simp [r]
  | z :: zs, v, r => by
    rw [VRels] at r; obtain ⟨u, us, rfl, _, h3⟩ := r; simp [VRels_length h3]
theorem VRels_append : ∀ {z y : List ZV} {v u : List Value}, VRels S β n z v -> VRels S β n y u -> VRels S β n (z ++ y) (v ++ u)
  | [], y, v, u, r, k => by rw [VRels] at r; subst r; exact k
  | z :: zs, y, v, u, r, k => by
    rw [VRels] at r; obtain ⟨a, as, rfl, h2, h3⟩ := r; rw [List.cons_append, VRels]; exact ⟨a, as ++ u, rfl, h2, VRels_append h3 k⟩
theorem VRels_get : ∀ {z : List ZV} {v : List Value} (i : Nat) {x : ZV}, VRels S β n z v -> z[i]? = some x -> ∃ u, v[i]? = some u /\ VRel S β n x u
  | [], v, i, x, r, h => by simp at h
  | z :: zs, v, 0, x, r, h => by
    rw [VRels] at r; obtain ⟨a, as, rfl, h2, h3⟩ := r; simp at h; subst h; exact ⟨a, rfl, h2⟩
  | z :: zs, v, i + 1, x, r, h => by
    rw [VRels] at r; obtain ⟨a, as, rfl, h2, h3⟩ := r; obtain ⟨u, g1, g2⟩ := VRels_get i h3 (by simpa using h)
    exact ⟨u, by simpa using g1, g2⟩
theorem VRels_drop : ∀ {z : List ZV} {v : List Value} (i : Nat), VRels S β n z v -> VRels S β n (z.drop i) (v.drop i)
  | z, v, 0, r => by simpa using r
  | [], v, i + 1, r => by rw [VRels] at r; subst r; simp [VRels]
  | z :: zs, v, i + 1, r => by
    rw [VRels] at r; obtain ⟨a, as, rfl, h2, h3⟩ := r; simpa using VRels_drop i h3
theorem VRels_take : ∀ {z : List ZV} {v : List Value} (i : Nat), VRels S β n z v -> VRels S β n (z.take i) (v.take i)
  | z, v, 0, r => by simp [VRels]
  | [], v, i + 1, r => by rw [VRels] at r; subst r; simp [VRels]
  | z :: zs, v, i + 1, r => by
    rw [VRels] at r; obtain ⟨a, as, rfl, h2, h3⟩ := r; rw [List.take_succ_cons, List.take_succ_cons, VRels]; exact ⟨a, as.take i, rfl, h2, VRels_take i h3⟩
theorem VRels_map {α : Type} {f : α -> ZV} {g : α -> Value} (h : ∀ x, VRel S β n (f x) (g x)) : ∀ (l : List α), VRels S β n (l.map f) (l.map g)
  | [] => by simp [VRels]
  | a :: l => by rw [List.map_cons, VRels]; exact ⟨g a, l.map g, rfl, h a, VRels_map h l⟩
theorem VRels_splice : ∀ {vs c : List ZV} {us xs : List Value} (o : Nat), VRels S β n vs us -> VRels S β n c xs -> VRels S β n (splice c o vs) (splice xs o us)
  | [], c, us, xs, o, h, k => by rw [VRels] at h; subst h; simpa [splice] using k
  | v :: vs, c, us, xs, o, h, k => by
    rw [VRels] at h; obtain ⟨u, us, rfl, h1, h2⟩ := h; rw [splice, splice]; refine VRels_splice (o + 1) h2 ?_; exact go h1 o k
where go {v : ZV} {u : Value} (h1 : VRel S β n v u) : ∀ {c : List ZV} {xs : List Value} (o : Nat), VRels S β n c xs -> VRels S β n (upd v c o) (upd u xs o)
  | [], xs, o, k => by rw [VRels] at k; subst k; simp [upd, VRels]
  | a :: c, xs, 0, k => by
    rw [VRels] at k; obtain ⟨b, bs, rfl, k1, k2⟩ := k; simp only [upd]; rw [VRels]; exact ⟨u, bs, rfl, h1, k2⟩
  | a :: c, xs, o + 1, k => by
    rw [VRels] at k; obtain ⟨b, bs, rfl, k1, k2⟩ := k; simp only [upd]; rw [VRels]; exact ⟨b, upd u bs o, rfl, k1, go h1 o k2⟩
theorem VRel_scalar (v : Value) : VRel S β n (zscal v) v := by
  unfold zscal; split
  . simp [VRel]
  . simp [VRel]
  . rw [zofS, VRel, zbytes_ofS]
  . simp [VRel]
theorem VRel_ofV (v : Value) : VRel S β n (zofV v) v := by
  unfold zofV; split
  . simp [VRel]
  . simp [VRel]
  . rw [zofS, VRel, zbytes_ofS]
  . rename_i cs
    rw [VRel]; refine ⟨cs, rfl, ?_⟩; have := VRels_map (S := S) (β := β) (n := n) (f := zscal) (g := id) VRel_scalar cs.toList; simpa only [List.map_id] using this
  . rename_i cs
    split
    . rename_i e
      rw [VRel]; exact ⟨cs, rfl, by rw [e, VRels]⟩
    . simp [VRel]
  . simp [VRel]
theorem VRel_cells {z : ZV} {v : Value} (h : VRel S β n z v) (ho : zones (zcells z) = true) : VRels S β n (zcells z) v.cells.toList := by
  have one : ∀ {z : ZV} {v : Value}, VRel S β n z v -> v.cells = #[v] -> VRels S β n [z] v.cells.toList := by
    intro z v h e; rw [e, VRels]; exact ⟨v, [], rfl, h, by simp [VRels]⟩
  cases z with
  | agg l =>
    rw [VRel] at h; obtain ⟨cs, rfl, h⟩ := h; exact h
  | raw u =>
    have h' := h; rw [VRel] at h'; subst h'; have hu : v.oneCell' = true := by simpa [zcells, zones, zone] using ho
    refine one h ?_; cases v <;> first | rfl | (simp [Value.oneCell'] at hu)
  | tup l => simp [zcells, zones, zone] at ho
  | any => simp [zcells, zones, zone] at ho
  | int k a => have h' := h; rw [VRel] at h'; exact one h (by rw [h']; rfl)
  | bool b => have h' := h; rw [VRel] at h'; exact one h (by rw [h']; rfl)
  | str l m => have h' := h; rw [VRel] at h'; exact one h (by rw [h']; rfl)
  | ptr j o => have h' := h; rw [VRel] at h'; obtain ⟨_, k, _, h'⟩ := h'; exact one h (by rw [h']; rfl)
  | sl sz j o m c => have h' := h; rw [VRel] at h'; obtain ⟨_, _, k, q, h', _⟩ := h'; exact one h (by rw [h']; rfl)
  | mp j => have h' := h; rw [VRel] at h'; exact one h (by rw [h'.2]; rfl)
  | yl j => have h' := h; rw [VRel] at h'; exact one h (by rw [h'.2]; rfl)
  | fn f fs caps => have h' := h; rw [VRel] at h'; obtain ⟨_, _, h', _⟩ := h'; exact one h (by rw [h']; rfl)
  | ifc t z => have h' := h; rw [VRel] at h'; obtain ⟨_, h', _⟩ := h'; exact one h (by rw [h']; rfl)
  | dsl sz l =>
    have h' := h; rw [VRel, DRep] at h'; rcases h' with ⟨_, a, c, h', _⟩ | ⟨_, _, _, _, _, _, h', _⟩ <;> exact one h (by rw [h']; rfl)
  | dpt sz l i off => have h' := h; rw [VRel] at h'; obtain ⟨_, _, _, _, _, _, _, _, h'⟩ := h'; exact one h (by rw [h']; rfl)
theorem VRel_one {z : ZV} {v : Value} (h : VRel S β n z v) (ho : zone z = true) : v.oneCell' = true := by
  cases z with
  | agg l => simp [zone] at ho
  | tup l => simp [zone] at ho
  | any => simp [zone] at ho
  | raw u => rw [VRel] at h; subst h; exact ho
  | int k a => rw [VRel] at h; rw [h]; rfl
  | bool b => rw [VRel] at h; rw [h]; rfl
  | str l m => rw [VRel] at h; rw [h]; rfl
  | ptr j o => rw [VRel] at h; obtain ⟨_, k, _, h⟩ := h; rw [h]; rfl
  | sl sz j o m c => rw [VRel] at h; obtain ⟨_, _, k, q, h, _⟩ := h; rw [h]; rfl
  | mp j => rw [VRel] at h; rw [h.2]; rfl
  | yl j => rw [VRel] at h; rw [h.2]; rfl
  | fn f fs caps => rw [VRel] at h; obtain ⟨_, _, h, _⟩ := h; rw [h]; rfl
  | ifc t z => rw [VRel] at h; obtain ⟨_, h, _⟩ := h; rw [h]; rfl
  | dsl sz l =>
    rw [VRel, DRep] at h; rcases h with ⟨_, a, c, h, _⟩ | ⟨_, _, _, _, _, _, h, _⟩ <;> rw [h] <;> rfl
  | dpt sz l i off => rw [VRel] at h; obtain ⟨_, _, _, _, _, _, _, _, h⟩ := h; rw [h]; rfl
theorem VRels_ones : ∀ {z : List ZV} {v : List Value}, VRels S β n z v -> zones z = true -> ∀ u ∈ v, u.oneCell' = true
  | [], v, r, h => by rw [VRels] at r; subst r; simp
  | z :: zs, v, r, h => by
    rw [VRels] at r; obtain ⟨a, as, rfl, h2, h3⟩ := r; simp only [zones, List.all_cons, Bool.and_eq_true] at h; intro u hu; rcases List.mem_cons.1 hu with rfl | hu
    . exact VRel_one h2 h.1
    . exact VRels_ones h3 h.2 u hu
end
end Go.Z
namespace Go.Z
open Go.Eng (TI TD DV DRep DRows DCells Snap nth upd slice' splice)
def isW : ZO -> Bool
  | .ro _ _ _ _ => false
  | _ => true
def jumpOf : ZJ -> Option Code
  | .normal => none
  | .exit i => some (.exit i)
  | .goto l => some (.goto l)
  | .ret => some .ret
def TRel (S : Snap) (β : Nat -> Loc) (n : Nat) (t : Tri ZV) (tm : Array Value) : Prop :=
  ∀ i, VRel S β n ((t.get i).getD zundef) (tm.getD i undef)
theorem TRel.mono {S : Snap} {β β' : Nat -> Loc} {n n' : Nat} {t : Tri ZV} {tm : Array Value} (h : ∀ j, Key β n j -> β' j = β j) (hn : n <= n') (r : TRel S β n t tm) : TRel S β' n' t tm :=
  fun i => VRel_mono h hn _ _ (r i)
def CRel (S : Snap) (β : Nat -> Loc) (n : Nat) (L : Loc) (lo h : Nat) (d : Tri ZV) (cur : Array Value) : Prop :=
  cur.size = L.e /\ 0 <= L.o + lo /\ L.o + h <= L.e /\ ∀ i, lo <= i -> i < h -> ∀ z, d.get i = some z -> ∃ v, cur[(L.o + i).toNat]? = some v /\ VRel S β n z v /\ v.oneCell' = true
def ERels (S : Snap) (β : Nat -> Loc) (n : Nat) (ex : Bool) : List ZEnt -> List MapEntry -> Prop
  | [], l => l = []
  | e :: es, l => ∃ x xs, l = x :: xs /\ VRel S β n e.key x.key /\ VRel S β n e.val x.val /\ (ex = true -> x.born = e.born) /\ ERels S β n ex es xs
def distinct : List ZEnt -> Prop
  | [] => True
  | e :: es => (∀ x ∈ es, zkeyEq e.key x.key = some false) /\ distinct es
def BornsOK (l : List MapEntry) (c : Nat) : Prop := (l.map (·.born)).Nodup /\ ∀ x ∈ l, x.born < c
def ORel (S : Snap) (β : Nat -> Loc) (n : Nat) (w : World) (L : Loc) : ZO -> Prop
  | .cells T lo h d => ∃ cur, w.heap[L.b]? = some (.cells cur T (0, 0)) /\ CRel S β n L lo h d cur
  | .ro T lo h d => ∃ cur fr, w.heap[L.b]? = some (.cells cur T fr) /\ CRel S β n L lo h d cur
  | .map c es => ∃ a : Array MapEntry, w.heap[L.b]? = some (.map a c) /\ ERels S β n true es a.toList
  | .umap es => ∃ (a : Array MapEntry) (c : Nat) (l : List MapEntry), w.heap[L.b]? = some (.map a c) /\ l.Perm a.toList /\ ERels S β n false es l /\ distinct es /\ BornsOK a.toList c
  | .siter l m pos => L.o = 0 /\ w.heap[L.b]? = some (.stringIter (zbytes l m) pos)
  | .miter j => L.o = 0 /\ Key β n j /\ ∃ since seen stepped, w.heap[L.b]? = some (.mapIter (some (β j).b) since seen stepped)
  | .loop p t nt ps a b => ∃ r : Loop, w.heap[L.b]? = some (.loop r) /\ r.tmps.size = nt /\ TRel S β n t r.tmps /\ r.params.toList = ps /\ r.assign = a /\ r.body = b /\
      (match p with
      | none => r.state = .ready /\ r.pending = none
      | some .normal => r.state = .busy
      | some e => r.state = .done /\ r.pending = jumpOf e)
section
variable {S : Snap} {β β' : Nat -> Loc} {n n' : Nat} {w w' w0 : World} {M M' : Tri ZO}
theorem CRel.mono {L : Loc} {lo h : Nat} {d : Tri ZV} {cur : Array Value} (hβ : ∀ j, Key β n j -> β' j = β j) (hn : n <= n') (r : CRel S β n L lo h d cur) : CRel S β' n' L lo h d cur :=
  ⟨r.1, r.2.1, r.2.2.1, fun i h1 h2 z hz => let ⟨v, g1, g2, g3⟩ := r.2.2.2 i h1 h2 z hz; ⟨v, g1, VRel_mono hβ hn _ _ g2, g3⟩⟩
theorem ERels.mono (hβ : ∀ j, Key β n j -> β' j = β j) (hn : n <= n') {ex : Bool} : ∀ {es : List ZEnt} {l : List MapEntry}, ERels S β n ex es l -> ERels S β' n' ex es l
  | [], l, h => by rw [ERels] at h ⊢; exact h
  | e :: es, l, h => by
    rw [ERels] at h ⊢; obtain ⟨x, xs, h1, h2, h3, h4, h5⟩ := h; exact ⟨x, xs, h1, VRel_mono hβ hn _ _ h2, VRel_mono hβ hn _ _ h3, h4, h5.mono hβ hn⟩
theorem ORel.mono {L : Loc} {o : ZO} (hβ : ∀ j, Key β n j -> β' j = β j) (hn : n <= n') (hw : w'.heap[L.b]? = w.heap[L.b]?) (r : ORel S β n w L o) : ORel S β' n' w' L o := by
  cases o with
  | cells T lo h d => obtain ⟨cur, h1, h2⟩ := r; exact ⟨cur, hw.trans h1, h2.mono hβ hn⟩
  | ro T lo h d => obtain ⟨cur, fr, h1, h2⟩ := r; exact ⟨cur, fr, hw.trans h1, h2.mono hβ hn⟩
  | map c es => obtain ⟨a, h1, h2⟩ := r; exact ⟨a, hw.trans h1, h2.mono hβ hn⟩
  | umap es => obtain ⟨a, c, l, h1, h2, h3, h4⟩ := r; exact ⟨a, c, l, hw.trans h1, h2, h3.mono hβ hn, h4⟩
  | siter l m pos => exact ⟨r.1, hw.trans r.2⟩
  | miter j => obtain ⟨h0, h1, s, e, p, h2⟩ := r; exact ⟨h0, h1.mono hβ hn, s, e, p, by rw [hβ j h1]; exact hw.trans h2⟩
  | loop p t nt ps a b => obtain ⟨r, h1, h2, h3, h4⟩ := r; exact ⟨r, hw.trans h1, h2, h3.mono hβ hn, h4⟩
structure ZMem (S : Snap) (w0 : World) (β : Nat -> Loc) (n : Nat) (M : Tri ZO) (w : World) : Prop where
  os : w.os = w0.os
  tape : w.tape = w0.tape
  output : w.output = w0.output
  size : w0.heap.size <= w.heap.size
  old : ∀ b, b < w0.heap.size -> w.heap[b]? = w0.heap[b]?
  sub : ∀ b o, S b = some o -> w0.heap[b]? = some o
  key : ∀ j o, M.get j = some o -> Key β n j /\ (β j).b < w.heap.size /\ ORel S β n w (β j) o
  own : ∀ j o, M.get j = some o -> isW o = true -> w0.heap.size <= (β j).b
  inj : ∀ i j oi oj, M.get i = some oi -> M.get j = some oj -> isW oi = true -> (β i).b = (β j).b -> i = j
  low : ∀ j T h d, M.get j = some (.cells T 0 h d) -> (β j).o = 0
structure ZPost (S : Snap) (w0 : World) (β : Nat -> Loc) (n : Nat) (M : Tri ZO) (w : World) (β' : Nat -> Loc) (n' : Nat) (M' : Tri ZO) (w' : World) : Prop where
  mem : ZMem S w0 β' n' M' w'
  nn : n <= n'
  keep0 : ∀ j, j < n -> β' j = β j
  size : w.heap.size <= w'.heap.size
  frame : ∀ b, b < w.heap.size -> (∀ j o, M.get j = some o -> isW o = true -> (β j).b ≠ b) -> w'.heap[b]? = w.heap[b]?
  rd : ∀ j o, M'.get j = some o -> isW o = false -> M.get j = some o
  wr : ∀ j o, M'.get j = some o -> isW o = true -> (∃ i oi, M.get i = some oi /\ isW oi = true /\ (β i).b = (β' j).b) \/ w.heap.size <= (β' j).b
theorem ZPost.keep (p : ZPost S w0 β n M w β' n' M' w') : ∀ j, Key β n j -> β' j = β j := fun j hj => p.keep0 j hj.1
theorem ZPost.refl (m : ZMem S w0 β n M w) : ZPost S w0 β n M w β n M w :=
  ⟨m, Nat.le_refl _, fun _ _ => rfl, Nat.le_refl _, fun _ _ _ => rfl, fun j o h1 _ => h1, fun j o h1 h2 => .inl ⟨j, o, h1, h2, rfl⟩⟩
theorem ZPost.trans {β'' : Nat -> Loc} {n'' : Nat} {M'' : Tri ZO} {w'' : World} (p : ZPost S w0 β n M w β' n' M' w') (q : ZPost S w0 β' n' M' w' β'' n'' M'' w'') : ZPost S w0 β n M w β'' n'' M'' w'' where
  mem := q.mem
  nn := Nat.le_trans p.nn q.nn
  keep0 := fun j hj => (q.keep0 j (Nat.lt_of_lt_of_le hj p.nn)).trans (p.keep0 j hj)
  rd := fun j o h1 h2 => p.rd j o (q.rd j o h1 h2) h2
  size := Nat.le_trans p.size q.size
  frame := fun b hb h => by
    refine (q.frame b (Nat.lt_of_lt_of_le hb p.size) ?_).trans (p.frame b hb h); intro j o h1 h2 e; rcases p.wr j o h1 h2 with ⟨i, oi, g1, g2, g3⟩ | g
    . exact h i oi g1 g2 (g3.trans e)
    . omega
  wr := fun j o h1 h2 => by
    rcases q.wr j o h1 h2 with ⟨i, oi, g1, g2, g3⟩ | g
    . rcases p.wr i oi g1 g2 with ⟨k, ok, f1, f2, f3⟩ | f
      . exact .inl ⟨k, ok, f1, f2, f3.trans g3⟩
      . exact .inr (by omega)
    . exact .inr (Nat.le_trans p.size g)
theorem ZPost.quiet (m : ZMem S w0 β n M w) (hos : w'.os = w.os) (htp : w'.tape = w.tape) (hout : w'.output = w.output) (hsz : w.heap.size <= w'.heap.size) (hfr : ∀ b, b < w.heap.size -> w'.heap[b]? = w.heap[b]?) : ZPost S w0 β n M w β n M w' where
  mem := ⟨hos.trans m.os, htp.trans m.tape, hout.trans m.output, Nat.le_trans m.size hsz, fun b hb => (hfr b (Nat.lt_of_lt_of_le hb m.size)).trans (m.old b hb), m.sub,
    fun j o h => ⟨(m.key j o h).1, Nat.lt_of_lt_of_le (m.key j o h).2.1 hsz, (m.key j o h).2.2.mono (fun _ _ => rfl) (Nat.le_refl _) (hfr _ (m.key j o h).2.1)⟩, m.own, m.inj, m.low⟩
  nn := Nat.le_refl _
  keep0 := fun _ _ => rfl
  size := hsz
  frame := fun b hb _ => hfr b hb
  rd := fun j o h1 _ => h1
  wr := fun j o h1 h2 => .inl ⟨j, o, h1, h2, rfl⟩
theorem ZPost.one (m : ZMem S w0 β n M w) (k : Nat) (o : ZO) (hk : M'.get k = some o) (hoth : ∀ j, j ≠ k -> ∀ o', M'.get j = some o' -> M.get j = some o')
    (hβ0 : ∀ j, j < n -> β' j = β j) (hn : n <= n') (hkn : Key β' n' k) (ho : ORel S β' n' w' (β' k) o) (hlow : ∀ T h d, o = .cells T 0 h d -> (β' k).o = 0) (hb : (β' k).b < w'.heap.size)
    (hos : w'.os = w.os) (htp : w'.tape = w.tape) (hout : w'.output = w.output) (hsz : w.heap.size <= w'.heap.size)
    (hfr : ∀ b, b < w.heap.size -> b ≠ (β' k).b -> w'.heap[b]? = w.heap[b]?)
    (hsrc : w.heap.size <= (β' k).b \/ ∃ i oi, M.get i = some oi /\ isW oi = true /\ (β i).b = (β' k).b /\ (i ≠ k -> M'.get i = none)) (hwo : isW o = true := by rfl) : ZPost S w0 β n M w β' n' M' w' := by
  have hβ : ∀ j, Key β n j -> β' j = β j := fun j hj => hβ0 j hj.1
  have ne : ∀ j, j ≠ k -> ∀ o', M'.get j = some o' -> (β j).b ≠ (β' k).b := by
    intro j hj o' h e; have hm := hoth j hj o' h; rcases hsrc with g | ⟨i, oi, g1, g2, g3, g4⟩
    . have := (m.key j o' hm).2.1; omega
    . have hij := m.inj i j oi o' g1 hm g2 (g3.trans e.symm); subst hij; rw [g4 hj] at h; cases h
  have hge : w0.heap.size <= (β' k).b := by
    rcases hsrc with g | ⟨i, oi, g1, g2, g3, g4⟩
    . exact Nat.le_trans m.size g
    . rw [<- g3]; exact m.own i oi g1 g2
  refine ⟨⟨hos.trans m.os, htp.trans m.tape, hout.trans m.output, Nat.le_trans m.size hsz, ?_, m.sub, ?_, ?_, ?_, ?_⟩, hn, hβ0, hsz, ?_, ?_, ?_⟩
  . intro b hb'; exact (hfr b (Nat.lt_of_lt_of_le hb' m.size) (by omega)).trans (m.old b hb')
  . intro j o' h; by_cases e : j = k
    . subst e; rw [hk] at h; cases h; exact ⟨hkn, hb, ho⟩
    . have hm := hoth j e o' h; obtain ⟨g1, g2, g3⟩ := m.key j o' hm; refine ⟨g1.mono hβ hn, ?_, ?_⟩
      . rw [hβ j g1]; omega
      . rw [hβ j g1]; exact g3.mono hβ hn (hfr _ g2 (ne j e o' h))
  . intro j o' h hw; by_cases e : j = k
    . subst e; exact hge
    . have hm := hoth j e o' h; rw [hβ j (m.key j o' hm).1]; exact m.own j o' hm hw
  . intro i j oi oj hi hj hw e; by_cases ei : i = k
    . by_cases ej : j = k
      . rw [ei, ej]
      . exfalso; have hm := hoth j ej oj hj; refine ne j ej oj hj ?_; rw [<- hβ j (m.key j oj hm).1, <- e, ei]
    . have hmi := hoth i ei oi hi; by_cases ej : j = k
      . exfalso; refine ne i ei oi hi ?_; rw [<- hβ i (m.key i oi hmi).1, e, ej]
      . have hmj := hoth j ej oj hj; rw [hβ i (m.key i oi hmi).1, hβ j (m.key j oj hmj).1] at e; exact m.inj i j oi oj hmi hmj hw e
  . intro j T h d hj; by_cases e : j = k
    . subst e; rw [hk] at hj; exact hlow T h d (Option.some.inj hj)
    . have hm := hoth j e _ hj; rw [hβ j (m.key j _ hm).1]; exact m.low j T h d hm
  . intro b hb' h; refine hfr b hb' ?_; rintro rfl; rcases hsrc with g | ⟨i, oi, g1, g2, g3, _⟩
    . omega
    . exact h i oi g1 g2 g3
  . intro j o' h hw; by_cases e : j = k
    . subst e; rw [hk] at h; cases h; rw [hwo] at hw; cases hw
    . exact hoth j e o' h
  . intro j o' h hw; by_cases e : j = k
    . subst e; rcases hsrc with g | ⟨i, oi, g1, g2, g3, _⟩
      . exact .inr g
      . exact .inl ⟨i, oi, g1, g2, g3⟩
    . have hm := hoth j e o' h; exact .inl ⟨j, o', hm, hw, by rw [hβ j (m.key j o' hm).1]⟩
theorem ZPost.del (m : ZMem S w0 β n M w) (k : Nat) {o : ZO} (hk : M.get k = some o) (hw : isW o = true)
    (hos : w'.os = w.os) (htp : w'.tape = w.tape) (hout : w'.output = w.output) (hsz : w.heap.size <= w'.heap.size)
    (hfr : ∀ b, b < w.heap.size -> b ≠ (β k).b -> w'.heap[b]? = w.heap[b]?) : ZPost S w0 β n M w β n (M.set k none) w' := by
  have hoth : ∀ j o', (M.set k none).get j = some o' -> j ≠ k /\ M.get j = some o' := by
    intro j o' h; rw [Tri.get_set] at h; split at h
    . cases h
    . rename_i e; exact ⟨fun h => e h.symm, h⟩
  refine ⟨⟨hos.trans m.os, htp.trans m.tape, hout.trans m.output, Nat.le_trans m.size hsz, ?_, m.sub, ?_, ?_, ?_, fun j T h d hj => m.low j T h d (hoth j _ hj).2⟩, Nat.le_refl _, fun _ _ => rfl, hsz, ?_, fun j o' h _ => (hoth j o' h).2, ?_⟩
  . intro b hb'; have := m.own k o hk hw; exact (hfr b (Nat.lt_of_lt_of_le hb' m.size) (by omega)).trans (m.old b hb')
  . intro j o' h; obtain ⟨e, hm⟩ := hoth j o' h; obtain ⟨g1, g2, g3⟩ := m.key j o' hm; refine ⟨g1, by omega, g3.mono (fun _ _ => rfl) (Nat.le_refl _) (hfr _ g2 fun h => ?_)⟩
    exact e (m.inj k j o o' hk hm hw h.symm).symm
  . intro j o' h hw'; exact m.own j o' (hoth j o' h).2 hw'
  . intro i j oi oj hi hj; exact m.inj i j oi oj (hoth i oi hi).2 (hoth j oj hj).2
  . intro b hb' h; exact hfr b hb' fun e => h k o hk hw e.symm
  . intro j o' h hw'; exact .inl ⟨j, o', (hoth j o' h).2, hw', rfl⟩
theorem ZMem.less (m : ZMem S w0 β n M w) (h : ∀ j o, M'.get j = some o -> M.get j = some o) : ZMem S w0 β n M' w :=
  ⟨m.os, m.tape, m.output, m.size, m.old, m.sub, fun j o hj => m.key j o (h j o hj), fun j o hj => m.own j o (h j o hj), fun i j oi oj hi hj => m.inj i j oi oj (h i oi hi) (h j oj hj), fun j T hh d hj => m.low j T hh d (h j _ hj)⟩
def ext (β : Nat -> Loc) (n : Nat) (L : Loc) : Nat -> Loc := fun j => if j = n then L else β j
theorem ext_lt {L : Loc} {j : Nat} (h : j < n) : ext β n L j = β j := by simp [ext, Nat.ne_of_lt h]
theorem ext_same {L : Loc} : ext β n L n = L := by simp [ext]
theorem ZPost.new (m : ZMem S w0 β n M w) (ob : Obj) (o : ZO) (L : Loc) (hL : L.b = w.heap.size) (ho : ORel S (ext β n L) (n + 1) (w.alloc ob) L o) (hlow : ∀ T h d, o = .cells T 0 h d -> L.o = 0) (hLk : L.k = true := by rfl) (hwo : isW o = true := by rfl) : ZPost S w0 β n M w (ext β n L) (n + 1) (M.set n (some o)) (w.alloc ob) := by
  have hs : (w.alloc ob).heap.size = w.heap.size + 1 := by simp
  refine ZPost.one m n o (by rw [Tri.get_set, if_pos rfl]) ?_ (fun j hj => ext_lt hj) (by omega) ⟨by omega, by rw [ext_same]; exact hLk⟩ (by rw [ext_same]; exact ho) (by rw [ext_same]; exact hlow) (by rw [ext_same, hL, hs]; omega) rfl rfl rfl (by omega) ?_ (.inl (by rw [ext_same, hL]; exact Nat.le_refl _)) hwo
  . intro j hj o' h; rw [Tri.get_set, if_neg (fun e => hj e.symm)] at h
    exact h
  . intro b hb _; exact Go.RowKit.Below.heap_alloc w ob b hb
theorem ZPost.put (m : ZMem S w0 β n M w) {k : Nat} {o0 o : ZO} (hk : M.get k = some o0) (hw0 : isW o0 = true) (ho : ORel S β n w' (β k) o) (hlow : ∀ T h d, o = .cells T 0 h d -> ∃ T' h' d', o0 = .cells T' 0 h' d')
    (hos : w'.os = w.os) (htp : w'.tape = w.tape) (hout : w'.output = w.output) (hsz : w'.heap.size = w.heap.size)
    (hfr : ∀ b, b < w.heap.size -> b ≠ (β k).b -> w'.heap[b]? = w.heap[b]?) (hwo : isW o = true := by rfl) : ZPost S w0 β n M w β n (M.set k (some o)) w' := by
  obtain ⟨g1, g2, g3⟩ := m.key k o0 hk; refine ZPost.one m k o (by rw [Tri.get_set, if_pos rfl]) ?_ (fun _ _ => rfl) (Nat.le_refl _) g1 ho (fun T h d e => by obtain ⟨T', h', d', e'⟩ := hlow T h d e; subst e'; exact m.low k T' h' d' hk) (by omega) hos htp hout (by omega) hfr (.inr ⟨k, o0, hk, hw0, rfl, fun h => absurd rfl h⟩) hwo
  intro j hj o' h; rw [Tri.get_set, if_neg (fun e => hj e.symm)] at h
  exact h
end
end Go.Z
