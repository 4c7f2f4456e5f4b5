/- Types, and pure functions as the Go text has them (printed by a program of ours). -/
import Derived.Test.YtjabmpfcpekpdaaGreatFwS
import Derived.Test.YtjabmpfcpekpdaaGreatFwV
namespace Go.Proofs.YtjabmpfcpekpdaaGreat
open Go Go.Fw
set_option linter.unusedVariables false
set_option linter.unusedSimpArgs false
set_option maxRecDepth 8000
set_option maxHeartbeats 1000000
abbrev eI64 : Elem Int := flat 1 (fun x => [.int .i64 x]) (fun _ => ⟨rfl, rfl⟩)
abbrev eU64 : Elem Int := flat 1 (fun x => [.int .u64 x]) (fun _ => ⟨rfl, rfl⟩)
abbrev eU8 : Elem Int := flat 1 (fun x => [.int .u8 x]) (fun _ => ⟨rfl, rfl⟩)
abbrev eI32 : Elem Int := flat 1 (fun x => [.int .i32 x]) (fun _ => ⟨rfl, rfl⟩)
abbrev eB : Elem Bool := flat 1 (fun x => [.bool x]) (fun _ => ⟨rfl, rfl⟩)
structure Rows where
  Rows : Int
  Cols : Int
  Start : List Int
  Col : List Int
  Val : List Int
deriving DecidableEq, Inhabited
def eRows : Elem Rows where
  sz := 5
  rep I cs x := ∃ a2 c2 a3 c3 a4 c4, cs = [.int .i64 x.Rows, .int .i64 x.Cols, .slice a2 x.Start.length c2, .slice a3 x.Col.length c3, .slice a4 x.Val.length c4] ∧ RepSl eI64 I a2 c2 x.Start ∧ RepSl eI64 I a3 c3 x.Col ∧ RepSl eI64 I a4 c4 x.Val
  mono hle := fun ⟨a2, c2, a3, c3, a4, c4, e, h0, h1, h2⟩ => ⟨a2, c2, a3, c3, a4, c4, e, h0.mono hle, h1.mono hle, h2.mono hle⟩
  len := fun ⟨a2, c2, a3, c3, a4, c4, e, _, _, _⟩ => by rw [e]; rfl
  one := fun ⟨a2, c2, a3, c3, a4, c4, e, _, _, _⟩ => by rw [e]; rfl
structure Triple where
  Row : Int
  Col : Int
  Val : Int
deriving DecidableEq, Inhabited
def encTriple (x : Triple) : List Value := [.int .i64 x.Row, .int .i64 x.Col, .int .i64 x.Val]
abbrev eTriple : Elem Triple := flat 3 encTriple (fun _ => ⟨rfl, rfl⟩)
structure Wide where
  Hi : Int
  Lo : Int
deriving DecidableEq, Inhabited
def encWide (x : Wide) : List Value := [.int .i64 x.Hi, .int .u64 x.Lo]
abbrev eWide : Elem Wide := flat 2 encWide (fun _ => ⟨rfl, rfl⟩)
structure Edge where
  From : Int
  To : Int
  W : Int
deriving DecidableEq, Inhabited
def encEdge (x : Edge) : List Value := [.int .i64 x.From, .int .i64 x.To, .int .i64 x.W]
abbrev eEdge : Elem Edge := flat 3 encEdge (fun _ => ⟨rfl, rfl⟩)
structure Item where
  At : Int
  Val : Int
deriving DecidableEq, Inhabited
def encItem (x : Item) : List Value := [.int .i64 x.At, .int .i64 x.Val]
abbrev eItem : Elem Item := flat 2 encItem (fun _ => ⟨rfl, rfl⟩)
structure Law13_Task where
  Ring : Int
  Size : Int × Int
  L : List Triple
  X : List Item
  Y : List Item
  F : List Int
  Others : Bool
deriving DecidableEq, Inhabited
def eLaw13_Task : Elem Law13_Task where
  sz := 8
  rep I cs x := ∃ a3 c3 a4 c4 a5 c5 a6 c6, cs = [.int .i64 x.Ring, .int .u8 x.Size.1, .int .u8 x.Size.2, .slice a3 x.L.length c3, .slice a4 x.X.length c4, .slice a5 x.Y.length c5, .slice a6 x.F.length c6, .bool x.Others] ∧ RepSl eTriple I a3 c3 x.L ∧ RepSl eItem I a4 c4 x.X ∧ RepSl eItem I a5 c5 x.Y ∧ RepSl eU64 I a6 c6 x.F
  mono hle := fun ⟨a3, c3, a4, c4, a5, c5, a6, c6, e, h0, h1, h2, h3⟩ => ⟨a3, c3, a4, c4, a5, c5, a6, c6, e, h0.mono hle, h1.mono hle, h2.mono hle, h3.mono hle⟩
  len := fun ⟨a3, c3, a4, c4, a5, c5, a6, c6, e, _, _, _, _⟩ => by rw [e]; rfl
  one := fun ⟨a3, c3, a4, c4, a5, c5, a6, c6, e, _, _, _, _⟩ => by rw [e]; rfl
structure Law15_Task where
  Ring : Int
  Size : Int × Int × Int
  A : List Triple
  B : List Triple
  M : List Triple
deriving DecidableEq, Inhabited
def eLaw15_Task : Elem Law15_Task where
  sz := 7
  rep I cs x := ∃ a4 c4 a5 c5 a6 c6, cs = [.int .i64 x.Ring, .int .u8 x.Size.1, .int .u8 x.Size.2.1, .int .u8 x.Size.2.2, .slice a4 x.A.length c4, .slice a5 x.B.length c5, .slice a6 x.M.length c6] ∧ RepSl eTriple I a4 c4 x.A ∧ RepSl eTriple I a5 c5 x.B ∧ RepSl eTriple I a6 c6 x.M
  mono hle := fun ⟨a4, c4, a5, c5, a6, c6, e, h0, h1, h2⟩ => ⟨a4, c4, a5, c5, a6, c6, e, h0.mono hle, h1.mono hle, h2.mono hle⟩
  len := fun ⟨a4, c4, a5, c5, a6, c6, e, _, _, _⟩ => by rw [e]; rfl
  one := fun ⟨a4, c4, a5, c5, a6, c6, e, _, _, _⟩ => by rw [e]; rfl
structure Cell where
  Row : Int
  Col : Int
  Val : Wide
deriving DecidableEq, Inhabited
def encCell (x : Cell) : List Value := [.int .i64 x.Row, .int .i64 x.Col, .int .i64 x.Val.Hi, .int .u64 x.Val.Lo]
abbrev eCell : Elem Cell := flat 4 encCell (fun _ => ⟨rfl, rfl⟩)
structure Dense where
  N : Int
  Has : List Int
  Vals : List Int
deriving DecidableEq, Inhabited
def eDense : Elem Dense where
  sz := 3
  rep I cs x := ∃ a1 c1 a2 c2, cs = [.int .i64 x.N, .slice a1 x.Has.length c1, .slice a2 x.Vals.length c2] ∧ RepSl eU64 I a1 c1 x.Has ∧ RepSl eI64 I a2 c2 x.Vals
  mono hle := fun ⟨a1, c1, a2, c2, e, h0, h1⟩ => ⟨a1, c1, a2, c2, e, h0.mono hle, h1.mono hle⟩
  len := fun ⟨a1, c1, a2, c2, e, _, _⟩ => by rw [e]; rfl
  one := fun ⟨a1, c1, a2, c2, e, _, _⟩ => by rw [e]; rfl
structure Sum where
  At : Int
  Val : Wide
deriving DecidableEq, Inhabited
def encSum (x : Sum) : List Value := [.int .i64 x.At, .int .i64 x.Val.Hi, .int .u64 x.Val.Lo]
abbrev eSum : Elem Sum := flat 3 encSum (fun _ => ⟨rfl, rfl⟩)
structure Vec where
  N : Int
  Items : List Item
deriving DecidableEq, Inhabited
def eVec : Elem Vec where
  sz := 2
  rep I cs x := ∃ a1 c1, cs = [.int .i64 x.N, .slice a1 x.Items.length c1] ∧ RepSl eItem I a1 c1 x.Items
  mono hle := fun ⟨a1, c1, e, h0⟩ => ⟨a1, c1, e, h0.mono hle⟩
  len := fun ⟨a1, c1, e, _⟩ => by rw [e]; rfl
  one := fun ⟨a1, c1, e, _⟩ => by rw [e]; rfl

def law15_small (a0 : Int) (Q : Int → Prop) : Prop :=
  Q (a0.tmod 14)

def law13_Right (a0 : Int) (Q : Int → Prop) : Prop :=
  ifP (decide (a0 < 1)) (Q 1) (ifP (decide (5 < a0)) (Q 1) (Q a0))

def ref02_Is (a0 : Int) (Q : Bool → Prop) : Prop :=
  ifP (decide (1 ≤ a0)) (Q (decide (a0 ≤ 5))) (Q false)

def ref07_Empty (a0 : Int) (a1 : Int) (Q : Rows → Prop) : Prop :=
  mkP 8 (w64 (a0 + 1)) 0 fun _ => Q ({ Rows := a0, Cols := a1, Start := (List.replicate (w64 (a0 + 1)).toNat 0), Col := ([] : List Int), Val := ([] : List Int) } : Rows)

def ref07_built (a0 : Int) (a1 : Int) (a2 : List Triple) (Q : Rows → Prop) : Prop :=
  ref07_Empty a0 a1 fun r38 => loopP (fun (s : (List Int) × (List Int) × (List Int) × Int) (next403 : ((List Int) × (List Int) × (List Int) × Int) → Prop) => match s with | (s390, s394, s398, s402) => ifP (decide (s402 < (a2.length : Int))) (idxP a2 s402 fun x431 => appP 8 s394 ([x431.Col]) fun _ => idxP a2 s402 fun x467 => appP 8 s398 ([x467.Val]) fun _ => idxP a2 s402 fun x491 => loopP (fun (s : (List Int) × Int) (next539 : ((List Int) × Int) → Prop) => match s with | (s534, s538) => ifP (decide (s538 ≤ a0)) (idxP s534 s538 fun x547 => idxP s534 s538 fun x552 => next539 ((s534.set s538.toNat (w64 (x547 + 1))), w64 (s538 + 1))) (next403 (s534, (s394 ++ ([x431.Col])), (s398 ++ ([x467.Val])), w64 (s402 + 1)))) (s390, w64 (x491.Row + 1))) (Q ({ Rows := r38.Rows, Cols := r38.Cols, Start := s390, Col := s394, Val := s398 } : Rows))) (r38.Start, r38.Col, r38.Val, 0)

def ref01_Add (a0 : Wide) (a1 : Wide) (Q : Wide → Prop) : Prop :=
  ifP (decide ((IntKind.wrap .u64 (a0.Lo + a1.Lo)) < a0.Lo)) (Q ({ Hi := w64 ((w64 (a0.Hi + a1.Hi)) + 1), Lo := IntKind.wrap .u64 (a0.Lo + a1.Lo) } : Wide)) (Q ({ Hi := w64 (a0.Hi + a1.Hi), Lo := IntKind.wrap .u64 (a0.Lo + a1.Lo) } : Wide))

def ref01_Compare (a0 : Wide) (a1 : Wide) (Q : Int → Prop) : Prop :=
  joinP (fun (k15 : Unit → Prop) => ifP (decide (a0.Hi < a1.Hi)) (Q (-1)) (ifP (a0.Hi == a1.Hi) (ifP (decide (a0.Lo < a1.Lo)) (Q (-1)) (k15 ())) (k15 ()))) fun _ => ifP (a0 == a1) (Q 0) (Q 1)

def ref02_truth (a0 : Bool) (Q : Wide → Prop) : Prop :=
  ifP a0 (Q ({ Hi := 0, Lo := 1 } : Wide)) (Q ({ Hi := 0, Lo := 0 } : Wide))

def ref02_Add (a0 : Int) (a1 : Wide) (a2 : Wide) (Q : Wide → Prop) : Prop :=
  joinP (fun (k18 : Bool → Prop) => ifP (a0 == 1) (k18 (a0 == 1)) (ifP (a0 == 3) (k18 (a0 == 3)) (k18 (a0 == 4)))) fun s17 => ifP s17 (ref01_Compare a2 a1 fun r24 => ifP (decide (r24 < 0)) (Q a2) (Q a1)) (ifP (a0 == 2) (ifP (!(a1 == ({ Hi := 0, Lo := 0 } : Wide))) (ref02_truth true fun r31 => Q r31) (ref02_truth (!(a2 == ({ Hi := 0, Lo := 0 } : Wide))) fun r35 => Q r35)) (ifP (a0 == 5) (ref01_Add a1 a2 fun r40 => Q r40) (Q ({ Hi := 0, Lo := 0 } : Wide))))

def ref01_Of (a0 : Int) (Q : Wide → Prop) : Prop :=
  ifP (decide (a0 < 0)) (Q ({ Hi := (-1), Lo := IntKind.wrap .u64 (a0) } : Wide)) (Q ({ Hi := 0, Lo := IntKind.wrap .u64 (a0) } : Wide))

def ref01_Narrow (a0 : Wide) (Q : (Int × Bool) → Prop) : Prop :=
  ifP (a0.Hi == 0) (ifP (decide (0 ≤ (w64 (a0.Lo)))) (Q (w64 (a0.Lo), true)) (ifP (a0.Hi == (-1)) (ifP (decide ((w64 (a0.Lo)) < 0)) (Q (w64 (a0.Lo), true)) (Q (0, false))) (Q (0, false)))) (ifP (a0.Hi == (-1)) (ifP (decide ((w64 (a0.Lo)) < 0)) (Q (w64 (a0.Lo), true)) (Q (0, false))) (Q (0, false)))

def ref05_below (a0 : Edge) (a1 : Edge) (Q : Bool → Prop) : Prop :=
  ifP (decide (a0.From < a1.From)) (Q true) (ifP (a0.From == a1.From) (Q (decide (a0.To < a1.To))) (Q false))

def ref05_Combine (a0 : Int) (a1 : List Edge) (Q : ((List Edge) × Int) → Prop) : Prop :=
  ref02_Is a0 fun r12 => ifP (!r12) (Q (([] : List Edge), 8)) (loopP (fun (s : (List Edge) × (List Wide) × Int) (next2667 : ((List Edge) × (List Wide) × Int) → Prop) => match s with | (s2656, s2660, s2664) => ifP (decide (s2664 < (a1.length : Int))) (joinP (fun (k2821 : Int → Prop) => loopP (fun (s2869 : Int) (next2870 : Int → Prop) => ifP (decide (s2869 < (s2656.length : Int))) (idxP s2656 s2869 fun x2878 => idxP a1 s2664 fun x2883 => ref05_below x2878 x2883 fun r2891 => ifP r2891 (next2870 (w64 (s2869 + 1))) (k2821 s2869)) (k2821 s2869)) 0) fun s2820 => idxP a1 s2664 fun x2915 => ref01_Of x2915.W fun r2923 => joinP (fun (k3056 : Bool → Prop) => ifP (decide (s2820 < (s2656.length : Int))) (idxP a1 s2664 fun x3061 => idxP s2656 s2820 fun x3070 => ref05_below x3061 x3070 fun r3074 => k3056 (!r3074)) (k3056 false)) fun s3055 => ifP s3055 (idxP s2660 s2820 fun x3086 => ref02_Add a0 x3086 r2923 fun r3090 => idxP s2660 s2820 fun x3095 => next2667 (s2656, (s2660.set s2820.toNat r3090), w64 (s2664 + 1))) (appP 24 s2656 ([({ From := 0, To := 0, W := 0 } : Edge)]) fun _ => appP 16 s2660 ([({ Hi := 0, Lo := 0 } : Wide)]) fun _ => loopP (fun (s : (List Edge) × (List Wide) × Int) (next3289 : ((List Edge) × (List Wide) × Int) → Prop) => match s with | (s3280, s3284, s3288) => ifP (decide (s2820 < s3288)) (idxP s3280 (w64 (s3288 - 1)) fun x3298 => idxP s3280 s3288 fun x3303 => idxP s3284 (w64 (s3288 - 1)) fun x3306 => idxP s3284 s3288 fun x3311 => next3289 ((s3280.set s3288.toNat x3298), (s3284.set s3288.toNat x3306), w64 (s3288 - 1))) (idxP a1 s2664 fun x3316 => idxP a1 s2664 fun x3325 => idxP s3280 s2820 fun x3334 => idxP s3284 s2820 fun x3339 => next2667 ((s3280.set s2820.toNat ({ From := x3316.From, To := x3325.To, W := 0 } : Edge)), (s3284.set s2820.toNat r2923), w64 (s2664 + 1)))) ((s2656 ++ ([({ From := 0, To := 0, W := 0 } : Edge)])), (s2660 ++ ([({ Hi := 0, Lo := 0 } : Wide)])), w64 (((s2656 ++ ([({ From := 0, To := 0, W := 0 } : Edge)])).length : Int) - 1)))) (loopP (fun (s : (List Edge) × Int) (next3415 : ((List Edge) × Int) → Prop) => match s with | (s3410, s3414) => ifP (decide (s3414 < (s3410.length : Int))) (idxP s2660 s3414 fun x3431 => ref01_Narrow x3431 fun r3435 => ifP (!r3435.2) (Q (([] : List Edge), 12)) (idxP s3410 s3414 fun x3441 => next3415 ((s3410.set s3414.toNat ({ From := x3441.From, To := x3441.To, W := r3435.1 } : Edge)), w64 (s3414 + 1)))) (Q (s3410, 0))) (s2656, 0))) (([] : List Edge), ([] : List Wide), 0))

def ref07_Of (a0 : Int) (a1 : Int) (a2 : Int) (a3 : List Triple) (Q : (Rows × Int) → Prop) : Prop :=
  ref02_Is a0 fun r22 => ifP (!r22) (Q (({ Rows := 0, Cols := 0, Start := ([] : List Int), Col := ([] : List Int), Val := ([] : List Int) } : Rows), 8)) (ifP (decide (a1 < 0)) (Q (({ Rows := 0, Cols := 0, Start := ([] : List Int), Col := ([] : List Int), Val := ([] : List Int) } : Rows), 3)) (ifP (decide (4096 < a1)) (Q (({ Rows := 0, Cols := 0, Start := ([] : List Int), Col := ([] : List Int), Val := ([] : List Int) } : Rows), 3)) (ifP (decide (a2 < 0)) (Q (({ Rows := 0, Cols := 0, Start := ([] : List Int), Col := ([] : List Int), Val := ([] : List Int) } : Rows), 3)) (ifP (decide (4096 < a2)) (Q (({ Rows := 0, Cols := 0, Start := ([] : List Int), Col := ([] : List Int), Val := ([] : List Int) } : Rows), 3)) (ifP (decide (65536 < (a3.length : Int))) (Q (({ Rows := 0, Cols := 0, Start := ([] : List Int), Col := ([] : List Int), Val := ([] : List Int) } : Rows), 5)) (loopP (fun (s : (List Edge) × Int) (next662 : ((List Edge) × Int) → Prop) => match s with | (s656, s660) => ifP (decide (s660 < (a3.length : Int))) (idxP a3 s660 fun x708 => ifP (decide (x708.Row < 0)) (Q (({ Rows := 0, Cols := 0, Start := ([] : List Int), Col := ([] : List Int), Val := ([] : List Int) } : Rows), 3)) (idxP a3 s660 fun x718 => ifP (decide (a1 ≤ x718.Row)) (Q (({ Rows := 0, Cols := 0, Start := ([] : List Int), Col := ([] : List Int), Val := ([] : List Int) } : Rows), 3)) (idxP a3 s660 fun x728 => ifP (decide (x728.Col < 0)) (Q (({ Rows := 0, Cols := 0, Start := ([] : List Int), Col := ([] : List Int), Val := ([] : List Int) } : Rows), 3)) (idxP a3 s660 fun x738 => ifP (decide (a2 ≤ x738.Col)) (Q (({ Rows := 0, Cols := 0, Start := ([] : List Int), Col := ([] : List Int), Val := ([] : List Int) } : Rows), 3)) (idxP a3 s660 fun x749 => idxP a3 s660 fun x758 => idxP a3 s660 fun x767 => appP 24 s656 ([({ From := x749.Row, To := x758.Col, W := x767.Val } : Edge)]) fun _ => next662 ((s656 ++ ([({ From := x749.Row, To := x758.Col, W := x767.Val } : Edge)])), w64 (s660 + 1))))))) (ref05_Combine a0 s656 fun r800 => ifP (r800.2 != 0) (Q (({ Rows := 0, Cols := 0, Start := ([] : List Int), Col := ([] : List Int), Val := ([] : List Int) } : Rows), r800.2)) (loopP (fun (s : (List Triple) × Int) (next906 : ((List Triple) × Int) → Prop) => match s with | (s900, s904) => ifP (decide (s904 < (r800.1.length : Int))) (idxP r800.1 s904 fun x914 => idxP r800.1 s904 fun x923 => idxP r800.1 s904 fun x932 => appP 24 s900 ([({ Row := x914.From, Col := x923.To, Val := x932.W } : Triple)]) fun _ => next906 ((s900 ++ ([({ Row := x914.From, Col := x923.To, Val := x932.W } : Triple)])), w64 (s904 + 1))) (ref07_built a1 a2 s900 fun r951 => Q (r951, 0))) (([] : List Triple), 0)))) (([] : List Edge), 0)))))))

def law07_Size (a0 : Int) (Q : Int → Prop) : Prop :=
  Q ((w64 (a0)).tmod 40)

def law07_Few (a0 : List Triple) (Q : (List Triple) → Prop) : Prop :=
  ifP (decide (60 < (a0.length : Int))) (slP a0 0 60 fun _ => Q ((a0.take (Int.toNat 60)).drop (Int.toNat 0))) (Q a0)

def law07_Some (a0 : Int × Int) (a1 : List Triple) (Q : Rows → Prop) : Prop :=
  law07_Size a0.1 fun r29 => law07_Size a0.2 fun r33 => law07_Few a1 fun r47 => loopP (fun (s : (List Triple) × Int) (next310 : ((List Triple) × Int) → Prop) => match s with | (s304, s308) => ifP (decide (s308 < (r47.length : Int))) (idxP r47 s308 fun x328 => ifP (decide (x328.Row < 0)) (next310 (s304, w64 (s308 + 1))) (ifP (decide (x328.Col < 0)) (next310 (s304, w64 (s308 + 1))) (ifP (r29 == 0) (next310 (s304, w64 (s308 + 1))) (ifP (r33 == 0) (next310 (s304, w64 (s308 + 1))) (nzP r29 <| nzP r33 <| appP 24 s304 ([({ Row := x328.Row.tmod r29, Col := x328.Col.tmod r33, Val := x328.Val } : Triple)]) fun _ => next310 ((s304 ++ ([({ Row := x328.Row.tmod r29, Col := x328.Col.tmod r33, Val := x328.Val } : Triple)])), w64 (s308 + 1))))))) (ref07_Of 1 r29 r33 s304 fun r385 => ifP (r385.2 != 0) (ref07_Empty r29 r33 fun r406 => Q r406) (Q r385.1))) (([] : List Triple), 0)

def law02_Value (a0 : Int) (a1 : Int) (Q : Int → Prop) : Prop :=
  ifP (a0 == 5) (Q a1) (ifP (a0 == 2) (Q (bnd .i64 a1 1)) (ifP (((bnd .i64 a1 4611686018427387903).tmod 5) == 0) (Q 4611686018427387904) (Q (bnd .i64 a1 4611686018427387903))))

def law02_Factor (a0 : Int) (a1 : Int) (Q : Int → Prop) : Prop :=
  ifP (a0 == 5) (Q (a1.tmod 2147483648)) (law02_Value a0 a1 fun r2 => Q r2)

def law13_Task_Matrix (a0 : Law13_Task) (Q : Rows → Prop) : Prop :=
  law07_Some a0.Size a0.L fun r48 => law13_Right a0.Ring fun r70 => loopP (fun (s : (List Int) × Int) (next138 : ((List Int) × Int) → Prop) => match s with | (s132, s136) => ifP (decide (s136 < (r48.Val.length : Int))) (idxP r48.Val s136 fun x145 => law02_Factor r70 x145 fun r153 => appP 8 s132 ([r153]) fun _ => next138 ((s132 ++ ([r153])), w64 (s136 + 1))) (Q ({ Rows := r48.Rows, Cols := r48.Cols, Start := r48.Start, Col := r48.Col, Val := s132 } : Rows))) (([] : List Int), 0)

def law15_Task_Three (a0 : Law15_Task) (Q : (Rows × Rows × Rows) → Prop) : Prop :=
  law15_small a0.Size.1 fun r57 => law15_small a0.Size.2.1 fun r61 => law15_small a0.Size.2.2 fun r65 => law13_Task_Matrix ({ Ring := a0.Ring, Size := (r57, r61), L := a0.A, X := ([] : List Item), Y := ([] : List Item), F := ([] : List Int), Others := false } : Law13_Task) fun r79 => law13_Task_Matrix ({ Ring := a0.Ring, Size := (r61, r65), L := a0.B, X := ([] : List Item), Y := ([] : List Item), F := ([] : List Int), Others := false } : Law13_Task) fun r95 => law13_Task_Matrix ({ Ring := a0.Ring, Size := (r57, r65), L := a0.M, X := ([] : List Item), Y := ([] : List Item), F := ([] : List Int), Others := false } : Law13_Task) fun r112 => Q (r79, r95, r112)

def csr_within (a0 : Int) (a1 : Int) (Q : Bool → Prop) : Prop :=
  ifP (decide (0 ≤ a0)) (Q (decide (a0 ≤ a1))) (Q false)

def cmp_isNaN_int (a0 : Int) (Q : Bool → Prop) : Prop :=
  Q (a0 != a0)

def cmp_Less_int (a0 : Int) (a1 : Int) (Q : Bool → Prop) : Prop :=
  cmp_isNaN_int a0 fun r1 => ifP r1 (cmp_isNaN_int a1 fun r6 => ifP (!r6) (Q true) (Q (decide (a0 < a1)))) (Q (decide (a0 < a1)))

def slices_IsSorted_int_int (a0 : List Int) (Q : Bool → Prop) : Prop :=
  loopP (fun (s57 : Int) (next58 : Int → Prop) => ifP (decide (0 < s57)) (idxP a0 s57 fun x64 => idxP a0 (w64 (s57 - 1)) fun x73 => cmp_Less_int x64 x73 fun r81 => ifP r81 (Q false) (next58 (w64 (s57 - 1)))) (Q true)) (w64 ((a0.length : Int) - 1))

def csr_row (a0 : List Int) (a1 : Int) (Q : Bool → Prop) : Prop :=
  loopP (fun (s68 : Int) (next69 : Int → Prop) => ifP (decide (s68 < (a0.length : Int))) (idxP a0 s68 fun x84 => csr_within x84 (w64 (a1 - 1)) fun r92 => ifP (!r92) (Q false) (ifP (decide (0 < s68)) (idxP a0 (w64 (s68 - 1)) fun x99 => ifP (decide (x84 ≤ x99)) (Q false) (next69 (w64 (s68 + 1)))) (next69 (w64 (s68 + 1))))) (Q true)) 0

def csr_Right (a0 : Rows) (Q : Bool → Prop) : Prop :=
  csr_within a0.Rows 4096 fun r27 => ifP (!r27) (Q false) (csr_within a0.Cols 4096 fun r32 => ifP (!r32) (Q false) (ifP ((a0.Start.length : Int) != (w64 (a0.Rows + 1))) (Q false) (ifP ((a0.Val.length : Int) != (a0.Col.length : Int)) (Q false) (ifP (decide (65536 < (a0.Col.length : Int))) (Q false) (idxP a0.Start 0 fun x66 => ifP (x66 != 0) (Q false) (idxP a0.Start a0.Rows fun x76 => ifP (x76 != (a0.Col.length : Int)) (Q false) (slices_IsSorted_int_int a0.Start fun r85 => ifP (!r85) (Q false) (loopP (fun (s163 : Int) (next164 : Int → Prop) => ifP (decide (s163 < a0.Rows)) (idxP a0.Start s163 fun x170 => idxP a0.Start (w64 (s163 + 1)) fun x179 => slP a0.Col x170 x179 fun _ => csr_row ((a0.Col.take x179.toNat).drop x170.toNat) a0.Cols fun r197 => ifP (!r197) (Q false) (next164 (w64 (s163 + 1)))) (Q true)) 0))))))))

def csr_empty (a0 : Int) (a1 : Int) (Q : Rows → Prop) : Prop :=
  mkP 8 (w64 (a0 + 1)) 0 fun _ => Q ({ Rows := a0, Cols := a1, Start := (List.replicate (w64 (a0 + 1)).toNat 0), Col := ([] : List Int), Val := ([] : List Int) } : Rows)

def csr_sure (a0 : Rows) (Q : Rows → Prop) : Prop :=
  csr_Right a0 fun r27 => ifP r27 (Q a0) (csr_empty 0 0 fun r32 => Q r32)

def csr_bounds (a0 : Int × Int) (a1 : Int) (Q : (Int × Int) → Prop) : Prop :=
  ifP (decide ((if a1 < a0.2 then a1 else a0.2) ≤ (if 0 > a0.1 then 0 else a0.1))) (Q ((if 0 > a0.1 then 0 else a0.1), 0)) (Q ((if 0 > a0.1 then 0 else a0.1), w64 ((if a1 < a0.2 then a1 else a0.2) - (if 0 > a0.1 then 0 else a0.1))))

def csr_part (a0 : Rows) (a1 : Int) (Q : ((List Int) × (List Int)) → Prop) : Prop :=
  idxP a0.Start a1 fun x39 => idxP a0.Start (w64 (a1 + 1)) fun x48 => slP a0.Col x39 x48 fun _ => slP a0.Val x39 x48 fun _ => Q (((a0.Col.take x48.toNat).drop x39.toNat), ((a0.Val.take x48.toNat).drop x39.toNat))

def csr_Row (a0 : Rows) (a1 : Int) (Q : (List Item) → Prop) : Prop :=
  csr_sure a0 fun r33 => csr_within a1 (w64 (r33.Rows - 1)) fun r54 => ifP (!r54) (Q ([] : List Item)) (csr_part r33 a1 fun r73 => loopP (fun (s : (List Item) × Int) (next161 : ((List Item) × Int) → Prop) => match s with | (s155, s159) => ifP (decide (s159 < (r73.1.length : Int))) (idxP r73.1 s159 fun x168 => idxP r73.2 s159 fun x177 => appP 16 s155 ([({ At := x168, Val := x177 } : Item)]) fun _ => next161 ((s155 ++ ([({ At := x168, Val := x177 } : Item)])), w64 (s159 + 1))) (Q s155)) (([] : List Item), 0))

def csr_built (a0 : Int) (a1 : Int) (a2 : List Triple) (Q : Rows → Prop) : Prop :=
  csr_empty a0 a1 fun r38 => loopP (fun (s : (List Int) × (List Int) × (List Int) × Int) (next427 : ((List Int) × (List Int) × (List Int) × Int) → Prop) => match s with | (s414, s418, s422, s426) => ifP (decide (s426 < (a2.length : Int))) (idxP a2 s426 fun x445 => idxP s414 (w64 (x445.Row + 1)) fun x464 => idxP s414 (w64 (x445.Row + 1)) fun x469 => appP 8 s418 ([x445.Col]) fun _ => appP 8 s422 ([x445.Val]) fun _ => next427 ((s414.set ((w64 (x445.Row + 1)).toNat) (w64 (x464 + 1))), (s418 ++ ([x445.Col])), (s422 ++ ([x445.Val])), w64 (s426 + 1))) (loopP (fun (s : (List Int) × Int) (next535 : ((List Int) × Int) → Prop) => match s with | (s530, s534) => ifP (decide (s534 < a0)) (idxP s530 (w64 (s534 + 1)) fun x546 => idxP s530 s534 fun x551 => idxP s530 (w64 (s534 + 1)) fun x554 => next535 ((s530.set ((w64 (s534 + 1)).toNat) (w64 (x546 + x551))), w64 (s534 + 1))) (Q ({ Rows := r38.Rows, Cols := r38.Cols, Start := s530, Col := s418, Val := s422 } : Rows))) (s414, 0))) (r38.Start, r38.Col, r38.Val, 0)

def csr_Cut (a0 : Rows) (a1 : Int × Int) (a2 : Int × Int) (Q : Rows → Prop) : Prop :=
  csr_sure a0 fun r51 => csr_bounds a1 r51.Rows fun r71 => csr_bounds a2 r51.Cols fun r79 => loopP (fun (s : (List Triple) × Int) (next446 : ((List Triple) × Int) → Prop) => match s with | (s440, s444) => ifP (decide (s444 < r71.2)) (csr_Row r51 (w64 (r71.1 + s444)) fun r464 => loopP (fun (s : (List Triple) × Int) (next576 : ((List Triple) × Int) → Prop) => match s with | (s571, s575) => ifP (decide (s575 < (r464.length : Int))) (idxP r464 s575 fun x595 => joinP (fun (k608 : Bool → Prop) => ifP (decide (r79.1 ≤ x595.At)) (k608 (decide ((w64 (x595.At - r79.1)) < r79.2))) (k608 false)) fun s607 => ifP s607 (appP 24 s571 ([({ Row := s444, Col := w64 (x595.At - r79.1), Val := x595.Val } : Triple)]) fun _ => next576 ((s571 ++ ([({ Row := s444, Col := w64 (x595.At - r79.1), Val := x595.Val } : Triple)])), w64 (s575 + 1))) (next576 (s571, w64 (s575 + 1)))) (next446 (s571, w64 (s444 + 1)))) (s440, 0)) (csr_built r71.2 r79.2 s440 fun r627 => Q r627)) (([] : List Triple), 0)

def gemm_sure (a0 : List Rows) (Q : (List Rows) → Prop) : Prop :=
  loopP (fun (s : (List Rows) × Int) (next180 : ((List Rows) × Int) → Prop) => match s with | (s174, s178) => ifP (decide (s178 < (a0.length : Int))) (idxP a0 s178 fun x206 => csr_Right x206 fun r225 => ifP (!r225) (csr_Cut x206 (0, 0) (0, 0) fun r230 => appP 88 s174 ([r230]) fun _ => next180 ((s174 ++ ([r230])), w64 (s178 + 1))) (appP 88 s174 ([x206]) fun _ => next180 ((s174 ++ ([x206])), w64 (s178 + 1)))) (Q s174)) (([] : List Rows), 0)

def ring_Is (a0 : Int) (Q : Bool → Prop) : Prop :=
  ifP (decide (0 < a0)) (Q (decide (a0 < 6))) (Q false)

def gemm_part (a0 : Rows) (a1 : Int) (Q : ((List Int) × (List Int)) → Prop) : Prop :=
  idxP a0.Start a1 fun x39 => idxP a0.Start (w64 (a1 + 1)) fun x48 => slP a0.Col x39 x48 fun _ => slP a0.Val x39 x48 fun _ => Q (((a0.Col.take x48.toNat).drop x39.toNat), ((a0.Val.take x48.toNat).drop x39.toNat))

def cmp_Or_int (a0 : List Int) (Q : Int → Prop) : Prop :=
  loopP (fun (s31 : Int) (next32 : Int → Prop) => ifP (decide (s31 < (a0.length : Int))) (idxP a0 s31 fun x38 => ifP (x38 != 0) (Q x38) (next32 (w64 (s31 + 1)))) (Q 0)) 0

def cmp_isNaN_int64 (a0 : Int) (Q : Bool → Prop) : Prop :=
  Q (a0 != a0)

def cmp_Compare_int64 (a0 : Int) (a1 : Int) (Q : Int → Prop) : Prop :=
  cmp_isNaN_int64 a0 fun r5 => cmp_isNaN_int64 a1 fun r13 => ifP r5 (ifP r13 (Q 0) (Q (-1))) (ifP r13 (Q 1) (ifP (decide (a0 < a1)) (Q (-1)) (ifP (decide (a1 < a0)) (Q 1) (Q 0))))

def cmp_isNaN_uint64 (a0 : Int) (Q : Bool → Prop) : Prop :=
  Q (a0 != a0)

def cmp_Compare_uint64 (a0 : Int) (a1 : Int) (Q : Int → Prop) : Prop :=
  cmp_isNaN_uint64 a0 fun r5 => cmp_isNaN_uint64 a1 fun r13 => ifP r5 (ifP r13 (Q 0) (Q (-1))) (ifP r13 (Q 1) (ifP (decide (a0 < a1)) (Q (-1)) (ifP (decide (a1 < a0)) (Q 1) (Q 0))))

def wide_Compare (a0 : Wide) (a1 : Wide) (Q : Int → Prop) : Prop :=
  cmp_Compare_int64 a0.Hi a1.Hi fun r9 => cmp_Compare_uint64 a0.Lo a1.Lo fun r13 => cmp_Or_int ([r9, r13] : List Int) fun r22 => Q r22

def ring_lesser (a0 : Wide) (a1 : Wide) (Q : Wide → Prop) : Prop :=
  wide_Compare a0 a1 fun r13 => ifP (decide (r13 ≤ 0)) (Q a0) (Q a1)

def wide_Of (a0 : Int) (Q : Wide → Prop) : Prop :=
  Q ({ Hi := shr .i64 a0 63, Lo := IntKind.wrap .u64 (a0) } : Wide)

def ring_truth (a0 : Bool) (Q : Wide → Prop) : Prop :=
  ifP a0 (wide_Of 1 fun r6 => Q r6) (Q ({ Hi := 0, Lo := 0 } : Wide))

def wide_carry (a0 : Bool) (Q : Int → Prop) : Prop :=
  ifP a0 (Q 1) (Q 0)

def wide_Add (a0 : Wide) (a1 : Wide) (Q : Wide → Prop) : Prop :=
  wide_carry (decide ((IntKind.wrap .u64 (a0.Lo + a1.Lo)) < a1.Lo)) fun r13 => Q ({ Hi := w64 (IntKind.wrap .u64 ((IntKind.wrap .u64 ((IntKind.wrap .u64 (a0.Hi)) + (IntKind.wrap .u64 (a1.Hi)))) + r13)), Lo := IntKind.wrap .u64 (a0.Lo + a1.Lo) } : Wide)

def ring_Add (a0 : Int) (a1 : Wide) (a2 : Wide) (Q : Wide → Prop) : Prop :=
  joinP (fun (k18 : Bool → Prop) => ifP (a0 == 1) (k18 (a0 == 1)) (ifP (a0 == 3) (k18 (a0 == 3)) (k18 (a0 == 4)))) fun s17 => ifP s17 (ring_lesser a1 a2 fun r24 => Q r24) (ifP (a0 == 2) (ifP (!(a1 == a2)) (ring_truth true fun r30 => Q r30) (ring_truth (!(a1 == ({ Hi := 0, Lo := 0 } : Wide))) fun r34 => Q r34)) (ifP (a0 == 5) (wide_Add a1 a2 fun r39 => Q r39) (Q ({ Hi := 0, Lo := 0 } : Wide))))

def wide_halves (a0 : Int) (Q : (Int × Int) → Prop) : Prop :=
  Q (shr .u64 (shl .u64 a0 32) 32, shr .u64 a0 32)

def wide_product (a0 : Int) (a1 : Int) (Q : Wide → Prop) : Prop :=
  wide_halves a0 fun r17 => wide_halves a1 fun r21 => wide_halves (IntKind.wrap .u64 (r17.1 * r21.1)) fun r40 => wide_halves (IntKind.wrap .u64 ((IntKind.wrap .u64 (r17.2 * r21.1)) + r40.2)) fun r44 => wide_halves (IntKind.wrap .u64 ((IntKind.wrap .u64 (r17.1 * r21.2)) + r44.1)) fun r55 => wide_halves (IntKind.wrap .u64 (r17.1 * r21.1)) fun r61 => Q ({ Hi := w64 (IntKind.wrap .u64 ((IntKind.wrap .u64 ((IntKind.wrap .u64 (r17.2 * r21.2)) + r44.2)) + r55.2)), Lo := bor .u64 (shl .u64 r55.1 32) r61.1 } : Wide)

def wide_size (a0 : Int) (Q : Int → Prop) : Prop :=
  ifP (decide (a0 < 0)) (Q (IntKind.wrap .u64 (0 - (IntKind.wrap .u64 (a0))))) (Q (IntKind.wrap .u64 (a0)))

def wide_Sub (a0 : Wide) (a1 : Wide) (Q : Wide → Prop) : Prop :=
  wide_carry (decide (a0.Lo < a1.Lo)) fun r13 => Q ({ Hi := w64 (IntKind.wrap .u64 ((IntKind.wrap .u64 ((IntKind.wrap .u64 (a0.Hi)) - (IntKind.wrap .u64 (a1.Hi)))) - r13)), Lo := IntKind.wrap .u64 (a0.Lo - a1.Lo) } : Wide)

def wide_Mul (a0 : Int) (a1 : Int) (Q : Wide → Prop) : Prop :=
  wide_size a0 fun r19 => wide_size a1 fun r23 => wide_product r19 r23 fun r27 => ifP (!((decide (a0 < 0)) == (decide (a1 < 0)))) (wide_Sub ({ Hi := 0, Lo := 0 } : Wide) r27 fun r34 => Q r34) (Q r27)

def ring_Mul (a0 : Int) (a1 : Int) (a2 : Int) (Q : Wide → Prop) : Prop :=
  ifP (a0 == 2) (ifP (a1 != 0) (ring_truth (a2 != 0) fun r22 => Q r22) (ring_truth false fun r26 => Q r26)) (ifP (a0 == 5) (wide_Mul a1 a2 fun r31 => Q r31) (joinP (fun (k55 : Unit → Prop) => ring_Is a0 fun r56 => ifP r56 (ifP (decide (4611686018427387904 ≤ (if a2 > a1 then a2 else a1))) (wide_Of 4611686018427387904 fun r62 => Q r62) (k55 ())) (k55 ())) fun _ => joinP (fun (k90 : (Int × Int) → Prop) => ifP (a0 == 1) (wide_Of a1 fun r93 => k90 (r93.Hi, r93.Lo)) (ifP (a0 == 4) (k90 (0, 0)) (ifP (a0 == 3) (wide_Of a1 fun r99 => Q r99) (Q ({ Hi := 0, Lo := 0 } : Wide))))) fun (s88, s89) => wide_Of 4611686018427387904 fun r106 => wide_Of a2 fun r110 => wide_Add ({ Hi := s88, Lo := s89 } : Wide) r110 fun r114 => ring_lesser r106 r114 fun r118 => Q r118))

def gemm_row_3a1 (o0 : List (Int × Bool)) (a0 : Int) (a1 : Rows) (a2 : Rows) (a3 : Int) (Q : (List (Int × Wide)) → Prop) : Prop :=
  gemm_part a1 a3 fun r46 => loopP (fun (s : (List (Int × Wide)) × Int) (next759 : ((List (Int × Wide)) × Int) → Prop) => match s with | (s757, s758) => ifP (decide (s758 < (r46.1.length : Int))) (idxP r46.1 s758 fun x775 => gemm_part a2 x775 fun r798 => loopP (fun (s : (List (Int × Wide)) × Int) (next1011 : ((List (Int × Wide)) × Int) → Prop) => match s with | (s1009, s1010) => ifP (decide (s1010 < (r798.1.length : Int))) (idxP r798.1 s1010 fun x1028 => lkP o0 x1028 false fun r1043 => ifP (!r1043) (next1011 (s1009, w64 (s1010 + 1))) (idxP r46.2 s758 fun x1075 => idxP r798.2 s1010 fun x1084 => ring_Mul a0 x1075 x1084 fun r1093 => lk2P s1009 x1028 ({ Hi := 0, Lo := 0 } : Wide) fun r1098 t1103 => ifP t1103 (ring_Add a0 r1098 r1093 fun r1107 => next1011 ((mput x1028 r1107 s1009), w64 (s1010 + 1))) (next1011 ((mput x1028 r1093 s1009), w64 (s1010 + 1))))) (next759 (s1009, w64 (s758 + 1)))) (s757, 0)) (Q s757)) (([] : List (Int × Wide)), 0)

def gemm_Cells (a0 : Int) (a1 : Rows) (a2 : Rows) (a3 : Rows) (Q : ((List Cell) × Int) → Prop) : Prop :=
  gemm_sure ([a1, a2, a3] : List Rows) fun r64 => idxP r64 0 fun x130 => idxP r64 1 fun x148 => idxP r64 2 fun x166 => ring_Is a0 fun r199 => ifP (!r199) (Q (([] : List Cell), 8)) (ifP (x130.Cols != x148.Rows) (Q (([] : List Cell), 4)) (ifP (x166.Rows != x130.Rows) (Q (([] : List Cell), 4)) (ifP (x166.Cols != x148.Cols) (Q (([] : List Cell), 4)) (loopP (fun (s : (List Cell) × Int) (next840 : ((List Cell) × Int) → Prop) => match s with | (s834, s838) => ifP (decide (s838 < x166.Rows)) (gemm_part x166 s838 fun r861 => loopP (fun (s : (List (Int × Bool)) × Int) (next956 : ((List (Int × Bool)) × Int) → Prop) => match s with | (s954, s955) => ifP (decide (s955 < (r861.1.length : Int))) (idxP r861.1 s955 fun x964 => next956 ((mput x964 true s954), w64 (s955 + 1))) (gemm_row_3a1 s954 a0 x130 x148 s838 fun r990 => loopP (fun (s : (List Cell) × Int) (next1102 : ((List Cell) × Int) → Prop) => match s with | (s1097, s1101) => ifP (decide (s1101 < (r861.1.length : Int))) (idxP r861.1 s1101 fun x1120 => lk2P r990 x1120 ({ Hi := 0, Lo := 0 } : Wide) fun r1136 t1141 => ifP t1141 (appP 32 s1097 ([({ Row := s838, Col := x1120, Val := r1136 } : Cell)]) fun _ => next1102 ((s1097 ++ ([({ Row := s838, Col := x1120, Val := r1136 } : Cell)])), w64 (s1101 + 1))) (next1102 (s1097, w64 (s1101 + 1)))) (next840 (s1097, w64 (s838 + 1)))) (s834, 0))) (([] : List (Int × Bool)), 0)) (Q (s834, 0))) (([] : List Cell), 0)))))

def ref07_Right (a0 : Rows) (Q : Bool → Prop) : Prop :=
  ifP (decide (a0.Rows < 0)) (Q false) (ifP (decide (4096 < a0.Rows)) (Q false) (ifP (decide (a0.Cols < 0)) (Q false) (ifP (decide (4096 < a0.Cols)) (Q false) (ifP ((a0.Start.length : Int) != (w64 (a0.Rows + 1))) (Q false) (ifP ((a0.Col.length : Int) != (a0.Val.length : Int)) (Q false) (ifP (decide (65536 < (a0.Col.length : Int))) (Q false) (idxP a0.Start 0 fun x49 => ifP (x49 != 0) (Q false) (idxP a0.Start a0.Rows fun x59 => ifP (x59 != (a0.Col.length : Int)) (Q false) (loopP (fun (s695 : Int) (next696 : Int → Prop) => ifP (decide (s695 < a0.Rows)) (idxP a0.Start s695 fun x741 => idxP a0.Start (w64 (s695 + 1)) fun x750 => ifP (decide (x750 < x741)) (Q false) (idxP a0.Start s695 fun x760 => ifP (decide (x760 < 0)) (Q false) (idxP a0.Start (w64 (s695 + 1)) fun x770 => ifP (decide ((a0.Col.length : Int) < x770)) (Q false) (idxP a0.Start s695 fun x789 => loopP (fun (s938 : Int) (next939 : Int → Prop) => idxP a0.Start (w64 (s695 + 1)) fun x954 => ifP (decide (s938 < x954)) (idxP a0.Col s938 fun x964 => ifP (decide (x964 < 0)) (Q false) (idxP a0.Col s938 fun x974 => ifP (decide (a0.Cols ≤ x974)) (Q false) (idxP a0.Start s695 fun x984 => ifP (decide (x984 < s938)) (idxP a0.Col s938 fun x994 => idxP a0.Col (w64 (s938 - 1)) fun x1003 => ifP (decide (x994 ≤ x1003)) (Q false) (next939 (w64 (s938 + 1)))) (next939 (w64 (s938 + 1)))))) (next696 (w64 (s695 + 1)))) x789)))) (Q true)) 0)))))))))

def ref07_Sure (a0 : Rows) (Q : Rows → Prop) : Prop :=
  ref07_Right a0 fun r27 => ifP r27 (Q a0) (ref07_Empty 0 0 fun r32 => Q r32)

def ref07_Triples (a0 : Rows) (Q : (List Triple) → Prop) : Prop :=
  ref07_Sure a0 fun r33 => loopP (fun (s : (List Triple) × Int) (next429 : ((List Triple) × Int) → Prop) => match s with | (s423, s427) => ifP (decide (s427 < r33.Rows)) (idxP r33.Start s427 fun x445 => loopP (fun (s : (List Triple) × Int) (next563 : ((List Triple) × Int) → Prop) => match s with | (s558, s562) => idxP r33.Start (w64 (s427 + 1)) fun x579 => ifP (decide (s562 < x579)) (idxP r33.Col s562 fun x590 => idxP r33.Val s562 fun x599 => appP 24 s558 ([({ Row := s427, Col := x590, Val := x599 } : Triple)]) fun _ => next563 ((s558 ++ ([({ Row := s427, Col := x590, Val := x599 } : Triple)])), w64 (s562 + 1))) (next429 (s558, w64 (s427 + 1)))) (s423, x445)) (Q s423)) (([] : List Triple), 0)

def ref07_Row (a0 : Rows) (a1 : Int) (Q : (List Item) → Prop) : Prop :=
  ref07_Sure a0 fun r33 => ifP (decide (a1 < 0)) (Q ([] : List Item)) (ifP (decide (r33.Rows ≤ a1)) (Q ([] : List Item)) (idxP r33.Start a1 fun x63 => loopP (fun (s : (List Item) × Int) (next182 : ((List Item) × Int) → Prop) => match s with | (s176, s180) => idxP r33.Start (w64 (a1 + 1)) fun x197 => ifP (decide (s180 < x197)) (idxP r33.Col s180 fun x208 => idxP r33.Val s180 fun x217 => appP 16 s176 ([({ At := x208, Val := x217 } : Item)]) fun _ => next182 ((s176 ++ ([({ At := x208, Val := x217 } : Item)])), w64 (s180 + 1))) (Q s176)) (([] : List Item), x63)))

def ref07_Get (a0 : Rows) (a1 : Int) (a2 : Int) (Q : (Int × Bool) → Prop) : Prop :=
  ref07_Row a0 a1 fun r24 => loopP (fun (s97 : Int) (next98 : Int → Prop) => ifP (decide (s97 < (r24.length : Int))) (idxP r24 s97 fun x114 => ifP (x114.At == a2) (idxP r24 s97 fun x124 => Q (x124.Val, true)) (next98 (w64 (s97 + 1)))) (Q (0, false))) 0

def ref01_Minus (a0 : Wide) (Q : Wide → Prop) : Prop :=
  ref01_Add ({ Hi := bxor .i64 (-1) a0.Hi, Lo := bxor .u64 18446744073709551615 a0.Lo } : Wide) ({ Hi := 0, Lo := 1 } : Wide) fun r9 => Q r9

def ref01_Mul (a0 : Int) (a1 : Int) (Q : Wide → Prop) : Prop :=
  ref01_Of a0 fun r11 => joinP (fun (k20 : Int → Prop) => ifP (decide (a1 < 0)) (k20 (IntKind.wrap .u64 (0 - (IntKind.wrap .u64 (a1))))) (k20 (IntKind.wrap .u64 (a1)))) fun s19 => loopP (fun (s : Int × Int × Int × Int × Int) (next147 : (Int × Int × Int × Int × Int) → Prop) => match s with | (s142, s143, s144, s145, s146) => ifP (decide (0 < s144)) (ifP ((s144.tmod 2) == 1) (ref01_Add ({ Hi := s145, Lo := s146 } : Wide) ({ Hi := s142, Lo := s143 } : Wide) fun r154 => ref01_Add ({ Hi := s142, Lo := s143 } : Wide) ({ Hi := s142, Lo := s143 } : Wide) fun r158 => next147 (r158.Hi, r158.Lo, IntKind.wrap .u64 (s144.tdiv 2), r154.Hi, r154.Lo)) (ref01_Add ({ Hi := s142, Lo := s143 } : Wide) ({ Hi := s142, Lo := s143 } : Wide) fun r162 => next147 (r162.Hi, r162.Lo, IntKind.wrap .u64 (s144.tdiv 2), s145, s146))) (ifP (decide (a1 < 0)) (ref01_Minus ({ Hi := s145, Lo := s146 } : Wide) fun r167 => Q r167) (Q ({ Hi := s145, Lo := s146 } : Wide)))) (r11.Hi, r11.Lo, s19, 0, 0)

def ref02_Mul (a0 : Int) (a1 : Int) (a2 : Int) (Q : Wide → Prop) : Prop :=
  joinP (fun (k8 : Bool → Prop) => ifP (decide (4611686018427387904 ≤ a1)) (k8 true) (k8 (decide (4611686018427387904 ≤ a2)))) fun s7 => ifP (a0 == 1) (ref01_Of a1 fun r27 => ref01_Of a2 fun r31 => ref01_Add r27 r31 fun r35 => ifP s7 (ref01_Of 4611686018427387904 fun r42 => Q r42) (ref01_Of 4611686018427387904 fun r46 => ref01_Compare r35 r46 fun r50 => ifP (decide (0 < r50)) (ref01_Of 4611686018427387904 fun r55 => Q r55) (Q r35))) (ifP (a0 == 3) (ifP s7 (ref01_Of 4611686018427387904 fun r61 => Q r61) (ref01_Of a1 fun r65 => Q r65)) (ifP (a0 == 4) (ifP s7 (ref01_Of 4611686018427387904 fun r71 => Q r71) (ref01_Of a2 fun r75 => Q r75)) (ifP (a0 == 2) (ifP (a1 != 0) (ref02_truth (a2 != 0) fun r81 => Q r81) (ref02_truth false fun r85 => Q r85)) (ifP (a0 == 5) (ref01_Mul a1 a2 fun r90 => Q r90) (Q ({ Hi := 0, Lo := 0 } : Wide))))))

def ref15_Cells (a0 : Int) (a1 : Rows) (a2 : Rows) (a3 : Rows) (Q : ((List Cell) × Int) → Prop) : Prop :=
  ref07_Sure a1 fun r93 => ref07_Sure a2 fun r109 => ref07_Sure a3 fun r126 => ref02_Is a0 fun r148 => ifP (!r148) (Q (([] : List Cell), 8)) (ifP (r93.Cols != r109.Rows) (Q (([] : List Cell), 4)) (ifP (r126.Rows != r93.Rows) (Q (([] : List Cell), 4)) (ifP (r126.Cols != r109.Cols) (Q (([] : List Cell), 4)) (ref07_Triples r126 fun r170 => loopP (fun (s : (List Cell) × Int) (next1926 : ((List Cell) × Int) → Prop) => match s with | (s1920, s1924) => ifP (decide (s1924 < (r170.length : Int))) (idxP r170 s1924 fun x2380 => idxP r93.Start x2380.Row fun x2389 => loopP (fun (s : Int × Int × Bool × Int) (next2654 : (Int × Int × Bool × Int) → Prop) => match s with | (s2650, s2651, s2652, s2653) => idxP r170 s1924 fun x2681 => idxP r93.Start (w64 (x2681.Row + 1)) fun x2690 => ifP (decide (s2653 < x2690)) (idxP r93.Col s2653 fun x2724 => idxP r170 s1924 fun x2733 => ref07_Get r109 x2724 x2733.Col fun r2741 => ifP (!r2741.2) (next2654 (s2650, s2651, s2652, w64 (s2653 + 1))) (idxP r93.Val s2653 fun x2763 => ref02_Mul a0 x2763 r2741.1 fun r2771 => ifP s2652 (ref02_Add a0 ({ Hi := s2650, Lo := s2651 } : Wide) r2771 fun r2778 => next2654 (r2778.Hi, r2778.Lo, true, w64 (s2653 + 1))) (next2654 (r2771.Hi, r2771.Lo, true, w64 (s2653 + 1))))) (ifP s2652 (idxP r170 s1924 fun x2785 => idxP r170 s1924 fun x2794 => appP 32 s1920 ([({ Row := x2785.Row, Col := x2794.Col, Val := ({ Hi := s2650, Lo := s2651 } : Wide) } : Cell)]) fun _ => next1926 ((s1920 ++ ([({ Row := x2785.Row, Col := x2794.Col, Val := ({ Hi := s2650, Lo := s2651 } : Wide) } : Cell)])), w64 (s1924 + 1))) (next1926 (s1920, w64 (s1924 + 1))))) (0, 0, false, x2389)) (Q (s1920, 0))) (([] : List Cell), 0)))))

def ring_Zero (a0 : Int) (Q : Int → Prop) : Prop :=
  ifP (a0 == 1) (Q 4611686018427387904) (ifP (a0 == 3) (Q 4611686018427387904) (ifP (a0 == 4) (Q 4611686018427387904) (Q 0)))

def wide_Narrow (a0 : Wide) (Q : (Int × Bool) → Prop) : Prop :=
  wide_Of (w64 (a0.Lo)) fun r5 => ifP (!(r5 == a0)) (Q (0, false)) (Q (w64 (a0.Lo), true))

def ring_Narrow (a0 : Int) (a1 : Wide) (Q : (Int × Bool) → Prop) : Prop :=
  wide_Narrow a1 fun r3 => Q (r3.1, r3.2)

def cmp_Compare_int (a0 : Int) (a1 : Int) (Q : Int → Prop) : Prop :=
  cmp_isNaN_int a0 fun r5 => cmp_isNaN_int a1 fun r13 => ifP r5 (ifP r13 (Q 0) (Q (-1))) (ifP r13 (Q 1) (ifP (decide (a0 < a1)) (Q (-1)) (ifP (decide (a1 < a0)) (Q 1) (Q 0))))

def gemm_order (a0 : Cell) (a1 : Cell) (Q : Int → Prop) : Prop :=
  cmp_Compare_int a0.Row a1.Row fun r9 => cmp_Compare_int a0.Col a1.Col fun r13 => cmp_Or_int ([r9, r13] : List Int) fun r22 => Q r22

def gemm_rises (a0 : List Cell) (Q : Bool → Prop) : Prop :=
  loopP (fun (s35 : Int) (next36 : Int → Prop) => ifP (decide (s35 < (a0.length : Int))) (ifP (decide (0 < s35)) (idxP a0 (w64 (s35 - 1)) fun x43 => idxP a0 s35 fun x52 => gemm_order x43 x52 fun r60 => ifP (decide (0 ≤ r60)) (Q false) (next36 (w64 (s35 + 1)))) (next36 (w64 (s35 + 1)))) (Q true)) 0

def gemm_within (a0 : Int) (a1 : Int) (Q : Bool → Prop) : Prop :=
  ifP (decide (0 ≤ a0)) (Q (decide (a0 ≤ a1))) (Q false)

def csr_order (a0 : Triple) (a1 : Triple) (Q : Int → Prop) : Prop :=
  cmp_Compare_int a0.Row a1.Row fun r9 => cmp_Compare_int a0.Col a1.Col fun r13 => cmp_Or_int ([r9, r13] : List Int) fun r22 => Q r22

def csr_summed (a0 : Int) (a1 : List Triple) (Q : ((List Triple) × Int) → Prop) : Prop :=
  loopP (fun (s : (List ((Int × Int) × Wide)) × Int) (next295 : ((List ((Int × Int) × Wide)) × Int) → Prop) => match s with | (s293, s294) => ifP (decide (s294 < (a1.length : Int))) (idxP a1 s294 fun x312 => wide_Of x312.Val fun r332 => lk2P s293 (x312.Row, x312.Col) ({ Hi := 0, Lo := 0 } : Wide) fun r338 t343 => ifP t343 (ring_Add a0 r338 r332 fun r347 => next295 ((mput (x312.Row, x312.Col) r347 s293), w64 (s294 + 1))) (next295 ((mput (x312.Row, x312.Col) r332 s293), w64 (s294 + 1)))) (loopP (fun (s : (List Triple) × (List ((Int × Int) × Wide))) (next463 : ((List Triple) × (List ((Int × Int) × Wide))) → Prop) => match s with | (s457, s461) => nextP s461 (sortP csr_order s457 fun y494 => Q (y494, 0)) (fun p481 l482 => ring_Narrow a0 p481.2 fun r515 => ifP (!r515.2) (Q (([] : List Triple), 12)) (appP 24 s457 ([({ Row := p481.1.1, Col := p481.1.2, Val := r515.1 } : Triple)]) fun _ => next463 ((s457 ++ ([({ Row := p481.1.1, Col := p481.1.2, Val := r515.1 } : Triple)])), l482)))) (([] : List Triple), s293))) (([] : List ((Int × Int) × Wide)), 0)

def csr_Of_1_fca (o0 : Int) (o1 : Int) (a0 : Triple) (Q : Bool → Prop) : Prop :=
  csr_within a0.Row (w64 (o0 - 1)) fun r9 => ifP (!r9) (Q true) (csr_within a0.Col (w64 (o1 - 1)) fun r14 => Q (!r14))

def slices_IndexFunc_api_Triple_api_Triple_77e (o0 : Int) (o1 : Int) (a0 : List Triple) (Q : Int → Prop) : Prop :=
  loopP (fun (s49 : Int) (next50 : Int → Prop) => ifP (decide (s49 < (a0.length : Int))) (idxP a0 s49 fun x56 => csr_Of_1_fca o0 o1 x56 fun r70 => ifP r70 (Q s49) (next50 (w64 (s49 + 1)))) (Q (-1))) 0

def slices_ContainsFunc_api_Triple_api_Triple_988 (o0 : Int) (o1 : Int) (a0 : List Triple) (Q : Bool → Prop) : Prop :=
  slices_IndexFunc_api_Triple_api_Triple_77e o0 o1 a0 fun r14 => Q (decide (0 ≤ r14))

def csr_Of (a0 : Int) (a1 : Int) (a2 : Int) (a3 : List Triple) (Q : (Rows × Int) → Prop) : Prop :=
  ring_Is a0 fun r80 => ifP (!r80) (Q (({ Rows := 0, Cols := 0, Start := ([] : List Int), Col := ([] : List Int), Val := ([] : List Int) } : Rows), 8)) (joinP (fun (k104 : Bool → Prop) => csr_within a1 4096 fun r105 => ifP (!r105) (k104 true) (csr_within a2 4096 fun r110 => k104 (!r110))) fun s103 => ifP s103 (Q (({ Rows := 0, Cols := 0, Start := ([] : List Int), Col := ([] : List Int), Val := ([] : List Int) } : Rows), 3)) (ifP (decide (65536 < (a3.length : Int))) (Q (({ Rows := 0, Cols := 0, Start := ([] : List Int), Col := ([] : List Int), Val := ([] : List Int) } : Rows), 5)) (slices_ContainsFunc_api_Triple_api_Triple_988 a1 a2 a3 fun r124 => ifP r124 (Q (({ Rows := 0, Cols := 0, Start := ([] : List Int), Col := ([] : List Int), Val := ([] : List Int) } : Rows), 3)) (csr_summed a0 a3 fun r138 => ifP (r138.2 != 0) (Q (({ Rows := 0, Cols := 0, Start := ([] : List Int), Col := ([] : List Int), Val := ([] : List Int) } : Rows), r138.2)) (csr_built a1 a2 r138.1 fun r150 => Q (r150, 0))))))

def gemm_Done_1_bab (o0 : Int) (o1 : Int) (a0 : Cell) (Q : Bool → Prop) : Prop :=
  gemm_within a0.Row (w64 (o0 - 1)) fun r9 => ifP (!r9) (Q true) (gemm_within a0.Col (w64 (o1 - 1)) fun r14 => Q (!r14))

def slices_IndexFunc_api_Cell_api_Cell_05b (o0 : Int) (o1 : Int) (a0 : List Cell) (Q : Int → Prop) : Prop :=
  loopP (fun (s49 : Int) (next50 : Int → Prop) => ifP (decide (s49 < (a0.length : Int))) (idxP a0 s49 fun x56 => gemm_Done_1_bab o0 o1 x56 fun r70 => ifP r70 (Q s49) (next50 (w64 (s49 + 1)))) (Q (-1))) 0

def slices_ContainsFunc_api_Cell_api_Cell_72c (o0 : Int) (o1 : Int) (a0 : List Cell) (Q : Bool → Prop) : Prop :=
  slices_IndexFunc_api_Cell_api_Cell_05b o0 o1 a0 fun r14 => Q (decide (0 ≤ r14))

def gemm_Done (a0 : Int) (a1 : Int) (a2 : Int) (a3 : List Cell) (Q : (Rows × Int) → Prop) : Prop :=
  ring_Is a0 fun r97 => ifP (!r97) (Q (({ Rows := 0, Cols := 0, Start := ([] : List Int), Col := ([] : List Int), Val := ([] : List Int) } : Rows), 8)) (joinP (fun (k121 : Bool → Prop) => gemm_within a1 4096 fun r122 => ifP (!r122) (k121 true) (gemm_within a2 4096 fun r127 => k121 (!r127))) fun s120 => ifP s120 (Q (({ Rows := 0, Cols := 0, Start := ([] : List Int), Col := ([] : List Int), Val := ([] : List Int) } : Rows), 3)) (slices_ContainsFunc_api_Cell_api_Cell_72c a1 a2 a3 fun r148 => ifP r148 (Q (({ Rows := 0, Cols := 0, Start := ([] : List Int), Col := ([] : List Int), Val := ([] : List Int) } : Rows), 3)) (gemm_rises a3 fun r155 => ifP (!r155) (Q (({ Rows := 0, Cols := 0, Start := ([] : List Int), Col := ([] : List Int), Val := ([] : List Int) } : Rows), 6)) (ifP (decide (65536 < (a3.length : Int))) (Q (({ Rows := 0, Cols := 0, Start := ([] : List Int), Col := ([] : List Int), Val := ([] : List Int) } : Rows), 5)) (loopP (fun (s : (List Triple) × Int) (next454 : ((List Triple) × Int) → Prop) => match s with | (s448, s452) => ifP (decide (s452 < (a3.length : Int))) (idxP a3 s452 fun x472 => ring_Narrow a0 x472.Val fun r486 => ifP (!r486.2) (Q (({ Rows := 0, Cols := 0, Start := ([] : List Int), Col := ([] : List Int), Val := ([] : List Int) } : Rows), 12)) (ring_Zero a0 fun r496 => ifP (r486.1 != r496) (appP 24 s448 ([({ Row := x472.Row, Col := x472.Col, Val := r486.1 } : Triple)]) fun _ => next454 ((s448 ++ ([({ Row := x472.Row, Col := x472.Col, Val := r486.1 } : Triple)])), w64 (s452 + 1))) (next454 (s448, w64 (s452 + 1))))) (csr_Of a0 a1 a2 s448 fun r512 => Q (r512.1, r512.2))) (([] : List Triple), 0))))))

def gemm_Times (a0 : Int) (a1 : Rows) (a2 : Rows) (a3 : Rows) (Q : (Rows × Int) → Prop) : Prop :=
  gemm_Cells a0 a1 a2 a3 fun r63 => ifP (r63.2 != 0) (Q (({ Rows := 0, Cols := 0, Start := ([] : List Int), Col := ([] : List Int), Val := ([] : List Int) } : Rows), r63.2)) (gemm_sure ([a1, a2] : List Rows) fun r98 => idxP r98 0 fun x110 => idxP r98 1 fun x128 => gemm_Done a0 x110.Rows x128.Cols r63.1 fun r145 => Q (r145.1, r145.2))

def ref02_least (a0 : Int) (Q : Bool → Prop) : Prop :=
  ifP (a0 == 1) (Q true) (ifP (a0 == 3) (Q true) (Q (a0 == 4)))

def ref02_Zero (a0 : Int) (Q : Int → Prop) : Prop :=
  ref02_least a0 fun r1 => ifP r1 (Q 4611686018427387904) (Q 0)

def ref15_ahead (a0 : Cell) (a1 : Cell) (Q : Bool → Prop) : Prop :=
  ifP (decide (a0.Row < a1.Row)) (Q true) (ifP (a0.Row == a1.Row) (Q (decide (a0.Col < a1.Col))) (Q false))

def ref15_rises (a0 : List Cell) (Q : Bool → Prop) : Prop :=
  loopP (fun (s57 : Int) (next58 : Int → Prop) => ifP (decide (s57 < (a0.length : Int))) (idxP a0 (w64 (s57 - 1)) fun x64 => idxP a0 s57 fun x73 => ref15_ahead x64 x73 fun r81 => ifP (!r81) (Q false) (next58 (w64 (s57 + 1)))) (Q true)) 1

def ref15_Done (a0 : Int) (a1 : Int) (a2 : Int) (a3 : List Cell) (Q : (Rows × Int) → Prop) : Prop :=
  ref02_Is a0 fun r22 => ifP (!r22) (Q (({ Rows := 0, Cols := 0, Start := ([] : List Int), Col := ([] : List Int), Val := ([] : List Int) } : Rows), 8)) (ifP (decide (a1 < 0)) (Q (({ Rows := 0, Cols := 0, Start := ([] : List Int), Col := ([] : List Int), Val := ([] : List Int) } : Rows), 3)) (ifP (decide (4096 < a1)) (Q (({ Rows := 0, Cols := 0, Start := ([] : List Int), Col := ([] : List Int), Val := ([] : List Int) } : Rows), 3)) (ifP (decide (a2 < 0)) (Q (({ Rows := 0, Cols := 0, Start := ([] : List Int), Col := ([] : List Int), Val := ([] : List Int) } : Rows), 3)) (ifP (decide (4096 < a2)) (Q (({ Rows := 0, Cols := 0, Start := ([] : List Int), Col := ([] : List Int), Val := ([] : List Int) } : Rows), 3)) (loopP (fun (s255 : Int) (next256 : Int → Prop) => ifP (decide (s255 < (a3.length : Int))) (idxP a3 s255 fun x262 => ifP (decide (x262.Row < 0)) (Q (({ Rows := 0, Cols := 0, Start := ([] : List Int), Col := ([] : List Int), Val := ([] : List Int) } : Rows), 3)) (idxP a3 s255 fun x272 => ifP (decide (a1 ≤ x272.Row)) (Q (({ Rows := 0, Cols := 0, Start := ([] : List Int), Col := ([] : List Int), Val := ([] : List Int) } : Rows), 3)) (idxP a3 s255 fun x282 => ifP (decide (x282.Col < 0)) (Q (({ Rows := 0, Cols := 0, Start := ([] : List Int), Col := ([] : List Int), Val := ([] : List Int) } : Rows), 3)) (idxP a3 s255 fun x292 => ifP (decide (a2 ≤ x292.Col)) (Q (({ Rows := 0, Cols := 0, Start := ([] : List Int), Col := ([] : List Int), Val := ([] : List Int) } : Rows), 3)) (next256 (w64 (s255 + 1))))))) (ref15_rises a3 fun r306 => ifP (!r306) (Q (({ Rows := 0, Cols := 0, Start := ([] : List Int), Col := ([] : List Int), Val := ([] : List Int) } : Rows), 6)) (ifP (decide (65536 < (a3.length : Int))) (Q (({ Rows := 0, Cols := 0, Start := ([] : List Int), Col := ([] : List Int), Val := ([] : List Int) } : Rows), 5)) (loopP (fun (s : (List Triple) × Int) (next679 : ((List Triple) × Int) → Prop) => match s with | (s673, s677) => ifP (decide (s677 < (a3.length : Int))) (idxP a3 s677 fun x699 => ref01_Narrow x699.Val fun r707 => ifP (!r707.2) (Q (({ Rows := 0, Cols := 0, Start := ([] : List Int), Col := ([] : List Int), Val := ([] : List Int) } : Rows), 12)) (ref02_Zero a0 fun r717 => ifP (r707.1 != r717) (idxP a3 s677 fun x724 => idxP a3 s677 fun x733 => appP 24 s673 ([({ Row := x724.Row, Col := x733.Col, Val := r707.1 } : Triple)]) fun _ => next679 ((s673 ++ ([({ Row := x724.Row, Col := x733.Col, Val := r707.1 } : Triple)])), w64 (s677 + 1))) (next679 (s673, w64 (s677 + 1))))) (ref07_Of a0 a1 a2 s673 fun r752 => Q (r752.1, r752.2))) (([] : List Triple), 0))))) 0)))))

def ref15_Times (a0 : Int) (a1 : Rows) (a2 : Rows) (a3 : Rows) (Q : (Rows × Int) → Prop) : Prop :=
  ref15_Cells a0 a1 a2 a3 fun r63 => ifP (r63.2 != 0) (Q (({ Rows := 0, Cols := 0, Start := ([] : List Int), Col := ([] : List Int), Val := ([] : List Int) } : Rows), r63.2)) (ref07_Sure a1 fun r75 => ref07_Sure a2 fun r92 => ref15_Done a0 r75.Rows r92.Cols r63.1 fun r109 => Q (r109.1, r109.2))

def csr_Triples (a0 : Rows) (Q : (List Triple) → Prop) : Prop :=
  csr_sure a0 fun r33 => loopP (fun (s : (List Triple) × Int) (next392 : ((List Triple) × Int) → Prop) => match s with | (s386, s390) => ifP (decide (s390 < r33.Rows)) (csr_part r33 s390 fun r413 => loopP (fun (s : (List Triple) × Int) (next518 : ((List Triple) × Int) → Prop) => match s with | (s513, s517) => ifP (decide (s517 < (r413.1.length : Int))) (idxP r413.1 s517 fun x535 => idxP r413.2 s517 fun x544 => appP 24 s513 ([({ Row := s390, Col := x535, Val := x544 } : Triple)]) fun _ => next518 ((s513 ++ ([({ Row := s390, Col := x535, Val := x544 } : Triple)])), w64 (s517 + 1))) (next392 (s513, w64 (s390 + 1)))) (s386, 0)) (Q s386)) (([] : List Triple), 0)

def gemm_Total (a0 : Int) (a1 : Rows) (Q : (Int × Int) → Prop) : Prop :=
  ring_Is a0 fun r19 => ifP (!r19) (Q (0, 8)) (csr_Triples a1 fun r35 => ifP ((r35.length : Int) == 0) (ring_Zero a0 fun r52 => Q (r52, 0)) (idxP r35 0 fun x68 => wide_Of x68.Val fun r72 => slP r35 1 (r35.length : Int) fun _ => loopP (fun (s : Int × Int × Int) (next267 : (Int × Int × Int) → Prop) => match s with | (s264, s265, s266) => ifP (decide (s266 < (((r35.take (r35.length : Int).toNat).drop (Int.toNat 1)).length : Int))) (idxP ((r35.take (r35.length : Int).toNat).drop (Int.toNat 1)) s266 fun x274 => wide_Of x274.Val fun r284 => ring_Add a0 ({ Hi := s264, Lo := s265 } : Wide) r284 fun r288 => next267 (r288.Hi, r288.Lo, w64 (s266 + 1))) (ring_Narrow a0 ({ Hi := s264, Lo := s265 } : Wide) fun r296 => ifP (!r296.2) (Q (0, 12)) (Q (r296.1, 0)))) (r72.Hi, r72.Lo, 0)))

def ref15_Total (a0 : Int) (a1 : Rows) (Q : (Int × Int) → Prop) : Prop :=
  ref07_Triples a1 fun r24 => ref02_Is a0 fun r39 => ifP (!r39) (Q (0, 8)) (ref02_Zero a0 fun r54 => ref01_Of r54 fun r58 => loopP (fun (s : Int × Int × Int) (next267 : (Int × Int × Int) → Prop) => match s with | (s264, s265, s266) => ifP (decide (s266 < (r24.length : Int))) (idxP r24 s266 fun x289 => ref01_Of x289.Val fun r297 => ifP (s266 == 0) (next267 (r297.Hi, r297.Lo, w64 (s266 + 1))) (ref02_Add a0 ({ Hi := s264, Lo := s265 } : Wide) r297 fun r304 => next267 (r304.Hi, r304.Lo, w64 (s266 + 1)))) (ref01_Narrow ({ Hi := s264, Lo := s265 } : Wide) fun r312 => ifP (!r312.2) (Q (0, 12)) (Q (r312.1, 0)))) (r58.Hi, r58.Lo, 0))

def gemm_Merge_1 (a0 : List Cell) (Q : Bool → Prop) : Prop :=
  gemm_rises a0 fun r4 => Q (!r4)

def slices_Grow_api_Cell_api_Cell (a1 : Int) (Q : (List Cell) → Prop) : Prop :=
  ifP (decide (a1 < 0)) (False) (ifP (decide (0 < (w64 (a1 - (w64 (0 - 0)))))) (grP 32 (w64 (a1 - (w64 (0 - 0)))) <| Q ([] : List Cell)) (Q ([] : List Cell)))

def slices_Concat_api_Cell_api_Cell (a0 : List (List Cell)) (Q : (List Cell) → Prop) : Prop :=
  loopP (fun (s : Int × Int) (next161 : (Int × Int) → Prop) => match s with | (s159, s160) => ifP (decide (s160 < (a0.length : Int))) (idxP a0 s160 fun x179 => ifP (decide ((w64 (s159 + (x179.length : Int))) < 0)) (False) (next161 (w64 (s159 + (x179.length : Int)), w64 (s160 + 1)))) (slices_Grow_api_Cell_api_Cell s159 fun r203 => loopP (fun (s : (List Cell) × Int) (next271 : ((List Cell) × Int) → Prop) => match s with | (s266, s270) => ifP (decide (s270 < (a0.length : Int))) (idxP a0 s270 fun x278 => appP 32 s266 x278 fun _ => next271 ((s266 ++ x278), w64 (s270 + 1))) (Q s266)) (r203, 0))) (0, 0)

def gemm_Merge_1_823 (a0 : List Cell) (Q : Bool → Prop) : Prop :=
  gemm_rises a0 fun r4 => Q (!r4)

def slices_IndexFunc_api_Cell_api_Cell_95a (a0 : List (List Cell)) (Q : Int → Prop) : Prop :=
  loopP (fun (s51 : Int) (next52 : Int → Prop) => ifP (decide (s51 < (a0.length : Int))) (idxP a0 s51 fun x58 => gemm_Merge_1_823 x58 fun r75 => ifP r75 (Q s51) (next52 (w64 (s51 + 1)))) (Q (-1))) 0

def slices_ContainsFunc_api_Cell_api_Cell_85a (a0 : List (List Cell)) (Q : Bool → Prop) : Prop :=
  slices_IndexFunc_api_Cell_api_Cell_95a a0 fun r10 => Q (decide (0 ≤ r10))

def gemm_order_1ec (a0 : Cell) (a1 : Cell) (Q : Int → Prop) : Prop :=
  cmp_Compare_int a0.Row a1.Row fun r9 => cmp_Compare_int a0.Col a1.Col fun r13 => cmp_Or_int ([r9, r13] : List Int) fun r22 => Q r22

def slices_insertionSortCmpFunc_api_Cell_116 (o0 : List Cell) (a0 : Int) (a1 : Int) (Q : (List Cell) → Prop) : Prop :=
  loopP (fun (s : (List Cell) × Int) (next332 : ((List Cell) × Int) → Prop) => match s with | (s330, s331) => ifP (decide (s331 < a1)) (loopP (fun (s : (List Cell) × Int) (next446 : ((List Cell) × Int) → Prop) => match s with | (s444, s445) => ifP (decide (a0 < s445)) (idxP s444 s445 fun x474 => idxP s444 (w64 (s445 - 1)) fun x479 => gemm_order_1ec x474 x479 fun r487 => ifP (decide (r487 < 0)) (idxP s444 (w64 (s445 - 1)) fun x492 => idxP s444 s445 fun x495 => idxP s444 s445 fun x498 => idxP (s444.set s445.toNat x492) (w64 (s445 - 1)) fun x501 => next446 (((s444.set s445.toNat x492).set ((w64 (s445 - 1)).toNat) x495), w64 (s445 - 1))) (next332 (s444, w64 (s331 + 1)))) (next332 (s444, w64 (s331 + 1)))) (s330, s331)) (Q s330)) (o0, w64 (a0 + 1))

def slices_swapRangeCmpFunc_api_Cell_ba0 (o0 : List Cell) (a0 : Int) (a1 : Int) (a2 : Int) (Q : (List Cell) → Prop) : Prop :=
  loopP (fun (s : (List Cell) × Int) (next46 : ((List Cell) × Int) → Prop) => match s with | (s44, s45) => ifP (decide (s45 < a2)) (idxP s44 (w64 (a1 + s45)) fun x54 => idxP s44 (w64 (a0 + s45)) fun x59 => idxP s44 (w64 (a0 + s45)) fun x62 => idxP (s44.set ((w64 (a0 + s45)).toNat) x54) (w64 (a1 + s45)) fun x65 => next46 (((s44.set ((w64 (a0 + s45)).toNat) x54).set ((w64 (a1 + s45)).toNat) x59), w64 (s45 + 1))) (Q s44)) (o0, 0)

def slices_rotateCmpFunc_api_Cell_7d1 (o0 : List Cell) (a0 : Int) (a1 : Int) (a2 : Int) (Q : (List Cell) → Prop) : Prop :=
  loopP (fun (s : (List Cell) × Int × Int) (next66 : ((List Cell) × Int × Int) → Prop) => match s with | (s63, s64, s65) => ifP (s64 != s65) (ifP (decide (s65 < s64)) (slices_swapRangeCmpFunc_api_Cell_ba0 s63 (w64 (a1 - s64)) a1 s65 fun r79 => next66 (r79, w64 (s64 - s65), s65)) (slices_swapRangeCmpFunc_api_Cell_ba0 s63 (w64 (a1 - s64)) (w64 ((w64 (a1 + s65)) - s64)) s64 fun r91 => next66 (r91, s64, w64 (s65 - s64)))) (slices_swapRangeCmpFunc_api_Cell_ba0 s63 (w64 (a1 - s64)) a1 s64 fun r103 => Q r103)) (o0, w64 (a1 - a0), w64 (a2 - a1))

def slices_symMergeCmpFunc_api_Cell_404_body (rc : (List Cell) → Int → Int → Int → ((List Cell) → Prop) → Prop) (o0 : List Cell) (a0 : Int) (a1 : Int) (a2 : Int) (Q : (List Cell) → Prop) : Prop :=
  ifP ((w64 (a1 - a0)) == 1) (loopP (fun (s : Int × Int) (next323 : (Int × Int) → Prop) => match s with | (s321, s322) => ifP (decide (s321 < s322)) (idxP o0 (w64 (shr .u64 (IntKind.wrap .u64 (w64 (s321 + s322))) 1)) fun x330 => idxP o0 a0 fun x335 => gemm_order_1ec x330 x335 fun r343 => ifP (decide (r343 < 0)) (next323 (w64 ((w64 (shr .u64 (IntKind.wrap .u64 (w64 (s321 + s322))) 1)) + 1), s322)) (next323 (s321, w64 (shr .u64 (IntKind.wrap .u64 (w64 (s321 + s322))) 1)))) (loopP (fun (s : (List Cell) × Int) (next388 : ((List Cell) × Int) → Prop) => match s with | (s386, s387) => ifP (decide (s387 < (w64 (s321 - 1)))) (idxP s386 (w64 (s387 + 1)) fun x397 => idxP s386 s387 fun x402 => idxP s386 s387 fun x405 => idxP (s386.set s387.toNat x397) (w64 (s387 + 1)) fun x408 => next388 (((s386.set s387.toNat x397).set ((w64 (s387 + 1)).toNat) x402), w64 (s387 + 1))) (Q s386)) (o0, a0))) (a1, a2)) (ifP ((w64 (a2 - a1)) == 1) (loopP (fun (s : Int × Int) (next729 : (Int × Int) → Prop) => match s with | (s727, s728) => ifP (decide (s727 < s728)) (idxP o0 a1 fun x736 => idxP o0 (w64 (shr .u64 (IntKind.wrap .u64 (w64 (s727 + s728))) 1)) fun x741 => gemm_order_1ec x736 x741 fun r749 => ifP (!(decide (r749 < 0))) (next729 (w64 ((w64 (shr .u64 (IntKind.wrap .u64 (w64 (s727 + s728))) 1)) + 1), s728)) (next729 (s727, w64 (shr .u64 (IntKind.wrap .u64 (w64 (s727 + s728))) 1)))) (loopP (fun (s : (List Cell) × Int) (next794 : ((List Cell) × Int) → Prop) => match s with | (s792, s793) => ifP (decide (s727 < s793)) (idxP s792 (w64 (s793 - 1)) fun x803 => idxP s792 s793 fun x808 => idxP s792 s793 fun x811 => idxP (s792.set s793.toNat x803) (w64 (s793 - 1)) fun x814 => next794 (((s792.set s793.toNat x803).set ((w64 (s793 - 1)).toNat) x808), w64 (s793 - 1))) (Q s792)) (o0, a1))) (a0, a1)) (joinP (fun (k820 : (Int × Int) → Prop) => ifP (decide ((w64 (shr .u64 (IntKind.wrap .u64 (w64 (a0 + a2))) 1)) < a1)) (k820 (w64 ((w64 ((w64 (shr .u64 (IntKind.wrap .u64 (w64 (a0 + a2))) 1)) + a1)) - a2), w64 (shr .u64 (IntKind.wrap .u64 (w64 (a0 + a2))) 1))) (k820 (a0, a1))) fun (s818, s819) => loopP (fun (s : Int × Int) (next945 : (Int × Int) → Prop) => match s with | (s943, s944) => ifP (decide (s943 < s944)) (idxP o0 (w64 ((w64 ((w64 ((w64 (shr .u64 (IntKind.wrap .u64 (w64 (a0 + a2))) 1)) + a1)) - 1)) - (w64 (shr .u64 (IntKind.wrap .u64 (w64 (s943 + s944))) 1)))) fun x953 => idxP o0 (w64 (shr .u64 (IntKind.wrap .u64 (w64 (s943 + s944))) 1)) fun x958 => gemm_order_1ec x953 x958 fun r966 => ifP (!(decide (r966 < 0))) (next945 (w64 ((w64 (shr .u64 (IntKind.wrap .u64 (w64 (s943 + s944))) 1)) + 1), s944)) (next945 (s943, w64 (shr .u64 (IntKind.wrap .u64 (w64 (s943 + s944))) 1)))) (joinP (fun (k1001 : (List Cell) → Prop) => ifP (decide (s943 < a1)) (ifP (decide (a1 < (w64 ((w64 ((w64 (shr .u64 (IntKind.wrap .u64 (w64 (a0 + a2))) 1)) + a1)) - s943)))) (slices_rotateCmpFunc_api_Cell_7d1 o0 s943 a1 (w64 ((w64 ((w64 (shr .u64 (IntKind.wrap .u64 (w64 (a0 + a2))) 1)) + a1)) - s943)) fun r1010 => k1001 r1010) (k1001 o0)) (k1001 o0)) fun s1000 => joinP (fun (k1055 : (List Cell) → Prop) => ifP (decide (a0 < s943)) (ifP (decide (s943 < (w64 (shr .u64 (IntKind.wrap .u64 (w64 (a0 + a2))) 1)))) (rc s1000 a0 s943 (w64 (shr .u64 (IntKind.wrap .u64 (w64 (a0 + a2))) 1)) fun r1064 => k1055 r1064) (k1055 s1000)) (k1055 s1000)) fun s1054 => ifP (decide ((w64 (shr .u64 (IntKind.wrap .u64 (w64 (a0 + a2))) 1)) < (w64 ((w64 ((w64 (shr .u64 (IntKind.wrap .u64 (w64 (a0 + a2))) 1)) + a1)) - s943)))) (ifP (decide ((w64 ((w64 ((w64 (shr .u64 (IntKind.wrap .u64 (w64 (a0 + a2))) 1)) + a1)) - s943)) < a2)) (rc s1054 (w64 (shr .u64 (IntKind.wrap .u64 (w64 (a0 + a2))) 1)) (w64 ((w64 ((w64 (shr .u64 (IntKind.wrap .u64 (w64 (a0 + a2))) 1)) + a1)) - s943)) a2 fun r1086 => Q r1086) (Q s1054)) (Q s1054))) (s818, s819)))

def slices_symMergeCmpFunc_api_Cell_404_it : Nat → (List Cell) → Int → Int → Int → ((List Cell) → Prop) → Prop
  | 0 => fun _ _ _ _ _ => False
  | k + 1 => slices_symMergeCmpFunc_api_Cell_404_body (slices_symMergeCmpFunc_api_Cell_404_it k)

def slices_symMergeCmpFunc_api_Cell_404 (o0 : List Cell) (a0 : Int) (a1 : Int) (a2 : Int) (Q : (List Cell) → Prop) : Prop := ∃ k, slices_symMergeCmpFunc_api_Cell_404_it k o0 a0 a1 a2 Q

def slices_stableCmpFunc_api_Cell_076 (o0 : List Cell) (a0 : Int) (Q : (List Cell) → Prop) : Prop :=
  loopP (fun (s : (List Cell) × Int × Int) (next98 : ((List Cell) × Int × Int) → Prop) => match s with | (s95, s96, s97) => ifP (decide (s97 ≤ a0)) (slices_insertionSortCmpFunc_api_Cell_116 s95 s96 s97 fun r110 => next98 (r110, s97, w64 (s97 + 20))) (slices_insertionSortCmpFunc_api_Cell_116 s95 s96 a0 fun r134 => loopP (fun (s : (List Cell) × Int) (next420 : ((List Cell) × Int) → Prop) => match s with | (s418, s419) => ifP (decide (s419 < a0)) (loopP (fun (s : (List Cell) × Int × Int) (next533 : ((List Cell) × Int × Int) → Prop) => match s with | (s530, s531, s532) => ifP (decide (s532 ≤ a0)) (slices_symMergeCmpFunc_api_Cell_404 s530 s531 (w64 (s531 + s419)) s532 fun r547 => next533 (r547, s532, w64 (s532 + (w64 (2 * s419))))) (ifP (decide ((w64 (s531 + s419)) < a0)) (slices_symMergeCmpFunc_api_Cell_404 s530 s531 (w64 (s531 + s419)) a0 fun r562 => next420 (r562, w64 (s419 * 2))) (next420 (s530, w64 (s419 * 2))))) (s418, 0, w64 (2 * s419))) (Q s418)) (r134, 20))) (o0, 0, 20)

def slices_SortStableFunc_api_Cell_api_Cell_90a (o0 : List Cell) (Q : (List Cell) → Prop) : Prop :=
  slices_stableCmpFunc_api_Cell_076 o0 (o0.length : Int) fun r10 => Q r10

def gemm_Merge (a0 : Int) (a1 : List (List Cell)) (Q : ((List Cell) × Int) → Prop) : Prop :=
  ring_Is a0 fun r12 => ifP (!r12) (Q (([] : List Cell), 8)) (slices_ContainsFunc_api_Cell_api_Cell_85a a1 fun r31 => ifP r31 (Q (([] : List Cell), 6)) (slices_Concat_api_Cell_api_Cell a1 fun r45 => slices_SortStableFunc_api_Cell_api_Cell_90a r45 fun r75 => loopP (fun (s : (List Cell) × Int) (next199 : ((List Cell) × Int) → Prop) => match s with | (s193, s197) => ifP (decide (s197 < (r75.length : Int))) (idxP r75 s197 fun x213 => joinP (fun (k242 : Bool → Prop) => ifP (decide (0 < (s193.length : Int))) (idxP s193 (w64 ((s193.length : Int) - 1)) fun x246 => gemm_order x246 x213 fun r250 => k242 (r250 == 0)) (k242 false)) fun s241 => ifP s241 (idxP s193 (w64 ((s193.length : Int) - 1)) fun x261 => ring_Add a0 x261.Val x213.Val fun r265 => idxP s193 (w64 ((s193.length : Int) - 1)) fun x270 => next199 ((s193.set ((w64 ((s193.length : Int) - 1)).toNat) ({ Row := x270.Row, Col := x270.Col, Val := r265 } : Cell)), w64 (s197 + 1))) (appP 32 s193 ([x213]) fun _ => next199 ((s193 ++ ([x213])), w64 (s197 + 1)))) (Q (s193, 0))) (([] : List Cell), 0)))

def law15_live  (Q : Bool → Prop) : Prop :=
  ref07_Of 5 3 3 ([({ Row := 1, Col := 0, Val := 1 } : Triple), ({ Row := 2, Col := 1, Val := 1 } : Triple), ({ Row := 2, Col := 0, Val := 1 } : Triple)] : List Triple) fun r30 => gemm_Cells 5 r30.1 r30.1 r30.1 fun r60 => gemm_Times 5 r30.1 r30.1 r30.1 fun r90 => gemm_Total 5 r90.1 fun r113 => gemm_Merge 5 ([r60.1, r60.1] : List (List Cell)) fun r140 => gemm_Done 5 1 1 ([({ Row := 1, Col := 0, Val := ({ Hi := 0, Lo := 0 } : Wide) } : Cell)] : List Cell) fun r182 => ifP (r60.2 == 0) (ifP ((r60.1.length : Int) == 1) (idxP r60.1 0 fun x204 => ifP (x204 == ({ Row := 2, Col := 0, Val := ({ Hi := 0, Lo := 1 } : Wide) } : Cell)) (ifP (r90.2 == 0) (ifP (r90.1.Rows == 3) (ifP (r113.1 == 1) (ifP (r113.2 == 0) (ifP (r140.2 == 0) (ifP ((r140.1.length : Int) == 1) (idxP r140.1 0 fun x220 => ifP (x220.Val == ({ Hi := 0, Lo := 2 } : Wide)) (Q (r182.2 == 3)) (Q false)) (Q false)) (Q false)) (Q false)) (Q false)) (Q false)) (Q false)) (Q false)) (Q false)) (Q false)

def ref15_SameCells (a0 : List Cell) (a1 : List Cell) (Q : Bool → Prop) : Prop :=
  ifP ((a0.length : Int) != (a1.length : Int)) (Q false) (loopP (fun (s54 : Int) (next55 : Int → Prop) => ifP (decide (s54 < (a0.length : Int))) (idxP a0 s54 fun x61 => idxP a1 s54 fun x70 => ifP (!(x61 == x70)) (Q false) (next55 (w64 (s54 + 1)))) (Q true)) 0)

def ref03_SameInts (a0 : List Int) (a1 : List Int) (Q : Bool → Prop) : Prop :=
  ifP ((a0.length : Int) != (a1.length : Int)) (Q false) (loopP (fun (s54 : Int) (next55 : Int → Prop) => ifP (decide (s54 < (a0.length : Int))) (idxP a0 s54 fun x61 => idxP a1 s54 fun x70 => ifP (x61 != x70) (Q false) (next55 (w64 (s54 + 1)))) (Q true)) 0)

def ref07_SameVals (a0 : List Int) (a1 : List Int) (Q : Bool → Prop) : Prop :=
  ifP ((a0.length : Int) != (a1.length : Int)) (Q false) (loopP (fun (s54 : Int) (next55 : Int → Prop) => ifP (decide (s54 < (a0.length : Int))) (idxP a0 s54 fun x61 => idxP a1 s54 fun x70 => ifP (x61 != x70) (Q false) (next55 (w64 (s54 + 1)))) (Q true)) 0)

def ref07_Same (a0 : Rows) (a1 : Rows) (Q : Bool → Prop) : Prop :=
  ifP (a0.Rows == a1.Rows) (ifP (a0.Cols == a1.Cols) (ref03_SameInts a0.Start a1.Start fun r29 => ifP r29 (ref03_SameInts a0.Col a1.Col fun r34 => ifP r34 (ref07_SameVals a0.Val a1.Val fun r39 => Q r39) (Q false)) (Q false)) (Q false)) (Q false)

def law15_GemmTells (a0 : Law15_Task) (Q : Bool → Prop) : Prop :=
  law15_Task_Three a0 fun r50 => gemm_Cells a0.Ring r50.1 r50.2.1 r50.2.2 fun r97 => ref15_Cells a0.Ring r50.1 r50.2.1 r50.2.2 fun r119 => gemm_Times a0.Ring r50.1 r50.2.1 r50.2.2 fun r149 => ref15_Times a0.Ring r50.1 r50.2.1 r50.2.2 fun r187 => gemm_Total a0.Ring r50.1 fun r210 => ref15_Total a0.Ring r50.1 fun r218 => gemm_Cells a0.Ring r50.1 r50.2.2 r50.2.1 fun r233 => ref15_Cells a0.Ring r50.1 r50.2.2 r50.2.1 fun r255 => law15_live  fun r266 => ifP r266 (ref15_SameCells r97.1 r119.1 fun r271 => ifP r271 (ifP (r97.2 == r119.2) (ref07_Same r149.1 r187.1 fun r277 => ifP r277 (ifP (r149.2 == r187.2) (ifP (r210.1 == r218.1) (ifP (r210.2 == r218.2) (Q (r233.2 == r255.2)) (Q false)) (Q false)) (Q false)) (Q false)) (Q false)) (Q false)) (Q false)

def ref15_Merge (a0 : Int) (a1 : List (List Cell)) (Q : ((List Cell) × Int) → Prop) : Prop :=
  ref02_Is a0 fun r12 => ifP (!r12) (Q (([] : List Cell), 8)) (loopP (fun (s122 : Int) (next123 : Int → Prop) => ifP (decide (s122 < (a1.length : Int))) (idxP a1 s122 fun x129 => ref15_rises x129 fun r140 => ifP (!r140) (Q (([] : List Cell), 6)) (next123 (w64 (s122 + 1)))) (loopP (fun (s : (List Cell) × Int) (next2327 : ((List Cell) × Int) → Prop) => match s with | (s2321, s2325) => ifP (decide (s2325 < (a1.length : Int))) (loopP (fun (s : (List Cell) × Int) (next3143 : ((List Cell) × Int) → Prop) => match s with | (s3138, s3142) => idxP a1 s2325 fun x3162 => ifP (decide (s3142 < (x3162.length : Int))) (idxP a1 s2325 fun x3198 => idxP x3198 s3142 fun x3210 => joinP (fun (k3313 : Int → Prop) => loopP (fun (s3341 : Int) (next3342 : Int → Prop) => ifP (decide (s3341 < (s3138.length : Int))) (idxP s3138 s3341 fun x3351 => ref15_ahead x3351 x3210 fun r3355 => ifP r3355 (next3342 (w64 (s3341 + 1))) (k3313 s3341)) (k3313 s3341)) 0) fun s3312 => joinP (fun (k3443 : Bool → Prop) => ifP (decide (s3312 < (s3138.length : Int))) (idxP s3138 s3312 fun x3447 => ref15_ahead x3210 x3447 fun r3451 => k3443 (!r3451)) (k3443 false)) fun s3442 => ifP s3442 (idxP s3138 s3312 fun x3464 => ref02_Add a0 x3464.Val x3210.Val fun r3468 => idxP s3138 s3312 fun x3473 => next3143 ((s3138.set s3312.toNat ({ Row := x3473.Row, Col := x3473.Col, Val := r3468 } : Cell)), w64 (s3142 + 1))) (appP 32 s3138 ([({ Row := 0, Col := 0, Val := ({ Hi := 0, Lo := 0 } : Wide) } : Cell)]) fun _ => loopP (fun (s : (List Cell) × Int) (next3527 : ((List Cell) × Int) → Prop) => match s with | (s3522, s3526) => ifP (decide (s3312 < s3526)) (idxP s3522 (w64 (s3526 - 1)) fun x3538 => idxP s3522 s3526 fun x3543 => next3527 ((s3522.set s3526.toNat x3538), w64 (s3526 - 1))) (idxP s3522 s3312 fun x3546 => next3143 ((s3522.set s3312.toNat x3210), w64 (s3142 + 1)))) ((s3138 ++ ([({ Row := 0, Col := 0, Val := ({ Hi := 0, Lo := 0 } : Wide) } : Cell)])), w64 (((s3138 ++ ([({ Row := 0, Col := 0, Val := ({ Hi := 0, Lo := 0 } : Wide) } : Cell)])).length : Int) - 1)))) (next2327 (s3138, w64 (s2325 + 1)))) (s2321, 0)) (Q (s2321, 0))) (([] : List Cell), 0))) 0)

def law15_GemmMerges (a0 : Int) (a1 : List (List Cell)) (a2 : Int × Int) (Q : Bool → Prop) : Prop :=
  joinP (fun (k34 : (List (List Cell)) → Prop) => ifP (decide (6 < (a1.length : Int))) (slP a1 0 6 fun _ => k34 ((a1.take (Int.toNat 6)).drop (Int.toNat 0))) (k34 a1)) fun s30 => loopP (fun (s : (List (List Cell)) × Int) (next343 : ((List (List Cell)) × Int) → Prop) => match s with | (s337, s341) => ifP (decide (s341 < (s30.length : Int))) (idxP s30 s341 fun x362 => ifP (decide (25 < (x362.length : Int))) (slP x362 0 25 fun _ => appP 24 s337 ([((x362.take (Int.toNat 25)).drop (Int.toNat 0))]) fun _ => next343 ((s337 ++ ([((x362.take (Int.toNat 25)).drop (Int.toNat 0))])), w64 (s341 + 1))) (appP 24 s337 ([x362]) fun _ => next343 ((s337 ++ ([x362])), w64 (s341 + 1)))) (gemm_Merge a0 s337 fun r418 => ref15_Merge a0 s337 fun r442 => law15_live  fun r465 => ifP (!r465) (Q false) (ref15_SameCells r418.1 r442.1 fun r470 => ifP (!r470) (Q false) (ifP (r418.2 != r442.2) (Q false) (loopP (fun (s755 : Int) (next756 : Int → Prop) => ifP (decide (s755 < (s337.length : Int))) (idxP s337 s755 fun x797 => gemm_Done a0 a2.1 a2.2 x797 fun r809 => idxP s337 s755 fun x863 => ref15_Done a0 a2.1 a2.2 x863 fun r875 => ref07_Same r809.1 r875.1 fun r895 => ifP (!r895) (Q false) (ifP (r809.2 != r875.2) (Q false) (next756 (w64 (s755 + 1))))) (Q true)) 0))))) (([] : List (List Cell)), 0)

def law15_GemmParts (a0 : Law15_Task) (a1 : Int) (Q : Bool → Prop) : Prop :=
  law15_Task_Three a0 fun r50 => law13_Right a0.Ring fun r90 => nzP (w64 (r50.1.Cols + 1)) <| gemm_Cells r90 r50.1 r50.2.1 r50.2.2 fun r115 => ifP (r50.1.Cols == 0) (law15_live  fun r157 => ifP r157 (Q (r115.2 == 0)) (Q false)) (ifP (r50.1.Rows == 0) (law15_live  fun r163 => ifP r163 (Q (r115.2 == 0)) (Q false)) (ifP (r50.2.1.Cols == 0) (law15_live  fun r169 => ifP r169 (Q (r115.2 == 0)) (Q false)) (ifP (((w64 (a1)).tmod (w64 (r50.1.Cols + 1))) == 0) (law15_live  fun r175 => ifP r175 (Q (r115.2 == 0)) (Q false)) (ifP (((w64 (a1)).tmod (w64 (r50.1.Cols + 1))) == r50.1.Cols) (law15_live  fun r181 => ifP r181 (Q (r115.2 == 0)) (Q false)) (csr_Cut r50.1 (0, r50.1.Rows) (0, (w64 (a1)).tmod (w64 (r50.1.Cols + 1))) fun r231 => csr_Cut r50.2.1 (0, (w64 (a1)).tmod (w64 (r50.1.Cols + 1))) (0, r50.2.1.Cols) fun r248 => gemm_Cells r90 r231 r248 r50.2.2 fun r265 => csr_Cut r50.1 (0, r50.1.Rows) ((w64 (a1)).tmod (w64 (r50.1.Cols + 1)), r50.1.Cols) fun r321 => csr_Cut r50.2.1 ((w64 (a1)).tmod (w64 (r50.1.Cols + 1)), r50.1.Cols) (0, r50.2.1.Cols) fun r338 => gemm_Cells r90 r321 r338 r50.2.2 fun r355 => gemm_Merge r90 ([r265.1, r355.1] : List (List Cell)) fun r389 => law15_live  fun r400 => ifP r400 (ifP (r115.2 == 0) (ifP (r265.2 == 0) (ifP (r355.2 == 0) (ifP (r389.2 == 0) (ref15_SameCells r115.1 r389.1 fun r409 => Q r409) (Q false)) (Q false)) (Q false)) (Q false)) (Q false))))))

def csr_Turn (a0 : Rows) (Q : Rows → Prop) : Prop :=
  csr_sure a0 fun r43 => csr_Triples r43 fun r71 => loopP (fun (s : (List Triple) × Int) (next230 : ((List Triple) × Int) → Prop) => match s with | (s224, s229) => ifP (decide (s229 < (r71.length : Int))) (idxP s224 s229 fun x244 => idxP s224 s229 fun x251 => next230 ((s224.set s229.toNat ({ Row := x244.Col, Col := x244.Row, Val := x244.Val } : Triple)), w64 (s229 + 1))) (sortP csr_order s224 fun y259 => csr_built r43.Cols r43.Rows y259 fun r268 => Q r268)) (r71, 0)

def law15_GemmTurns (a0 : Law15_Task) (Q : Bool → Prop) : Prop :=
  joinP (fun (k19 : Int → Prop) => ifP (a0.Ring == 3) (k19 1) (ifP (a0.Ring == 4) (k19 1) (k19 a0.Ring))) fun s18 => law13_Right s18 fun r28 => law15_Task_Three ({ Ring := s18, Size := a0.Size, A := a0.A, B := a0.B, M := a0.M } : Law15_Task) fun r69 => gemm_Cells r28 r69.1 r69.2.1 r69.2.2 fun r117 => csr_Turn r69.2.1 fun r190 => csr_Turn r69.1 fun r207 => csr_Turn r69.2.2 fun r224 => gemm_Cells r28 r190 r207 r224 fun r241 => ifP (r117.2 != 0) (Q false) (ifP (r241.2 != 0) (Q false) (ifP ((r117.1.length : Int) != (r241.1.length : Int)) (Q false) (loopP (fun (s523 : Int) (next524 : Int → Prop) => ifP (decide (s523 < (r117.1.length : Int))) (loopP (fun (s : Bool × Int) (next615 : (Bool × Int) → Prop) => match s with | (s613, s614) => ifP (decide (s614 < (r241.1.length : Int))) (ifP s613 (next615 (true, w64 (s614 + 1))) (idxP r241.1 s614 fun x624 => idxP r117.1 s523 fun x633 => idxP r117.1 s523 fun x642 => idxP r117.1 s523 fun x651 => next615 (x624 == ({ Row := x633.Col, Col := x642.Row, Val := x651.Val } : Cell), w64 (s614 + 1)))) (ifP (!s613) (Q false) (next524 (w64 (s523 + 1))))) (false, 0)) (law15_live  fun r660 => Q r660)) 0)))

def law15_full (a0 : Int) (a1 : Int) (Q : Rows → Prop) : Prop :=
  loopP (fun (s : (List Triple) × Int) (next309 : ((List Triple) × Int) → Prop) => match s with | (s303, s307) => ifP (decide (s307 < a0)) (loopP (fun (s : (List Triple) × Int) (next350 : ((List Triple) × Int) → Prop) => match s with | (s345, s349) => ifP (decide (s349 < a1)) (appP 24 s345 ([({ Row := s307, Col := s349, Val := 1 } : Triple)]) fun _ => next350 ((s345 ++ ([({ Row := s307, Col := s349, Val := 1 } : Triple)])), w64 (s349 + 1))) (next309 (s345, w64 (s307 + 1)))) (s303, 0)) (ref07_Of 1 a0 a1 s303 fun r366 => Q r366.1)) (([] : List Triple), 0)

def ref07_Turn (a0 : Rows) (Q : Rows → Prop) : Prop :=
  ref07_Sure a0 fun r43 => ref07_Triples r43 fun r70 => loopP (fun (s : (List Triple) × Int) (next431 : ((List Triple) × Int) → Prop) => match s with | (s425, s429) => ifP (decide (s429 < r43.Cols)) (loopP (fun (s : (List Triple) × Int) (next549 : ((List Triple) × Int) → Prop) => match s with | (s544, s548) => ifP (decide (s548 < (r70.length : Int))) (idxP r70 s548 fun x566 => ifP (x566.Col == s429) (idxP r70 s548 fun x577 => idxP r70 s548 fun x586 => appP 24 s544 ([({ Row := s429, Col := x577.Row, Val := x586.Val } : Triple)]) fun _ => next549 ((s544 ++ ([({ Row := s429, Col := x577.Row, Val := x586.Val } : Triple)])), w64 (s548 + 1))) (next549 (s544, w64 (s548 + 1)))) (next431 (s544, w64 (s429 + 1)))) (s425, 0)) (ref07_built r43.Cols r43.Rows s425 fun r605 => Q r605)) (([] : List Triple), 0)

def flags_within (a0 : List Int) (a1 : Int) (Q : Bool → Prop) : Prop :=
  ifP (decide (0 ≤ a1)) (Q (decide ((shr .i64 a1 6) < (a0.length : Int)))) (Q false)

def flags_bit (a0 : Int) (Q : Int → Prop) : Prop :=
  nnP (bnd .u64 (IntKind.wrap .u64 (a0)) 63) <| Q (shl .u64 1 (bnd .u64 (IntKind.wrap .u64 (a0)) 63))

def flags_Has (a0 : List Int) (a1 : Int) (Q : Bool → Prop) : Prop :=
  flags_within a0 a1 fun r4 => ifP r4 (idxP a0 (shr .i64 a1 6) fun x10 => flags_bit a1 fun r18 => Q ((bnd .u64 x10 r18) != 0)) (Q false)

def flags_words (a0 : Int) (Q : Int → Prop) : Prop :=
  Q (shr .i64 (w64 ((if 4096 < (if 0 > a0 then 0 else a0) then 4096 else (if 0 > a0 then 0 else a0)) + 63)) 6)

def flags_each_555 (a0 : List Int) (Q : (List Int) → Prop) : Prop :=
  Q a0

def flags_each_1_6c7 (o0 : Nat) (o1 : Int) (o2 : Int) (o3 : List Int) (Y : Nat → Int → Int → Int → ((Bool × Nat × Int) → Prop) → Prop) (Q : (Nat × Int) → Prop) : Prop :=
  loopP (fun (s : Int × Int × Nat) (next193 : (Int × Int × Nat) → Prop) => match s with | (s190, s191, s192) => ifP (decide (s191 < (o3.length : Int))) (idxP o3 s191 fun x208 => loopP (fun (s : Int × Int × Int × Nat) (next262 : (Int × Int × Int × Nat) → Prop) => match s with | (s258, s259, s260, s261) => ifP (s259 != 0) (ifP ((bnd .u64 s259 1) == 1) (Y s261 o1 s258 s260 fun r275 => ifP (!r275.1) (Q (r275.2.1, r275.2.2)) (next262 (r275.2.2, shr .u64 s259 1, w64 (s260 + 1), r275.2.1))) (next262 (s258, shr .u64 s259 1, w64 (s260 + 1), s261))) (next193 (s258, w64 (s191 + 1), s261))) (s190, x208, shl .i64 s191 6, s192)) (Q (s192, s190))) (o2, 0, o0)

def flags_Next (a0 : List Int) (a1 : Int) (Q : Int → Prop) : Prop :=
  flags_each_555 a0 fun r30 => flags_each_1_6c7 0 a1 0 r30 (fun (y51 : Nat) (y52 : Int) (y54 : Int) (x56 : Int) (Qy : (Bool × Nat × Int) → Prop) => eqP y51 0 (ifP (decide (y52 ≤ x56)) (Qy (false, 1, x56)) (Qy (true, 0, y54)))) fun r62 => ifP (decide (r62.1 = 0)) (Q (-1)) (eqP r62.1 1 (Q r62.2))

def flags_Right (a0 : List Int) (a1 : Int) (Q : Bool → Prop) : Prop :=
  ifP (decide (0 ≤ a1)) (ifP (decide (a1 ≤ 4096)) (flags_words a1 fun r6 => ifP ((a0.length : Int) == r6) (flags_Next a0 a1 fun r11 => Q (decide (r11 < 0))) (Q false)) (Q false)) (Q false)

def devec_Right (a0 : Dense) (Q : Bool → Prop) : Prop :=
  flags_Right a0.Has a0.N fun r17 => ifP (!r17) (Q false) (ifP ((a0.Vals.length : Int) != a0.N) (Q false) (loopP (fun (s78 : Int) (next79 : Int → Prop) => ifP (decide (s78 < (a0.Vals.length : Int))) (idxP a0.Vals s78 fun x94 => ifP (x94 != 0) (flags_Has a0.Has s78 fun r103 => ifP (!r103) (Q false) (next79 (w64 (s78 + 1)))) (next79 (w64 (s78 + 1)))) (Q true)) 0))

def flags_New (a0 : Int) (Q : (List Int) → Prop) : Prop :=
  flags_words a0 fun r4 => mkP 8 r4 0 fun _ => Q (List.replicate r4.toNat 0)

def devec_New (a0 : Int) (Q : Dense → Prop) : Prop :=
  ifP (decide (a0 < 0)) (mkP 8 0 0 fun _ => flags_New 0 fun r15 => Q ({ N := 0, Has := r15, Vals := (List.replicate (Int.toNat 0) (0 : Int)) } : Dense)) (ifP (decide (4096 < a0)) (mkP 8 0 0 fun _ => flags_New 0 fun r34 => Q ({ N := 0, Has := r34, Vals := (List.replicate (Int.toNat 0) (0 : Int)) } : Dense)) (mkP 8 a0 0 fun _ => flags_New a0 fun r52 => Q ({ N := a0, Has := r52, Vals := (List.replicate a0.toNat (0 : Int)) } : Dense)))

def pull_sure (a0 : Rows) (a1 : Dense) (Q : (Rows × Dense) → Prop) : Prop :=
  joinP (fun (k103 : (Int × Int × (List Int) × (List Int) × (List Int)) → Prop) => csr_Right a0 fun r104 => ifP (!r104) (csr_Cut a0 (0, 0) (0, 0) fun r109 => k103 (r109.Rows, r109.Cols, r109.Start, r109.Col, r109.Val)) (k103 (a0.Rows, a0.Cols, a0.Start, a0.Col, a0.Val))) fun (s89, s90, s91, s95, s99) => devec_Right a1 fun r127 => ifP (!r127) (devec_New 0 fun r132 => Q (({ Rows := s89, Cols := s90, Start := s91, Col := s95, Val := s99 } : Rows), r132)) (Q (({ Rows := s89, Cols := s90, Start := s91, Col := s95, Val := s99 } : Rows), a1))

def pull_adder_6fc (a0 : Int) (Q : (Bool × Int × Wide) → Prop) : Prop :=
  Q (false, a0, ({ Hi := 0, Lo := 0 } : Wide))

def pull_adder_1_b72 (o0 : Bool) (o1 : Int) (o2 : Wide) (a0 : Wide) (Q : (Bool × Wide) → Prop) : Prop :=
  ifP o0 (ring_Add o1 o2 a0 fun r12 => Q (true, r12)) (Q (true, a0))

def pull_adder_2_cdb (o0 : Wide) (o1 : Bool) (Q : (Wide × Bool) → Prop) : Prop :=
  Q (o0, o1)

def pull_row (a0 : Int) (a1 : Rows) (a2 : Int) (a3 : Dense) (Q : (Wide × Bool) → Prop) : Prop :=
  pull_adder_6fc a0 fun r47 => idxP a1.Start a2 fun x64 => loopP (fun (s : Bool × Int × Int × Int) (next250 : (Bool × Int × Int × Int) → Prop) => match s with | (s246, s247, s248, s249) => idxP a1.Start (w64 (a2 + 1)) fun x265 => ifP (decide (s249 < x265)) (idxP a1.Col s249 fun x284 => flags_Has a3.Has x284 fun r296 => ifP r296 (idxP a1.Val s249 fun x302 => idxP a3.Vals x284 fun x311 => ring_Mul a0 x302 x311 fun r319 => pull_adder_1_b72 s246 r47.2.1 ({ Hi := s247, Lo := s248 } : Wide) r319 fun r329 => next250 (r329.1, r329.2.Hi, r329.2.Lo, w64 (s249 + 1))) (next250 (s246, s247, s248, w64 (s249 + 1)))) (pull_adder_2_cdb ({ Hi := s247, Lo := s248 } : Wide) s246 fun r342 => Q (r342.1, r342.2))) (r47.1, r47.2.2.Hi, r47.2.2.Lo, x64)

def pull_asked_064 (a0 : Int) (a1 : List Int) (a2 : Bool) (Q : (Int × (List Int) × Bool) → Prop) : Prop :=
  Q (a0, a1, a2)

def pull_asked_1_839 (o0 : Nat) (o1 : Int) (o2 : Rows) (o3 : Dense) (o4 : List Sum) (o5 : Int) (o6 : List Int) (o7 : Bool) (Y : Nat → Int → Rows → Dense → (List Sum) → Int → ((Bool × Nat × (List Sum)) → Prop) → Prop) (Q : (Nat × (List Sum)) → Prop) : Prop :=
  loopP (fun (s : (List Sum) × Int × Nat) (next135 : ((List Sum) × Int × Nat) → Prop) => match s with | (s129, s133, s134) => ifP (decide (s133 < o5)) (flags_Has o6 s133 fun r140 => ifP (!(r140 == o7)) (Y s134 o1 o2 o3 s129 s133 fun r151 => ifP (!r151.1) (Q (r151.2.1, r151.2.2)) (next135 (r151.2.2, w64 (s133 + 1), r151.2.1))) (next135 (s129, w64 (s133 + 1), s134))) (Q (s134, s129))) (o4, 0, o0)

def pull_Sums (a0 : Int) (a1 : Rows) (a2 : Dense) (a3 : List Int) (a4 : Bool) (Q : ((List Sum) × Int) → Prop) : Prop :=
  pull_sure a1 a2 fun r56 => ring_Is a0 fun r92 => ifP (!r92) (Q (([] : List Sum), 8)) (ifP (r56.2.N != r56.1.Cols) (Q (([] : List Sum), 4)) (pull_asked_064 r56.1.Rows a3 a4 fun r125 => pull_asked_1_839 0 a0 r56.1 r56.2 ([] : List Sum) r125.1 r125.2.1 r125.2.2 (fun (y234 : Nat) (y235 : Int) (y237 : Rows) (y248 : Dense) (y256 : List Sum) (x262 : Int) (Qy : (Bool × Nat × (List Sum)) → Prop) => eqP y234 0 (pull_row y235 y237 x262 y248 fun r269 => ifP r269.2 (appP 24 y256 ([({ At := x262, Val := r269.1 } : Sum)]) fun _ => Qy (true, 0, (y256 ++ ([({ At := x262, Val := r269.1 } : Sum)])))) (Qy (true, 0, y256)))) fun r286 => eqP r286.1 0 (Q (r286.2, 0))))

def ref09_Right (a0 : Vec) (Q : Bool → Prop) : Prop :=
  ifP (decide (a0.N < 0)) (Q false) (ifP (decide (4096 < a0.N)) (Q false) (loopP (fun (s79 : Int) (next80 : Int → Prop) => ifP (decide (s79 < (a0.Items.length : Int))) (idxP a0.Items s79 fun x86 => ifP (decide (x86.At < 0)) (Q false) (idxP a0.Items s79 fun x96 => ifP (decide (a0.N ≤ x96.At)) (Q false) (ifP (decide (0 < s79)) (idxP a0.Items s79 fun x107 => idxP a0.Items (w64 (s79 - 1)) fun x116 => ifP (decide (x107.At ≤ x116.At)) (Q false) (next80 (w64 (s79 + 1)))) (next80 (w64 (s79 + 1)))))) (Q true)) 0))

def ref09_Sure (a0 : Vec) (Q : Vec → Prop) : Prop :=
  ref09_Right a0 fun r15 => ifP r15 (Q a0) (Q ({ N := 0, Items := ([] : List Item) } : Vec))

def ref03_words (a0 : Int) (Q : Int → Prop) : Prop :=
  joinP (fun (k4 : Int → Prop) => ifP (decide (4096 < a0)) (k4 4096) (k4 a0)) fun s3 => ifP (decide (s3 < 1)) (Q 0) (Q (w64 ((w64 (s3 + 63)).tdiv 64)))

def ref03_New (a0 : Int) (Q : (List Int) → Prop) : Prop :=
  ref03_words a0 fun r4 => mkP 8 r4 0 fun _ => Q (List.replicate r4.toNat 0)

def ref10_New (a0 : Int) (Q : Dense → Prop) : Prop :=
  ifP (decide (a0 < 0)) (mkP 8 0 0 fun _ => ref03_New 0 fun r15 => Q ({ N := 0, Has := r15, Vals := (List.replicate (Int.toNat 0) (0 : Int)) } : Dense)) (ifP (decide (4096 < a0)) (mkP 8 0 0 fun _ => ref03_New 0 fun r30 => Q ({ N := 0, Has := r30, Vals := (List.replicate (Int.toNat 0) (0 : Int)) } : Dense)) (mkP 8 a0 0 fun _ => ref03_New a0 fun r44 => Q ({ N := a0, Has := r44, Vals := (List.replicate a0.toNat (0 : Int)) } : Dense)))

def ref03_set (a0 : List Int) (a1 : Int) (a2 : Bool) (Q : (List Int) → Prop) : Prop :=
  appP 8 ([] : List Int) a0 fun _ => ifP (decide (a1 < 0)) (Q (([] : List Int) ++ a0)) (ifP (decide ((a0.length : Int) ≤ (w64 (a1.tdiv 64)))) (Q (([] : List Int) ++ a0)) (nnP (IntKind.wrap .u64 (a1.tmod 64)) <| ifP a2 (idxP (([] : List Int) ++ a0) (w64 (a1.tdiv 64)) fun x31 => idxP (([] : List Int) ++ a0) (w64 (a1.tdiv 64)) fun x36 => Q ((([] : List Int) ++ a0).set ((w64 (a1.tdiv 64)).toNat) (bor .u64 x31 (shl .u64 1 (IntKind.wrap .u64 (a1.tmod 64)))))) (idxP (([] : List Int) ++ a0) (w64 (a1.tdiv 64)) fun x42 => idxP (([] : List Int) ++ a0) (w64 (a1.tdiv 64)) fun x47 => Q ((([] : List Int) ++ a0).set ((w64 (a1.tdiv 64)).toNat) (bandn .u64 x42 (shl .u64 1 (IntKind.wrap .u64 (a1.tmod 64))))))))

def ref03_Put (a0 : List Int) (a1 : Int) (Q : (List Int) → Prop) : Prop :=
  ref03_set a0 a1 true fun r7 => Q r7

def ref03_Of (a0 : Int) (a1 : List Int) (Q : (List Int) → Prop) : Prop :=
  ref03_New a0 fun r17 => loopP (fun (s : (List Int) × Int) (next151 : ((List Int) × Int) → Prop) => match s with | (s146, s150) => ifP (decide (s150 < (a1.length : Int))) (idxP a1 s150 fun x158 => ifP (decide (0 ≤ x158)) (idxP a1 s150 fun x168 => ifP (decide (x168 < a0)) (idxP a1 s150 fun x178 => ifP (decide (x178 < 4096)) (idxP a1 s150 fun x188 => ref03_Put s146 x188 fun r196 => next151 (r196, w64 (s150 + 1))) (next151 (s146, w64 (s150 + 1)))) (next151 (s146, w64 (s150 + 1)))) (next151 (s146, w64 (s150 + 1)))) (Q s146)) (r17, 0)

def ref10_Of (a0 : Vec) (Q : Dense → Prop) : Prop :=
  ref09_Sure a0 fun r28 => ref10_New r28.N fun r55 => loopP (fun (s : (List Int) × (List Int) × Int) (next439 : ((List Int) × (List Int) × Int) → Prop) => match s with | (s429, s433, s437) => ifP (decide (s437 < (r28.Items.length : Int))) (idxP r28.Items s437 fun x461 => appP 8 s433 ([x461.At]) fun _ => idxP r28.Items s437 fun x478 => idxP r28.Items s437 fun x487 => idxP s429 x478.At fun x496 => next439 ((s429.set x478.At.toNat x487.Val), (s433 ++ ([x461.At])), w64 (s437 + 1))) (ref03_Of r28.N s433 fun r505 => Q ({ N := r55.N, Has := r505, Vals := s429 } : Dense))) (r55.Vals, ([] : List Int), 0)

def ref13_SameSums (a0 : List Sum) (a1 : List Sum) (Q : Bool → Prop) : Prop :=
  ifP ((a0.length : Int) != (a1.length : Int)) (Q false) (loopP (fun (s54 : Int) (next55 : Int → Prop) => ifP (decide (s54 < (a0.length : Int))) (idxP a0 s54 fun x61 => idxP a1 s54 fun x70 => ifP (!(x61 == x70)) (Q false) (next55 (w64 (s54 + 1)))) (Q true)) 0)

def law15_GemmColumns (a0 : Law15_Task) (a1 : Int) (Q : Bool → Prop) : Prop :=
  law15_Task_Three a0 fun r50 => law13_Right a0.Ring fun r90 => ifP (r50.2.1.Cols == 0) (law15_live  fun r100 => Q r100) (nzP r50.2.1.Cols <| law15_full r50.1.Rows r50.2.1.Cols fun r134 => gemm_Cells r90 r50.1 r50.2.1 r134 fun r151 => ref07_Turn r50.2.1 fun r193 => ref07_Row r193 ((w64 (a1)).tmod r50.2.1.Cols) fun r210 => ref10_Of ({ N := r50.2.1.Rows, Items := r210 } : Vec) fun r247 => pull_Sums r90 r50.1 r247 ([] : List Int) true fun r261 => loopP (fun (s : (List Sum) × Int) (next548 : ((List Sum) × Int) → Prop) => match s with | (s542, s546) => ifP (decide (s546 < (r151.1.length : Int))) (idxP r151.1 s546 fun x564 => ifP (x564.Col == ((w64 (a1)).tmod r50.2.1.Cols)) (idxP r151.1 s546 fun x575 => idxP r151.1 s546 fun x584 => appP 24 s542 ([({ At := x575.Row, Val := x584.Val } : Sum)]) fun _ => next548 ((s542 ++ ([({ At := x575.Row, Val := x584.Val } : Sum)])), w64 (s546 + 1))) (next548 (s542, w64 (s546 + 1)))) (law15_live  fun r598 => ifP r598 (ifP (r151.2 == 0) (ifP (r261.2 == 0) (ref13_SameSums s542 r261.1 fun r605 => Q r605) (Q false)) (Q false)) (Q false))) (([] : List Sum), 0))
end Go.Proofs.YtjabmpfcpekpdaaGreat
