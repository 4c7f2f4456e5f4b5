/- Types, and pure functions as the Go text has them (printed by a program of ours). -/
import Derived.Test.YtjobeiikppmidaaFwS
import Derived.Test.YtjobeiikppmidaaFwZ
namespace Go.Proofs.Ytjobeiikppmidaa
open Go Go.Fw
set_option linter.unusedVariables false
set_option linter.unusedSimpArgs false
set_option maxRecDepth 8000
set_option maxHeartbeats 1000000
abbrev eI64 : Elem Int := flat 1 (fun x => [.int .i64 x]) (fun _ => ⟨rfl, rfl⟩)
abbrev eU64 : Elem Int := flat 1 (fun x => [.int .u64 x]) (fun _ => ⟨rfl, rfl⟩)
abbrev eU8 : Elem Int := flat 1 (fun x => [.int .u8 x]) (fun _ => ⟨rfl, rfl⟩)
abbrev eI32 : Elem Int := flat 1 (fun x => [.int .i32 x]) (fun _ => ⟨rfl, rfl⟩)
abbrev eB : Elem Bool := flat 1 (fun x => [.bool x]) (fun _ => ⟨rfl, rfl⟩)
structure Triple where
  Row : Int
  Col : Int
  Val : Int
deriving DecidableEq, Inhabited
def encTriple (x : Triple) : List Value := [.int .i64 x.Row, .int .i64 x.Col, .int .i64 x.Val]
abbrev eTriple : Elem Triple := flat 3 encTriple (fun _ => ⟨rfl, rfl⟩)
structure Rows where
  Rows : Int
  Cols : Int
  Start : List Int
  Col : List Int
  Val : List Int
deriving DecidableEq, Inhabited
def eRows : Elem Rows where
  sz := 5
  rep I cs x := ∃ a2 c2 a3 c3 a4 c4, cs = [.int .i64 x.Rows, .int .i64 x.Cols, .slice a2 x.Start.length c2, .slice a3 x.Col.length c3, .slice a4 x.Val.length c4] ∧ RepSl eI64 I a2 c2 x.Start ∧ RepSl eI64 I a3 c3 x.Col ∧ RepSl eI64 I a4 c4 x.Val
  mono hle := fun ⟨a2, c2, a3, c3, a4, c4, e, h0, h1, h2⟩ => ⟨a2, c2, a3, c3, a4, c4, e, h0.mono hle, h1.mono hle, h2.mono hle⟩
  len := fun ⟨a2, c2, a3, c3, a4, c4, e, _, _, _⟩ => by rw [e]; rfl
  one := fun ⟨a2, c2, a3, c3, a4, c4, e, _, _, _⟩ => by rw [e]; rfl
structure Edge where
  From : Int
  To : Int
  W : Int
deriving DecidableEq, Inhabited
def encEdge (x : Edge) : List Value := [.int .i64 x.From, .int .i64 x.To, .int .i64 x.W]
abbrev eEdge : Elem Edge := flat 3 encEdge (fun _ => ⟨rfl, rfl⟩)
structure Wide where
  Hi : Int
  Lo : Int
deriving DecidableEq, Inhabited
def encWide (x : Wide) : List Value := [.int .i64 x.Hi, .int .u64 x.Lo]
abbrev eWide : Elem Wide := flat 2 encWide (fun _ => ⟨rfl, rfl⟩)
structure Columns where
  Rows : Int
  Cols : Int
  At : List Int
  Start : List Int
  Row : List Int
  Val : List Int
deriving DecidableEq, Inhabited
def eColumns : Elem Columns where
  sz := 6
  rep I cs x := ∃ a2 c2 a3 c3 a4 c4 a5 c5, cs = [.int .i64 x.Rows, .int .i64 x.Cols, .slice a2 x.At.length c2, .slice a3 x.Start.length c3, .slice a4 x.Row.length c4, .slice a5 x.Val.length c5] ∧ RepSl eI64 I a2 c2 x.At ∧ RepSl eI64 I a3 c3 x.Start ∧ RepSl eI64 I a4 c4 x.Row ∧ RepSl eI64 I a5 c5 x.Val
  mono hle := fun ⟨a2, c2, a3, c3, a4, c4, a5, c5, e, h0, h1, h2, h3⟩ => ⟨a2, c2, a3, c3, a4, c4, a5, c5, e, h0.mono hle, h1.mono hle, h2.mono hle, h3.mono hle⟩
  len := fun ⟨a2, c2, a3, c3, a4, c4, a5, c5, e, _, _, _, _⟩ => by rw [e]; rfl
  one := fun ⟨a2, c2, a3, c3, a4, c4, a5, c5, e, _, _, _, _⟩ => by rw [e]; rfl
structure Item where
  At : Int
  Val : Int
deriving DecidableEq, Inhabited
def encItem (x : Item) : List Value := [.int .i64 x.At, .int .i64 x.Val]
abbrev eItem : Elem Item := flat 2 encItem (fun _ => ⟨rfl, rfl⟩)

def law07_Size (a0 : Int) (Q : Int → Prop) : Prop :=
  Q ((w64 (a0)).tmod 40)

def law07_Few (a0 : List Triple) (Q : (List Triple) → Prop) : Prop :=
  ifP (decide (60 < (a0.length : Int))) (slP a0 0 60 fun _ => Q ((a0.take (Int.toNat 60)).drop (Int.toNat 0))) (Q a0)

def ref07_Empty (a0 : Int) (a1 : Int) (Q : Rows → Prop) : Prop :=
  mkP 8 (w64 (a0 + 1)) 0 fun _ => Q ({ Rows := a0, Cols := a1, Start := (List.replicate (w64 (a0 + 1)).toNat 0), Col := ([] : List Int), Val := ([] : List Int) } : Rows)

def ref07_built (a0 : Int) (a1 : Int) (a2 : List Triple) (Q : Rows → Prop) : Prop :=
  ref07_Empty a0 a1 fun r39 => loopP (fun (s : (List Int) × (List Int) × (List Int) × Int) (next407 : ((List Int) × (List Int) × (List Int) × Int) → Prop) => match s with | (s394, s398, s402, s406) => ifP (decide (s406 < (a2.length : Int))) (idxP a2 s406 fun x436 => appP 8 s398 ([x436.Col]) fun _ => idxP a2 s406 fun x472 => appP 8 s402 ([x472.Val]) fun _ => idxP a2 s406 fun x496 => loopP (fun (s : (List Int) × Int) (next544 : ((List Int) × Int) → Prop) => match s with | (s539, s543) => ifP (decide (s543 ≤ a0)) (idxP s539 s543 fun x553 => idxP s539 s543 fun x558 => next544 ((s539.set s543.toNat (w64 (x553 + 1))), w64 (s543 + 1))) (next407 (s539, (s398 ++ ([x436.Col])), (s402 ++ ([x472.Val])), w64 (s406 + 1)))) (s394, w64 (x496.Row + 1))) (Q ({ Rows := r39.Rows, Cols := r39.Cols, Start := s394, Col := s398, Val := s402 } : Rows))) (r39.Start, r39.Col, r39.Val, 0)

def ref02_Is (a0 : Int) (Q : Bool → Prop) : Prop :=
  ifP (decide (1 ≤ a0)) (Q (decide (a0 ≤ 5))) (Q false)

def ref05_below (a0 : Edge) (a1 : Edge) (Q : Bool → Prop) : Prop :=
  ifP (decide (a0.From < a1.From)) (Q true) (ifP (a0.From == a1.From) (Q (decide (a0.To < a1.To))) (Q false))

def ref01_Of (a0 : Int) (Q : Wide → Prop) : Prop :=
  ifP (decide (a0 < 0)) (Q ({ Hi := (-1), Lo := IntKind.wrap .u64 (a0) } : Wide)) (Q ({ Hi := 0, Lo := IntKind.wrap .u64 (a0) } : Wide))

def ref01_Compare (a0 : Wide) (a1 : Wide) (Q : Int → Prop) : Prop :=
  joinP (fun (k15 : Unit → Prop) => ifP (decide (a0.Hi < a1.Hi)) (Q (-1)) (ifP (a0.Hi == a1.Hi) (ifP (decide (a0.Lo < a1.Lo)) (Q (-1)) (k15 ())) (k15 ()))) fun _ => ifP (a0 == a1) (Q 0) (Q 1)

def ref02_truth (a0 : Bool) (Q : Wide → Prop) : Prop :=
  ifP a0 (Q ({ Hi := 0, Lo := 1 } : Wide)) (Q ({ Hi := 0, Lo := 0 } : Wide))

def ref01_Add (a0 : Wide) (a1 : Wide) (Q : Wide → Prop) : Prop :=
  ifP (decide ((IntKind.wrap .u64 (a0.Lo + a1.Lo)) < a0.Lo)) (Q ({ Hi := w64 ((w64 (a0.Hi + a1.Hi)) + 1), Lo := IntKind.wrap .u64 (a0.Lo + a1.Lo) } : Wide)) (Q ({ Hi := w64 (a0.Hi + a1.Hi), Lo := IntKind.wrap .u64 (a0.Lo + a1.Lo) } : Wide))

def ref02_Add (a0 : Int) (a1 : Wide) (a2 : Wide) (Q : Wide → Prop) : Prop :=
  joinP (fun (k18 : Bool → Prop) => ifP (a0 == 1) (k18 (a0 == 1)) (ifP (a0 == 3) (k18 (a0 == 3)) (k18 (a0 == 4)))) fun s17 => ifP s17 (ref01_Compare a2 a1 fun r25 => ifP (decide (r25 < 0)) (Q a2) (Q a1)) (ifP (a0 == 2) (ifP (!(a1 == ({ Hi := 0, Lo := 0 } : Wide))) (ref02_truth true fun r32 => Q r32) (ref02_truth (!(a2 == ({ Hi := 0, Lo := 0 } : Wide))) fun r36 => Q r36)) (ifP (a0 == 5) (ref01_Add a1 a2 fun r41 => Q r41) (Q ({ Hi := 0, Lo := 0 } : Wide))))

def ref01_Narrow (a0 : Wide) (Q : (Int × Bool) → Prop) : Prop :=
  ifP (a0.Hi == 0) (ifP (decide (0 ≤ (w64 (a0.Lo)))) (Q (w64 (a0.Lo), true)) (ifP (a0.Hi == (-1)) (ifP (decide ((w64 (a0.Lo)) < 0)) (Q (w64 (a0.Lo), true)) (Q (0, false))) (Q (0, false)))) (ifP (a0.Hi == (-1)) (ifP (decide ((w64 (a0.Lo)) < 0)) (Q (w64 (a0.Lo), true)) (Q (0, false))) (Q (0, false)))

def ref05_Combine (a0 : Int) (a1 : List Edge) (Q : ((List Edge) × Int) → Prop) : Prop :=
  ref02_Is a0 fun r12 => ifP (!r12) (Q (([] : List Edge), 8)) (loopP (fun (s : (List Edge) × (List Wide) × Int) (next2700 : ((List Edge) × (List Wide) × Int) → Prop) => match s with | (s2689, s2693, s2697) => ifP (decide (s2697 < (a1.length : Int))) (joinP (fun (k2857 : Int → Prop) => loopP (fun (s2905 : Int) (next2906 : Int → Prop) => ifP (decide (s2905 < (s2689.length : Int))) (idxP s2689 s2905 fun x2915 => idxP a1 s2697 fun x2920 => ref05_below x2915 x2920 fun r2928 => ifP r2928 (next2906 (w64 (s2905 + 1))) (k2857 s2905)) (k2857 s2905)) 0) fun s2856 => idxP a1 s2697 fun x2953 => ref01_Of x2953.W fun r2961 => joinP (fun (k3095 : Bool → Prop) => ifP (decide (s2856 < (s2689.length : Int))) (idxP a1 s2697 fun x3100 => idxP s2689 s2856 fun x3109 => ref05_below x3100 x3109 fun r3113 => k3095 (!r3113)) (k3095 false)) fun s3094 => ifP s3094 (idxP s2693 s2856 fun x3126 => ref02_Add a0 x3126 r2961 fun r3130 => idxP s2693 s2856 fun x3135 => next2700 (s2689, (s2693.set s2856.toNat r3130), w64 (s2697 + 1))) (appP 24 s2689 ([({ From := 0, To := 0, W := 0 } : Edge)]) fun _ => appP 16 s2693 ([({ Hi := 0, Lo := 0 } : Wide)]) fun _ => loopP (fun (s : (List Edge) × (List Wide) × Int) (next3330 : ((List Edge) × (List Wide) × Int) → Prop) => match s with | (s3321, s3325, s3329) => ifP (decide (s2856 < s3329)) (idxP s3321 (w64 (s3329 - 1)) fun x3340 => idxP s3321 s3329 fun x3345 => idxP s3325 (w64 (s3329 - 1)) fun x3348 => idxP s3325 s3329 fun x3353 => next3330 ((s3321.set s3329.toNat x3340), (s3325.set s3329.toNat x3348), w64 (s3329 - 1))) (idxP a1 s2697 fun x3358 => idxP a1 s2697 fun x3367 => idxP s3321 s2856 fun x3376 => idxP s3325 s2856 fun x3381 => next2700 ((s3321.set s2856.toNat ({ From := x3358.From, To := x3367.To, W := 0 } : Edge)), (s3325.set s2856.toNat r2961), w64 (s2697 + 1)))) ((s2689 ++ ([({ From := 0, To := 0, W := 0 } : Edge)])), (s2693 ++ ([({ Hi := 0, Lo := 0 } : Wide)])), w64 (((s2689 ++ ([({ From := 0, To := 0, W := 0 } : Edge)])).length : Int) - 1)))) (loopP (fun (s : (List Edge) × Int) (next3457 : ((List Edge) × Int) → Prop) => match s with | (s3452, s3456) => ifP (decide (s3456 < (s3452.length : Int))) (idxP s2693 s3456 fun x3474 => ref01_Narrow x3474 fun r3478 => ifP (!r3478.2) (Q (([] : List Edge), 12)) (idxP s3452 s3456 fun x3484 => next3457 ((s3452.set s3456.toNat ({ From := x3484.From, To := x3484.To, W := r3478.1 } : Edge)), w64 (s3456 + 1)))) (Q (s3452, 0))) (s2689, 0))) (([] : List Edge), ([] : List Wide), 0))

def ref07_Of (a0 : Int) (a1 : Int) (a2 : Int) (a3 : List Triple) (Q : (Rows × Int) → Prop) : Prop :=
  ref02_Is a0 fun r22 => ifP (!r22) (Q (({ Rows := 0, Cols := 0, Start := ([] : List Int), Col := ([] : List Int), Val := ([] : List Int) } : Rows), 8)) (ifP (decide (a1 < 0)) (Q (({ Rows := 0, Cols := 0, Start := ([] : List Int), Col := ([] : List Int), Val := ([] : List Int) } : Rows), 3)) (ifP (decide (4096 < a1)) (Q (({ Rows := 0, Cols := 0, Start := ([] : List Int), Col := ([] : List Int), Val := ([] : List Int) } : Rows), 3)) (ifP (decide (a2 < 0)) (Q (({ Rows := 0, Cols := 0, Start := ([] : List Int), Col := ([] : List Int), Val := ([] : List Int) } : Rows), 3)) (ifP (decide (4096 < a2)) (Q (({ Rows := 0, Cols := 0, Start := ([] : List Int), Col := ([] : List Int), Val := ([] : List Int) } : Rows), 3)) (ifP (decide (65536 < (a3.length : Int))) (Q (({ Rows := 0, Cols := 0, Start := ([] : List Int), Col := ([] : List Int), Val := ([] : List Int) } : Rows), 5)) (loopP (fun (s : (List Edge) × Int) (next663 : ((List Edge) × Int) → Prop) => match s with | (s657, s661) => ifP (decide (s661 < (a3.length : Int))) (idxP a3 s661 fun x710 => ifP (decide (x710.Row < 0)) (Q (({ Rows := 0, Cols := 0, Start := ([] : List Int), Col := ([] : List Int), Val := ([] : List Int) } : Rows), 3)) (idxP a3 s661 fun x720 => ifP (decide (a1 ≤ x720.Row)) (Q (({ Rows := 0, Cols := 0, Start := ([] : List Int), Col := ([] : List Int), Val := ([] : List Int) } : Rows), 3)) (idxP a3 s661 fun x730 => ifP (decide (x730.Col < 0)) (Q (({ Rows := 0, Cols := 0, Start := ([] : List Int), Col := ([] : List Int), Val := ([] : List Int) } : Rows), 3)) (idxP a3 s661 fun x740 => ifP (decide (a2 ≤ x740.Col)) (Q (({ Rows := 0, Cols := 0, Start := ([] : List Int), Col := ([] : List Int), Val := ([] : List Int) } : Rows), 3)) (idxP a3 s661 fun x751 => idxP a3 s661 fun x760 => idxP a3 s661 fun x769 => appP 24 s657 ([({ From := x751.Row, To := x760.Col, W := x769.Val } : Edge)]) fun _ => next663 ((s657 ++ ([({ From := x751.Row, To := x760.Col, W := x769.Val } : Edge)])), w64 (s661 + 1))))))) (ref05_Combine a0 s657 fun r802 => ifP (r802.2 != 0) (Q (({ Rows := 0, Cols := 0, Start := ([] : List Int), Col := ([] : List Int), Val := ([] : List Int) } : Rows), r802.2)) (loopP (fun (s : (List Triple) × Int) (next908 : ((List Triple) × Int) → Prop) => match s with | (s902, s906) => ifP (decide (s906 < (r802.1.length : Int))) (idxP r802.1 s906 fun x917 => idxP r802.1 s906 fun x926 => idxP r802.1 s906 fun x935 => appP 24 s902 ([({ Row := x917.From, Col := x926.To, Val := x935.W } : Triple)]) fun _ => next908 ((s902 ++ ([({ Row := x917.From, Col := x926.To, Val := x935.W } : Triple)])), w64 (s906 + 1))) (ref07_built a1 a2 s902 fun r954 => Q (r954, 0))) (([] : List Triple), 0)))) (([] : List Edge), 0)))))))

def law07_Some (a0 : Int × Int) (a1 : List Triple) (Q : Rows → Prop) : Prop :=
  law07_Size a0.1 fun r29 => law07_Size a0.2 fun r33 => law07_Few a1 fun r48 => loopP (fun (s : (List Triple) × Int) (next313 : ((List Triple) × Int) → Prop) => match s with | (s307, s311) => ifP (decide (s311 < (r48.length : Int))) (idxP r48 s311 fun x332 => ifP (decide (x332.Row < 0)) (next313 (s307, w64 (s311 + 1))) (ifP (decide (x332.Col < 0)) (next313 (s307, w64 (s311 + 1))) (ifP (r29 == 0) (next313 (s307, w64 (s311 + 1))) (ifP (r33 == 0) (next313 (s307, w64 (s311 + 1))) (nzP r29 <| nzP r33 <| appP 24 s307 ([({ Row := x332.Row.tmod r29, Col := x332.Col.tmod r33, Val := x332.Val } : Triple)]) fun _ => next313 ((s307 ++ ([({ Row := x332.Row.tmod r29, Col := x332.Col.tmod r33, Val := x332.Val } : Triple)])), w64 (s311 + 1))))))) (ref07_Of 1 r29 r33 s307 fun r389 => ifP (r389.2 != 0) (ref07_Empty r29 r33 fun r410 => Q r410) (Q r389.1))) (([] : List Triple), 0)

def dcsc_none  (Q : Columns → Prop) : Prop :=
  Q ({ Rows := 0, Cols := 0, At := ([] : List Int), Start := ([0] : List Int), Row := ([] : List Int), Val := ([] : List Int) } : Columns)

def csr_within (a0 : Int) (a1 : Int) (Q : Bool → Prop) : Prop :=
  ifP (decide (0 ≤ a0)) (Q (decide (a0 ≤ a1))) (Q false)

def cmp_isNaN_int (a0 : Int) (Q : Bool → Prop) : Prop :=
  Q (a0 != a0)

def cmp_Less_int (a0 : Int) (a1 : Int) (Q : Bool → Prop) : Prop :=
  cmp_isNaN_int a0 fun r1 => ifP r1 (cmp_isNaN_int a1 fun r6 => ifP (!r6) (Q true) (Q (decide (a0 < a1)))) (Q (decide (a0 < a1)))

def slices_IsSorted_int_int (a0 : List Int) (Q : Bool → Prop) : Prop :=
  loopP (fun (s57 : Int) (next58 : Int → Prop) => ifP (decide (0 < s57)) (idxP a0 s57 fun x65 => idxP a0 (w64 (s57 - 1)) fun x74 => cmp_Less_int x65 x74 fun r82 => ifP r82 (Q false) (next58 (w64 (s57 - 1)))) (Q true)) (w64 ((a0.length : Int) - 1))

def csr_row (a0 : List Int) (a1 : Int) (Q : Bool → Prop) : Prop :=
  loopP (fun (s68 : Int) (next69 : Int → Prop) => ifP (decide (s68 < (a0.length : Int))) (idxP a0 s68 fun x85 => csr_within x85 (w64 (a1 - 1)) fun r93 => ifP (!r93) (Q false) (ifP (decide (0 < s68)) (idxP a0 (w64 (s68 - 1)) fun x100 => ifP (decide (x85 ≤ x100)) (Q false) (next69 (w64 (s68 + 1)))) (next69 (w64 (s68 + 1))))) (Q true)) 0

def csr_Right (a0 : Rows) (Q : Bool → Prop) : Prop :=
  csr_within a0.Rows 4096 fun r27 => ifP (!r27) (Q false) (csr_within a0.Cols 4096 fun r32 => ifP (!r32) (Q false) (ifP ((a0.Start.length : Int) != (w64 (a0.Rows + 1))) (Q false) (ifP ((a0.Val.length : Int) != (a0.Col.length : Int)) (Q false) (ifP (decide (65536 < (a0.Col.length : Int))) (Q false) (idxP a0.Start 0 fun x66 => ifP (x66 != 0) (Q false) (idxP a0.Start a0.Rows fun x76 => ifP (x76 != (a0.Col.length : Int)) (Q false) (slices_IsSorted_int_int a0.Start fun r85 => ifP (!r85) (Q false) (loopP (fun (s163 : Int) (next164 : Int → Prop) => ifP (decide (s163 < a0.Rows)) (idxP a0.Start s163 fun x171 => idxP a0.Start (w64 (s163 + 1)) fun x180 => slP a0.Col x171 x180 fun _ => csr_row ((a0.Col.take x180.toNat).drop x171.toNat) a0.Cols fun r198 => ifP (!r198) (Q false) (next164 (w64 (s163 + 1)))) (Q true)) 0))))))))

def csr_empty (a0 : Int) (a1 : Int) (Q : Rows → Prop) : Prop :=
  mkP 8 (w64 (a0 + 1)) 0 fun _ => Q ({ Rows := a0, Cols := a1, Start := (List.replicate (w64 (a0 + 1)).toNat 0), Col := ([] : List Int), Val := ([] : List Int) } : Rows)

def csr_sure (a0 : Rows) (Q : Rows → Prop) : Prop :=
  csr_Right a0 fun r27 => ifP r27 (Q a0) (csr_empty 0 0 fun r32 => Q r32)

def csr_part (a0 : Rows) (a1 : Int) (Q : ((List Int) × (List Int)) → Prop) : Prop :=
  idxP a0.Start a1 fun x39 => idxP a0.Start (w64 (a1 + 1)) fun x48 => slP a0.Col x39 x48 fun _ => slP a0.Val x39 x48 fun _ => Q (((a0.Col.take x48.toNat).drop x39.toNat), ((a0.Val.take x48.toNat).drop x39.toNat))

def csr_Triples (a0 : Rows) (Q : (List Triple) → Prop) : Prop :=
  csr_sure a0 fun r34 => loopP (fun (s : (List Triple) × Int) (next400 : ((List Triple) × Int) → Prop) => match s with | (s394, s398) => ifP (decide (s398 < r34.Rows)) (csr_part r34 s398 fun r422 => loopP (fun (s : (List Triple) × Int) (next527 : ((List Triple) × Int) → Prop) => match s with | (s522, s526) => ifP (decide (s526 < (r422.1.length : Int))) (idxP r422.1 s526 fun x545 => idxP r422.2 s526 fun x554 => appP 24 s522 ([({ Row := s398, Col := x545, Val := x554 } : Triple)]) fun _ => next527 ((s522 ++ ([({ Row := s398, Col := x545, Val := x554 } : Triple)])), w64 (s526 + 1))) (next400 (s522, w64 (s398 + 1)))) (s394, 0)) (Q s394)) (([] : List Triple), 0)

def cmp_Or_int (a0 : List Int) (Q : Int → Prop) : Prop :=
  loopP (fun (s31 : Int) (next32 : Int → Prop) => ifP (decide (s31 < (a0.length : Int))) (idxP a0 s31 fun x39 => ifP (x39 != 0) (Q x39) (next32 (w64 (s31 + 1)))) (Q 0)) 0

def cmp_Compare_int (a0 : Int) (a1 : Int) (Q : Int → Prop) : Prop :=
  cmp_isNaN_int a0 fun r5 => cmp_isNaN_int a1 fun r13 => ifP r5 (ifP r13 (Q 0) (Q (-1))) (ifP r13 (Q 1) (ifP (decide (a0 < a1)) (Q (-1)) (ifP (decide (a1 < a0)) (Q 1) (Q 0))))

def csr_order (a0 : Triple) (a1 : Triple) (Q : Int → Prop) : Prop :=
  cmp_Compare_int a0.Row a1.Row fun r9 => cmp_Compare_int a0.Col a1.Col fun r13 => cmp_Or_int ([r9, r13] : List Int) fun r23 => Q r23

def csr_built (a0 : Int) (a1 : Int) (a2 : List Triple) (Q : Rows → Prop) : Prop :=
  csr_empty a0 a1 fun r39 => loopP (fun (s : (List Int) × (List Int) × (List Int) × Int) (next430 : ((List Int) × (List Int) × (List Int) × Int) → Prop) => match s with | (s417, s421, s425, s429) => ifP (decide (s429 < (a2.length : Int))) (idxP a2 s429 fun x449 => idxP s417 (w64 (x449.Row + 1)) fun x468 => idxP s417 (w64 (x449.Row + 1)) fun x473 => appP 8 s421 ([x449.Col]) fun _ => appP 8 s425 ([x449.Val]) fun _ => next430 ((s417.set ((w64 (x449.Row + 1)).toNat) (w64 (x468 + 1))), (s421 ++ ([x449.Col])), (s425 ++ ([x449.Val])), w64 (s429 + 1))) (loopP (fun (s : (List Int) × Int) (next539 : ((List Int) × Int) → Prop) => match s with | (s534, s538) => ifP (decide (s538 < a0)) (idxP s534 (w64 (s538 + 1)) fun x551 => idxP s534 s538 fun x556 => idxP s534 (w64 (s538 + 1)) fun x559 => next539 ((s534.set ((w64 (s538 + 1)).toNat) (w64 (x551 + x556))), w64 (s538 + 1))) (Q ({ Rows := r39.Rows, Cols := r39.Cols, Start := s534, Col := s421, Val := s425 } : Rows))) (s417, 0))) (r39.Start, r39.Col, r39.Val, 0)

def csr_Turn (a0 : Rows) (Q : Rows → Prop) : Prop :=
  csr_sure a0 fun r44 => csr_Triples r44 fun r73 => loopP (fun (s : (List Triple) × Int) (next233 : ((List Triple) × Int) → Prop) => match s with | (s227, s232) => ifP (decide (s232 < (r73.length : Int))) (idxP s227 s232 fun x248 => idxP s227 s232 fun x255 => next233 ((s227.set s232.toNat ({ Row := x248.Col, Col := x248.Row, Val := x248.Val } : Triple)), w64 (s232 + 1))) (sortP csr_order s227 fun y263 => csr_built r44.Cols r44.Rows y263 fun r272 => Q r272)) (r73, 0)

def dcsc_Of (a0 : Rows) (Q : Columns → Prop) : Prop :=
  dcsc_none  fun r56 => csr_Right a0 fun r87 => ifP (!r87) (Q r56) (csr_Turn a0 fun r137 => csr_Triples r137 fun r154 => loopP (fun (s : (List Int) × (List Int) × (List Int) × (List Int) × Int) (next632 : ((List Int) × (List Int) × (List Int) × (List Int) × Int) → Prop) => match s with | (s615, s619, s623, s627, s631) => ifP (decide (s631 < (r154.length : Int))) (idxP r154 s631 fun x647 => joinP (fun (k761 : ((List Int) × (List Int)) → Prop) => joinP (fun (k783 : Bool → Prop) => ifP ((s615.length : Int) == 0) (k783 true) (idxP s615 (w64 ((s615.length : Int) - 1)) fun x790 => k783 (x790 != x647.Row))) fun s782 => ifP s782 (appP 8 s615 ([x647.Row]) fun _ => appP 8 s619 ([0]) fun _ => k761 ((s615 ++ ([x647.Row])), (s619 ++ ([0])))) (k761 (s615, s619))) fun (s753, s757) => appP 8 s623 ([x647.Col]) fun _ => appP 8 s627 ([x647.Val]) fun _ => idxP s757 (s753.length : Int) fun x836 => next632 (s753, (s757.set ((s753.length : Int).toNat) ((s623 ++ ([x647.Col])).length : Int)), (s623 ++ ([x647.Col])), (s627 ++ ([x647.Val])), w64 (s631 + 1))) (Q ({ Rows := a0.Rows, Cols := a0.Cols, At := s615, Start := s619, Row := s623, Val := s627 } : Columns))) (r56.At, r56.Start, r56.Row, r56.Val, 0))

def dcsc_within (a0 : Int) (a1 : Int) (Q : Bool → Prop) : Prop :=
  ifP (decide (0 ≤ a0)) (Q (decide (a0 ≤ a1))) (Q false)

def dcsc_rising (a0 : List Int) (a1 : Int) (Q : Bool → Prop) : Prop :=
  loopP (fun (s68 : Int) (next69 : Int → Prop) => ifP (decide (s68 < (a0.length : Int))) (idxP a0 s68 fun x85 => dcsc_within x85 (w64 (a1 - 1)) fun r93 => ifP (!r93) (Q false) (ifP (decide (0 < s68)) (idxP a0 (w64 (s68 - 1)) fun x100 => ifP (decide (x85 ≤ x100)) (Q false) (next69 (w64 (s68 + 1)))) (next69 (w64 (s68 + 1))))) (Q true)) 0

def dcsc_Right (a0 : Columns) (Q : Bool → Prop) : Prop :=
  dcsc_within a0.Rows 4096 fun r30 => ifP (!r30) (Q false) (dcsc_within a0.Cols 4096 fun r35 => ifP (!r35) (Q false) (ifP ((a0.Start.length : Int) != (w64 ((a0.At.length : Int) + 1))) (Q false) (ifP ((a0.Val.length : Int) != (a0.Row.length : Int)) (Q false) (ifP (decide (65536 < (a0.Row.length : Int))) (Q false) (dcsc_rising a0.At a0.Cols fun r73 => ifP (!r73) (Q false) (dcsc_rising a0.Start (w64 ((a0.Row.length : Int) + 1)) fun r78 => ifP (!r78) (Q false) (idxP a0.Start 0 fun x84 => ifP (x84 != 0) (Q false) (idxP a0.Start (a0.At.length : Int) fun x94 => ifP (x94 != (a0.Row.length : Int)) (Q false) (loopP (fun (s176 : Int) (next177 : Int → Prop) => ifP (decide (s176 < (a0.At.length : Int))) (idxP a0.Start s176 fun x184 => idxP a0.Start (w64 (s176 + 1)) fun x193 => slP a0.Row x184 x193 fun _ => dcsc_rising ((a0.Row.take x193.toNat).drop x184.toNat) a0.Rows fun r211 => ifP (!r211) (Q false) (next177 (w64 (s176 + 1)))) (Q true)) 0)))))))))

def ref03_SameInts (a0 : List Int) (a1 : List Int) (Q : Bool → Prop) : Prop :=
  ifP ((a0.length : Int) != (a1.length : Int)) (Q false) (loopP (fun (s54 : Int) (next55 : Int → Prop) => ifP (decide (s54 < (a0.length : Int))) (idxP a0 s54 fun x62 => idxP a1 s54 fun x71 => ifP (x62 != x71) (Q false) (next55 (w64 (s54 + 1)))) (Q true)) 0)

def ref07_SameVals (a0 : List Int) (a1 : List Int) (Q : Bool → Prop) : Prop :=
  ifP ((a0.length : Int) != (a1.length : Int)) (Q false) (loopP (fun (s54 : Int) (next55 : Int → Prop) => ifP (decide (s54 < (a0.length : Int))) (idxP a0 s54 fun x62 => idxP a1 s54 fun x71 => ifP (x62 != x71) (Q false) (next55 (w64 (s54 + 1)))) (Q true)) 0)

def ref07_Same (a0 : Rows) (a1 : Rows) (Q : Bool → Prop) : Prop :=
  ifP (a0.Rows == a1.Rows) (ifP (a0.Cols == a1.Cols) (ref03_SameInts a0.Start a1.Start fun r29 => ifP r29 (ref03_SameInts a0.Col a1.Col fun r34 => ifP r34 (ref07_SameVals a0.Val a1.Val fun r39 => Q r39) (Q false)) (Q false)) (Q false)) (Q false)

def dcsc_sure (a0 : Columns) (Q : Columns → Prop) : Prop :=
  dcsc_Right a0 fun r33 => ifP r33 (Q a0) (dcsc_none  fun r38 => Q r38)

def ring_Is (a0 : Int) (Q : Bool → Prop) : Prop :=
  ifP (decide (0 < a0)) (Q (decide (a0 < 6))) (Q false)

def wide_Of (a0 : Int) (Q : Wide → Prop) : Prop :=
  Q ({ Hi := shr .i64 a0 63, Lo := IntKind.wrap .u64 (a0) } : Wide)

def cmp_isNaN_int64 (a0 : Int) (Q : Bool → Prop) : Prop :=
  Q (a0 != a0)

def cmp_Compare_int64 (a0 : Int) (a1 : Int) (Q : Int → Prop) : Prop :=
  cmp_isNaN_int64 a0 fun r5 => cmp_isNaN_int64 a1 fun r13 => ifP r5 (ifP r13 (Q 0) (Q (-1))) (ifP r13 (Q 1) (ifP (decide (a0 < a1)) (Q (-1)) (ifP (decide (a1 < a0)) (Q 1) (Q 0))))

def cmp_isNaN_uint64 (a0 : Int) (Q : Bool → Prop) : Prop :=
  Q (a0 != a0)

def cmp_Compare_uint64 (a0 : Int) (a1 : Int) (Q : Int → Prop) : Prop :=
  cmp_isNaN_uint64 a0 fun r5 => cmp_isNaN_uint64 a1 fun r13 => ifP r5 (ifP r13 (Q 0) (Q (-1))) (ifP r13 (Q 1) (ifP (decide (a0 < a1)) (Q (-1)) (ifP (decide (a1 < a0)) (Q 1) (Q 0))))

def wide_Compare (a0 : Wide) (a1 : Wide) (Q : Int → Prop) : Prop :=
  cmp_Compare_int64 a0.Hi a1.Hi fun r9 => cmp_Compare_uint64 a0.Lo a1.Lo fun r13 => cmp_Or_int ([r9, r13] : List Int) fun r23 => Q r23

def ring_lesser (a0 : Wide) (a1 : Wide) (Q : Wide → Prop) : Prop :=
  wide_Compare a0 a1 fun r13 => ifP (decide (r13 ≤ 0)) (Q a0) (Q a1)

def ring_truth (a0 : Bool) (Q : Wide → Prop) : Prop :=
  ifP a0 (wide_Of 1 fun r6 => Q r6) (Q ({ Hi := 0, Lo := 0 } : Wide))

def wide_carry (a0 : Bool) (Q : Int → Prop) : Prop :=
  ifP a0 (Q 1) (Q 0)

def wide_Add (a0 : Wide) (a1 : Wide) (Q : Wide → Prop) : Prop :=
  wide_carry (decide ((IntKind.wrap .u64 (a0.Lo + a1.Lo)) < a1.Lo)) fun r13 => Q ({ Hi := w64 (IntKind.wrap .u64 ((IntKind.wrap .u64 ((IntKind.wrap .u64 (a0.Hi)) + (IntKind.wrap .u64 (a1.Hi)))) + r13)), Lo := IntKind.wrap .u64 (a0.Lo + a1.Lo) } : Wide)

def ring_Add (a0 : Int) (a1 : Wide) (a2 : Wide) (Q : Wide → Prop) : Prop :=
  joinP (fun (k18 : Bool → Prop) => ifP (a0 == 1) (k18 (a0 == 1)) (ifP (a0 == 3) (k18 (a0 == 3)) (k18 (a0 == 4)))) fun s17 => ifP s17 (ring_lesser a1 a2 fun r25 => Q r25) (ifP (a0 == 2) (ifP (!(a1 == a2)) (ring_truth true fun r31 => Q r31) (ring_truth (!(a1 == ({ Hi := 0, Lo := 0 } : Wide))) fun r35 => Q r35)) (ifP (a0 == 5) (wide_Add a1 a2 fun r40 => Q r40) (Q ({ Hi := 0, Lo := 0 } : Wide))))

def wide_Narrow (a0 : Wide) (Q : (Int × Bool) → Prop) : Prop :=
  wide_Of (w64 (a0.Lo)) fun r5 => ifP (!(r5 == a0)) (Q (0, false)) (Q (w64 (a0.Lo), true))

def ring_Narrow (a0 : Int) (a1 : Wide) (Q : (Int × Bool) → Prop) : Prop :=
  wide_Narrow a1 fun r3 => Q (r3.1, r3.2)

def csr_summed (a0 : Int) (a1 : List Triple) (Q : ((List Triple) × Int) → Prop) : Prop :=
  loopP (fun (s : (List ((Int × Int) × Wide)) × Int) (next296 : ((List ((Int × Int) × Wide)) × Int) → Prop) => match s with | (s294, s295) => ifP (decide (s295 < (a1.length : Int))) (idxP a1 s295 fun x314 => wide_Of x314.Val fun r334 => lk2P s294 (x314.Row, x314.Col) ({ Hi := 0, Lo := 0 } : Wide) fun r340 t345 => ifP t345 (ring_Add a0 r340 r334 fun r349 => next296 ((mput (x314.Row, x314.Col) r349 s294), w64 (s295 + 1))) (next296 ((mput (x314.Row, x314.Col) r334 s294), w64 (s295 + 1)))) (loopP (fun (s : (List Triple) × (List ((Int × Int) × Wide))) (next465 : ((List Triple) × (List ((Int × Int) × Wide))) → Prop) => match s with | (s459, s463) => nextP s463 (sortP csr_order s459 fun y497 => Q (y497, 0)) (fun p484 l485 => ring_Narrow a0 p484.2 fun r518 => ifP (!r518.2) (Q (([] : List Triple), 12)) (appP 24 s459 ([({ Row := p484.1.1, Col := p484.1.2, Val := r518.1 } : Triple)]) fun _ => next465 ((s459 ++ ([({ Row := p484.1.1, Col := p484.1.2, Val := r518.1 } : Triple)])), l485)))) (([] : List Triple), s294))) (([] : List ((Int × Int) × Wide)), 0)

def csr_Of_1_fca (o0 : Int) (o1 : Int) (a0 : Triple) (Q : Bool → Prop) : Prop :=
  csr_within a0.Row (w64 (o0 - 1)) fun r9 => ifP (!r9) (Q true) (csr_within a0.Col (w64 (o1 - 1)) fun r14 => Q (!r14))

def slices_IndexFunc_api_Triple_api_Triple_77e (o0 : Int) (o1 : Int) (a0 : List Triple) (Q : Int → Prop) : Prop :=
  loopP (fun (s51 : Int) (next52 : Int → Prop) => ifP (decide (s51 < (a0.length : Int))) (idxP a0 s51 fun x59 => csr_Of_1_fca o0 o1 x59 fun r73 => ifP r73 (Q s51) (next52 (w64 (s51 + 1)))) (Q (-1))) 0

def slices_ContainsFunc_api_Triple_api_Triple_988 (o0 : Int) (o1 : Int) (a0 : List Triple) (Q : Bool → Prop) : Prop :=
  slices_IndexFunc_api_Triple_api_Triple_77e o0 o1 a0 fun r14 => Q (decide (0 ≤ r14))

def csr_Of (a0 : Int) (a1 : Int) (a2 : Int) (a3 : List Triple) (Q : (Rows × Int) → Prop) : Prop :=
  ring_Is a0 fun r81 => ifP (!r81) (Q (({ Rows := 0, Cols := 0, Start := ([] : List Int), Col := ([] : List Int), Val := ([] : List Int) } : Rows), 8)) (joinP (fun (k105 : Bool → Prop) => csr_within a1 4096 fun r106 => ifP (!r106) (k105 true) (csr_within a2 4096 fun r111 => k105 (!r111))) fun s104 => ifP s104 (Q (({ Rows := 0, Cols := 0, Start := ([] : List Int), Col := ([] : List Int), Val := ([] : List Int) } : Rows), 3)) (ifP (decide (65536 < (a3.length : Int))) (Q (({ Rows := 0, Cols := 0, Start := ([] : List Int), Col := ([] : List Int), Val := ([] : List Int) } : Rows), 5)) (slices_ContainsFunc_api_Triple_api_Triple_988 a1 a2 a3 fun r126 => ifP r126 (Q (({ Rows := 0, Cols := 0, Start := ([] : List Int), Col := ([] : List Int), Val := ([] : List Int) } : Rows), 3)) (csr_summed a0 a3 fun r140 => ifP (r140.2 != 0) (Q (({ Rows := 0, Cols := 0, Start := ([] : List Int), Col := ([] : List Int), Val := ([] : List Int) } : Rows), r140.2)) (csr_built a1 a2 r140.1 fun r152 => Q (r152, 0))))))

def dcsc_items_9d2 (a0 : Columns) (a1 : Int) (Q : (Columns × Int) → Prop) : Prop :=
  Q (a0, a1)

def dcsc_items_1_8e9 (o0 : Nat) (o1 : List Triple) (o2 : Int) (o3 : Columns) (o4 : Int) (Y : Nat → (List Triple) → Int → Item → ((Bool × Nat × (List Triple)) → Prop) → Prop) (Q : (Nat × (List Triple)) → Prop) : Prop :=
  idxP o3.Start o4 fun x46 => loopP (fun (s : (List Triple) × Int × Nat) (next188 : ((List Triple) × Int × Nat) → Prop) => match s with | (s182, s186, s187) => idxP o3.Start (w64 (o4 + 1)) fun x203 => ifP (decide (s186 < x203)) (idxP o3.Row s186 fun x214 => idxP o3.Val s186 fun x223 => Y s187 s182 o2 ({ At := x214, Val := x223 } : Item) fun r237 => ifP (!r237.1) (Q (r237.2.1, r237.2.2)) (next188 (r237.2.2, w64 (s186 + 1), r237.2.1))) (Q (s187, s182))) (o1, x46, o0)

def dcsc_Back (a0 : Columns) (Q : Rows → Prop) : Prop :=
  dcsc_sure a0 fun r50 => loopP (fun (s : (List Triple) × Int) (next848 : ((List Triple) × Int) → Prop) => match s with | (s841, s845) => ifP (decide (s845 < (r50.At.length : Int))) (idxP r50.At s845 fun x867 => dcsc_items_9d2 r50 s845 fun r908 => dcsc_items_1_8e9 0 s841 x867 r908.1 r908.2 (fun (y964 : Nat) (y965 : List Triple) (y971 : Int) (x973 : Item) (Qy : (Bool × Nat × (List Triple)) → Prop) => eqP y964 0 (appP 24 y965 ([({ Row := x973.At, Col := y971, Val := x973.Val } : Triple)]) fun _ => Qy (true, 0, (y965 ++ ([({ Row := x973.At, Col := y971, Val := x973.Val } : Triple)]))))) fun r986 => eqP r986.1 0 (next848 (r986.2, w64 (s845 + 1)))) (csr_Of 1 r50.Rows r50.Cols s841 fun r1001 => Q r1001.1)) (([] : List Triple), 0)

def slices_Equal_int_int (a0 : List Int) (a1 : List Int) (Q : Bool → Prop) : Prop :=
  ifP ((a0.length : Int) != (a1.length : Int)) (Q false) (loopP (fun (s54 : Int) (next55 : Int → Prop) => ifP (decide (s54 < (a0.length : Int))) (idxP a0 s54 fun x62 => idxP a1 s54 fun x71 => ifP (x62 != x71) (Q false) (next55 (w64 (s54 + 1)))) (Q true)) 0)

def slices_Equal_int64_int64 (a0 : List Int) (a1 : List Int) (Q : Bool → Prop) : Prop :=
  ifP ((a0.length : Int) != (a1.length : Int)) (Q false) (loopP (fun (s54 : Int) (next55 : Int → Prop) => ifP (decide (s54 < (a0.length : Int))) (idxP a0 s54 fun x62 => idxP a1 s54 fun x71 => ifP (x62 != x71) (Q false) (next55 (w64 (s54 + 1)))) (Q true)) 0)

def dcsc_Same (a0 : Columns) (a1 : Columns) (Q : Bool → Prop) : Prop :=
  ifP (a0.Rows == a1.Rows) (ifP (a0.Cols == a1.Cols) (slices_Equal_int_int a0.At a1.At fun r35 => ifP r35 (slices_Equal_int_int a0.Start a1.Start fun r40 => ifP r40 (slices_Equal_int_int a0.Row a1.Row fun r45 => ifP r45 (slices_Equal_int64_int64 a0.Val a1.Val fun r50 => Q r50) (Q false)) (Q false)) (Q false)) (Q false)) (Q false)

def dcsc_place (a0 : Columns) (a1 : Int) (Q : Int → Prop) : Prop :=
  joinP (fun (k229 : (Int × Int) → Prop) => loopP (fun (s : Int × Int) (next300 : (Int × Int) → Prop) => match s with | (s298, s299) => ifP (decide (s298 < s299)) (idxP a0.At (w64 (s298 + (w64 ((w64 (s299 - s298)).tdiv 2)))) fun x316 => ifP (x316 == a1) (k229 (w64 (s298 + (w64 ((w64 (s299 - s298)).tdiv 2))), s299)) (idxP a0.At (w64 (s298 + (w64 ((w64 (s299 - s298)).tdiv 2)))) fun x326 => ifP (decide (x326 < a1)) (next300 (w64 ((w64 (s298 + (w64 ((w64 (s299 - s298)).tdiv 2)))) + 1), s299)) (next300 (s298, w64 (s298 + (w64 ((w64 (s299 - s298)).tdiv 2))))))) (k229 (s298, s299))) (0, (a0.At.length : Int))) fun (s227, s228) => ifP (decide (s227 < s228)) (Q s227) (Q (-1))

def dcsc_items_1_1ae (o0 : Nat) (o1 : List Item) (o2 : Columns) (o3 : Int) (Y : Nat → (List Item) → Item → ((Bool × Nat × (List Item)) → Prop) → Prop) (Q : (Nat × (List Item)) → Prop) : Prop :=
  idxP o2.Start o3 fun x42 => loopP (fun (s : (List Item) × Int × Nat) (next184 : ((List Item) × Int × Nat) → Prop) => match s with | (s178, s182, s183) => idxP o2.Start (w64 (o3 + 1)) fun x199 => ifP (decide (s182 < x199)) (idxP o2.Row s182 fun x210 => idxP o2.Val s182 fun x219 => Y s183 s178 ({ At := x210, Val := x219 } : Item) fun r233 => ifP (!r233.1) (Q (r233.2.1, r233.2.2)) (next184 (r233.2.2, w64 (s182 + 1), r233.2.1))) (Q (s183, s178))) (o1, x42, o0)

def slices_AppendSeq_api_Item_api_Item_828 (o0 : Columns) (o1 : Int) (Q : (List Item) → Prop) : Prop :=
  dcsc_items_1_1ae 0 ([] : List Item) o0 o1 (fun (y55 : Nat) (y56 : List Item) (x62 : Item) (Qy : (Bool × Nat × (List Item)) → Prop) => eqP y55 0 (appP 16 y56 ([x62]) fun _ => Qy (true, 0, (y56 ++ ([x62]))))) fun r75 => eqP r75.1 0 (Q r75.2)

def slices_Collect_api_Item_d7d (o0 : Columns) (o1 : Int) (Q : (List Item) → Prop) : Prop :=
  slices_AppendSeq_api_Item_api_Item_828 o0 o1 fun r23 => Q r23

def dcsc_Column (a0 : Columns) (a1 : Int) (Q : (List Item) → Prop) : Prop :=
  dcsc_sure a0 fun r40 => dcsc_place r40 a1 fun r64 => ifP (decide (r64 < 0)) (Q ([] : List Item)) (dcsc_items_9d2 r40 r64 fun r75 => slices_Collect_api_Item_d7d r75.1 r75.2 fun r99 => Q r99)

def dcsc_Many (a0 : Columns) (Q : Int → Prop) : Prop :=
  dcsc_sure a0 fun r15 => Q (r15.At.length : Int)

def dcsc_Count (a0 : Columns) (Q : Int → Prop) : Prop :=
  dcsc_sure a0 fun r15 => Q (r15.Row.length : Int)

def dcsc_Work (a0 : Columns) (a1 : List Int) (Q : Int → Prop) : Prop :=
  dcsc_sure a0 fun r40 => loopP (fun (s : Int × Int) (next162 : (Int × Int) → Prop) => match s with | (s160, s161) => ifP (decide (s161 < (a1.length : Int))) (idxP a1 s161 fun x179 => dcsc_place r40 x179 fun r191 => ifP (decide (0 ≤ r191)) (idxP r40.Start (w64 (r191 + 1)) fun x197 => idxP r40.Start r191 fun x206 => next162 (w64 (s160 + (w64 (x197 - x206))), w64 (s161 + 1))) (next162 (s160, w64 (s161 + 1)))) (Q s160)) (0, 0)

def law08_live  (Q : Bool → Prop) : Prop :=
  ref07_Of 1 2 1000 ([({ Row := 1, Col := 700, Val := 4 } : Triple)] : List Triple) fun r32 => dcsc_Of r32.1 fun r73 => dcsc_Column r73 700 fun r106 => dcsc_Many r73 fun r117 => ifP (r117 == 1) (dcsc_Count r73 fun r122 => ifP (r122 == 1) (ifP ((r106.length : Int) == 1) (idxP r106 0 fun x129 => ifP (x129 == ({ At := 1, Val := 4 } : Item)) (dcsc_Column r73 1 fun r138 => ifP ((r138.length : Int) == 0) (dcsc_Back r73 fun r150 => ref07_Same r150 r32.1 fun r167 => ifP r167 (dcsc_Right r73 fun r172 => ifP r172 (dcsc_Right ({ Rows := 0, Cols := 0, At := ([] : List Int), Start := ([] : List Int), Row := ([] : List Int), Val := ([] : List Int) } : Columns) fun r177 => ifP (!r177) (dcsc_Work r73 ([700, 700, 1] : List Int) fun r188 => ifP (r188 == 2) (dcsc_Same r73 r73 fun r193 => ifP r193 (dcsc_Same r73 ({ Rows := 0, Cols := 0, At := ([] : List Int), Start := ([] : List Int), Row := ([] : List Int), Val := ([] : List Int) } : Columns) fun r198 => Q (!r198)) (Q false)) (Q false)) (Q false)) (Q false)) (Q false)) (Q false)) (Q false)) (Q false)) (Q false)) (Q false)

def law08_DcscBack (a0 : Int × Int) (a1 : List Triple) (Q : Bool → Prop) : Prop :=
  law07_Some a0 a1 fun r27 => dcsc_Of r27 fun r68 => law08_live  fun r90 => ifP r90 (dcsc_Right r68 fun r95 => ifP r95 (dcsc_Back r68 fun r100 => ref07_Same r100 r27 fun r117 => ifP r117 (dcsc_Back r68 fun r122 => dcsc_Of r122 fun r139 => dcsc_Same r139 r68 fun r159 => Q r159) (Q false)) (Q false)) (Q false)

def ref07_SameItems (a0 : List Item) (a1 : List Item) (Q : Bool → Prop) : Prop :=
  ifP ((a0.length : Int) != (a1.length : Int)) (Q false) (loopP (fun (s54 : Int) (next55 : Int → Prop) => ifP (decide (s54 < (a0.length : Int))) (idxP a0 s54 fun x62 => idxP a1 s54 fun x71 => ifP (!(x62 == x71)) (Q false) (next55 (w64 (s54 + 1)))) (Q true)) 0)

def ref07_Right (a0 : Rows) (Q : Bool → Prop) : Prop :=
  ifP (decide (a0.Rows < 0)) (Q false) (ifP (decide (4096 < a0.Rows)) (Q false) (ifP (decide (a0.Cols < 0)) (Q false) (ifP (decide (4096 < a0.Cols)) (Q false) (ifP ((a0.Start.length : Int) != (w64 (a0.Rows + 1))) (Q false) (ifP ((a0.Col.length : Int) != (a0.Val.length : Int)) (Q false) (ifP (decide (65536 < (a0.Col.length : Int))) (Q false) (idxP a0.Start 0 fun x49 => ifP (x49 != 0) (Q false) (idxP a0.Start a0.Rows fun x59 => ifP (x59 != (a0.Col.length : Int)) (Q false) (loopP (fun (s697 : Int) (next698 : Int → Prop) => ifP (decide (s697 < a0.Rows)) (idxP a0.Start s697 fun x744 => idxP a0.Start (w64 (s697 + 1)) fun x753 => ifP (decide (x753 < x744)) (Q false) (idxP a0.Start s697 fun x763 => ifP (decide (x763 < 0)) (Q false) (idxP a0.Start (w64 (s697 + 1)) fun x773 => ifP (decide ((a0.Col.length : Int) < x773)) (Q false) (idxP a0.Start s697 fun x792 => loopP (fun (s941 : Int) (next942 : Int → Prop) => idxP a0.Start (w64 (s697 + 1)) fun x958 => ifP (decide (s941 < x958)) (idxP a0.Col s941 fun x968 => ifP (decide (x968 < 0)) (Q false) (idxP a0.Col s941 fun x978 => ifP (decide (a0.Cols ≤ x978)) (Q false) (idxP a0.Start s697 fun x988 => ifP (decide (x988 < s941)) (idxP a0.Col s941 fun x998 => idxP a0.Col (w64 (s941 - 1)) fun x1007 => ifP (decide (x998 ≤ x1007)) (Q false) (next942 (w64 (s941 + 1)))) (next942 (w64 (s941 + 1)))))) (next698 (w64 (s697 + 1)))) x792)))) (Q true)) 0)))))))))

def ref07_Sure (a0 : Rows) (Q : Rows → Prop) : Prop :=
  ref07_Right a0 fun r27 => ifP r27 (Q a0) (ref07_Empty 0 0 fun r32 => Q r32)

def ref07_Row (a0 : Rows) (a1 : Int) (Q : (List Item) → Prop) : Prop :=
  ref07_Sure a0 fun r34 => ifP (decide (a1 < 0)) (Q ([] : List Item)) (ifP (decide (r34.Rows ≤ a1)) (Q ([] : List Item)) (idxP r34.Start a1 fun x65 => loopP (fun (s : (List Item) × Int) (next184 : ((List Item) × Int) → Prop) => match s with | (s178, s182) => idxP r34.Start (w64 (a1 + 1)) fun x200 => ifP (decide (s182 < x200)) (idxP r34.Col s182 fun x211 => idxP r34.Val s182 fun x220 => appP 16 s178 ([({ At := x211, Val := x220 } : Item)]) fun _ => next184 ((s178 ++ ([({ At := x211, Val := x220 } : Item)])), w64 (s182 + 1))) (Q s178)) (([] : List Item), x65)))

def ref07_Triples (a0 : Rows) (Q : (List Triple) → Prop) : Prop :=
  ref07_Sure a0 fun r34 => loopP (fun (s : (List Triple) × Int) (next433 : ((List Triple) × Int) → Prop) => match s with | (s427, s431) => ifP (decide (s431 < r34.Rows)) (idxP r34.Start s431 fun x450 => loopP (fun (s : (List Triple) × Int) (next568 : ((List Triple) × Int) → Prop) => match s with | (s563, s567) => idxP r34.Start (w64 (s431 + 1)) fun x585 => ifP (decide (s567 < x585)) (idxP r34.Col s567 fun x596 => idxP r34.Val s567 fun x605 => appP 24 s563 ([({ Row := s431, Col := x596, Val := x605 } : Triple)]) fun _ => next568 ((s563 ++ ([({ Row := s431, Col := x596, Val := x605 } : Triple)])), w64 (s567 + 1))) (next433 (s563, w64 (s431 + 1)))) (s427, x450)) (Q s427)) (([] : List Triple), 0)

def ref07_Turn (a0 : Rows) (Q : Rows → Prop) : Prop :=
  ref07_Sure a0 fun r44 => ref07_Triples r44 fun r72 => loopP (fun (s : (List Triple) × Int) (next435 : ((List Triple) × Int) → Prop) => match s with | (s429, s433) => ifP (decide (s433 < r44.Cols)) (loopP (fun (s : (List Triple) × Int) (next554 : ((List Triple) × Int) → Prop) => match s with | (s549, s553) => ifP (decide (s553 < (r72.length : Int))) (idxP r72 s553 fun x572 => ifP (x572.Col == s433) (idxP r72 s553 fun x583 => idxP r72 s553 fun x592 => appP 24 s549 ([({ Row := s433, Col := x583.Row, Val := x592.Val } : Triple)]) fun _ => next554 ((s549 ++ ([({ Row := s433, Col := x583.Row, Val := x592.Val } : Triple)])), w64 (s553 + 1))) (next554 (s549, w64 (s553 + 1)))) (next435 (s549, w64 (s433 + 1)))) (s429, 0)) (ref07_built r44.Cols r44.Rows s429 fun r611 => Q r611)) (([] : List Triple), 0)

def law08_DcscTurns (a0 : Int × Int) (a1 : List Triple) (a2 : Int) (Q : Bool → Prop) : Prop :=
  law07_Some a0 a1 fun r27 => law08_live  fun r46 => ifP r46 (dcsc_Of r27 fun r51 => dcsc_Column r51 (w64 (a2)) fun r71 => ref07_Turn r27 fun r82 => ref07_Row r82 (w64 (a2)) fun r99 => ref07_SameItems r71 r99 fun r110 => Q r110) (Q false)

def law08_DcscFull (a0 : Int × Int) (a1 : List Triple) (Q : Bool → Prop) : Prop :=
  law07_Some a0 a1 fun r47 => dcsc_Of r47 fun r64 => loopP (fun (s218 : Int) (next219 : Int → Prop) => ifP (decide (s218 < (r64.At.length : Int))) (idxP r64.At s218 fun x227 => dcsc_Column r64 x227 fun r235 => ifP ((r235.length : Int) == 0) (Q false) (next219 (w64 (s218 + 1)))) (law08_live  fun r248 => ifP r248 (dcsc_Many r64 fun r253 => dcsc_Count r64 fun r257 => ifP (decide (r253 ≤ r257)) (dcsc_Work r64 r64.At fun r262 => dcsc_Count r64 fun r266 => Q (r262 == r266)) (Q false)) (Q false))) 0
end Go.Proofs.Ytjobeiikppmidaa
