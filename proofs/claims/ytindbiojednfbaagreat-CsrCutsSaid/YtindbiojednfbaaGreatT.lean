/- Types, and pure functions as the Go text has them (printed by a program of ours). -/
import Derived.Test.YtindbiojednfbaaGreatFwS
namespace Go.Proofs.YtindbiojednfbaaGreat
open Go Go.Fw
set_option linter.unusedVariables false
set_option linter.unusedSimpArgs false
set_option maxRecDepth 8000
set_option maxHeartbeats 1000000
abbrev eI64 : Elem Int := flat 1 (fun x => [.int .i64 x]) (fun _ => ⟨rfl, rfl⟩)
abbrev eU64 : Elem Int := flat 1 (fun x => [.int .u64 x]) (fun _ => ⟨rfl, rfl⟩)
abbrev eU8 : Elem Int := flat 1 (fun x => [.int .u8 x]) (fun _ => ⟨rfl, rfl⟩)
abbrev eI32 : Elem Int := flat 1 (fun x => [.int .i32 x]) (fun _ => ⟨rfl, rfl⟩)
abbrev eB : Elem Bool := flat 1 (fun x => [.bool x]) (fun _ => ⟨rfl, rfl⟩)
structure Triple where
  Row : Int
  Col : Int
  Val : Int
deriving DecidableEq, Inhabited
def encTriple (x : Triple) : List Value := [.int .i64 x.Row, .int .i64 x.Col, .int .i64 x.Val]
abbrev eTriple : Elem Triple := flat 3 encTriple (fun _ => ⟨rfl, rfl⟩)
structure Wide where
  Hi : Int
  Lo : Int
deriving DecidableEq, Inhabited
def encWide (x : Wide) : List Value := [.int .i64 x.Hi, .int .u64 x.Lo]
abbrev eWide : Elem Wide := flat 2 encWide (fun _ => ⟨rfl, rfl⟩)
structure Rows where
  Rows : Int
  Cols : Int
  Start : List Int
  Col : List Int
  Val : List Int
deriving DecidableEq, Inhabited
def eRows : Elem Rows where
  sz := 5
  rep I cs x := ∃ a2 c2 a3 c3 a4 c4, cs = [.int .i64 x.Rows, .int .i64 x.Cols, .slice a2 x.Start.length c2, .slice a3 x.Col.length c3, .slice a4 x.Val.length c4] ∧ RepSl eI64 I a2 c2 x.Start ∧ RepSl eI64 I a3 c3 x.Col ∧ RepSl eI64 I a4 c4 x.Val
  mono hle := fun ⟨a2, c2, a3, c3, a4, c4, e, h0, h1, h2⟩ => ⟨a2, c2, a3, c3, a4, c4, e, h0.mono hle, h1.mono hle, h2.mono hle⟩
  len := fun ⟨a2, c2, a3, c3, a4, c4, e, _, _, _⟩ => by rw [e]; rfl
  one := fun ⟨a2, c2, a3, c3, a4, c4, e, _, _, _⟩ => by rw [e]; rfl
structure Edge where
  From : Int
  To : Int
  W : Int
deriving DecidableEq, Inhabited
def encEdge (x : Edge) : List Value := [.int .i64 x.From, .int .i64 x.To, .int .i64 x.W]
abbrev eEdge : Elem Edge := flat 3 encEdge (fun _ => ⟨rfl, rfl⟩)
structure Item where
  At : Int
  Val : Int
deriving DecidableEq, Inhabited
def encItem (x : Item) : List Value := [.int .i64 x.At, .int .i64 x.Val]
abbrev eItem : Elem Item := flat 2 encItem (fun _ => ⟨rfl, rfl⟩)
structure Graph where
  N : Int
  Edges : List Edge
deriving DecidableEq, Inhabited
def eGraph : Elem Graph where
  sz := 2
  rep I cs x := ∃ a1 c1, cs = [.int .i64 x.N, .slice a1 x.Edges.length c1] ∧ RepSl eEdge I a1 c1 x.Edges
  mono hle := fun ⟨a1, c1, e, h0⟩ => ⟨a1, c1, e, h0.mono hle⟩
  len := fun ⟨a1, c1, e, _⟩ => by rw [e]; rfl
  one := fun ⟨a1, c1, e, _⟩ => by rw [e]; rfl

def law07_Few (a0 : List Triple) (Q : (List Triple) → Prop) : Prop :=
  ifP (decide (60 < (a0.length : Int))) (slP a0 0 60 fun _ => Q ((a0.take (Int.toNat 60)).drop (Int.toNat 0))) (Q a0)

def ring_Is (a0 : Int) (Q : Bool → Prop) : Prop :=
  ifP (decide (0 < a0)) (Q (decide (a0 < 6))) (Q false)

def csr_within (a0 : Int) (a1 : Int) (Q : Bool → Prop) : Prop :=
  ifP (decide (0 ≤ a0)) (Q (decide (a0 ≤ a1))) (Q false)

def cmp_Or_int (a0 : List Int) (Q : Int → Prop) : Prop :=
  loopP (fun (s31 : Int) (next32 : Int → Prop) => ifP (decide (s31 < (a0.length : Int))) (idxP a0 s31 fun x39 => ifP (x39 != 0) (Q x39) (next32 (w64 (s31 + 1)))) (Q 0)) 0

def cmp_isNaN_int (a0 : Int) (Q : Bool → Prop) : Prop :=
  Q (a0 != a0)

def cmp_Compare_int (a0 : Int) (a1 : Int) (Q : Int → Prop) : Prop :=
  cmp_isNaN_int a0 fun r9 => cmp_isNaN_int a1 fun r25 => ifP r9 (ifP r25 (Q 0) (Q (-1))) (ifP r25 (Q 1) (ifP (decide (a0 < a1)) (Q (-1)) (ifP (decide (a1 < a0)) (Q 1) (Q 0))))

def csr_order (a0 : Triple) (a1 : Triple) (Q : Int → Prop) : Prop :=
  cmp_Compare_int a0.Row a1.Row fun r9 => cmp_Compare_int a0.Col a1.Col fun r17 => cmp_Or_int ([r9, r17] : List Int) fun r31 => Q r31

def wide_Of (a0 : Int) (Q : Wide → Prop) : Prop :=
  Q ({ Hi := shr .i64 a0 63, Lo := IntKind.wrap .u64 (a0) } : Wide)

def cmp_isNaN_int64 (a0 : Int) (Q : Bool → Prop) : Prop :=
  Q (a0 != a0)

def cmp_Compare_int64 (a0 : Int) (a1 : Int) (Q : Int → Prop) : Prop :=
  cmp_isNaN_int64 a0 fun r9 => cmp_isNaN_int64 a1 fun r25 => ifP r9 (ifP r25 (Q 0) (Q (-1))) (ifP r25 (Q 1) (ifP (decide (a0 < a1)) (Q (-1)) (ifP (decide (a1 < a0)) (Q 1) (Q 0))))

def cmp_isNaN_uint64 (a0 : Int) (Q : Bool → Prop) : Prop :=
  Q (a0 != a0)

def cmp_Compare_uint64 (a0 : Int) (a1 : Int) (Q : Int → Prop) : Prop :=
  cmp_isNaN_uint64 a0 fun r9 => cmp_isNaN_uint64 a1 fun r25 => ifP r9 (ifP r25 (Q 0) (Q (-1))) (ifP r25 (Q 1) (ifP (decide (a0 < a1)) (Q (-1)) (ifP (decide (a1 < a0)) (Q 1) (Q 0))))

def wide_Compare (a0 : Wide) (a1 : Wide) (Q : Int → Prop) : Prop :=
  cmp_Compare_int64 a0.Hi a1.Hi fun r9 => cmp_Compare_uint64 a0.Lo a1.Lo fun r17 => cmp_Or_int ([r9, r17] : List Int) fun r31 => Q r31

def ring_lesser (a0 : Wide) (a1 : Wide) (Q : Wide → Prop) : Prop :=
  wide_Compare a0 a1 fun r13 => ifP (decide (r13 ≤ 0)) (Q a0) (Q a1)

def ring_truth (a0 : Bool) (Q : Wide → Prop) : Prop :=
  ifP a0 (wide_Of 1 fun r6 => Q r6) (Q ({ Hi := 0, Lo := 0 } : Wide))

def wide_carry (a0 : Bool) (Q : Int → Prop) : Prop :=
  ifP a0 (Q 1) (Q 0)

def wide_Add (a0 : Wide) (a1 : Wide) (Q : Wide → Prop) : Prop :=
  wide_carry (decide ((IntKind.wrap .u64 (a0.Lo + a1.Lo)) < a1.Lo)) fun r13 => Q ({ Hi := w64 (IntKind.wrap .u64 ((IntKind.wrap .u64 ((IntKind.wrap .u64 (a0.Hi)) + (IntKind.wrap .u64 (a1.Hi)))) + r13)), Lo := IntKind.wrap .u64 (a0.Lo + a1.Lo) } : Wide)

def ring_Add (a0 : Int) (a1 : Wide) (a2 : Wide) (Q : Wide → Prop) : Prop :=
  joinP (fun (k18 : Bool → Prop) => ifP (a0 == 1) (k18 (a0 == 1)) (ifP (a0 == 3) (k18 (a0 == 3)) (k18 (a0 == 4)))) fun s17 => ifP s17 (ring_lesser a1 a2 fun r25 => Q r25) (ifP (a0 == 2) (ifP (!(a1 == a2)) (ring_truth true fun r35 => Q r35) (ring_truth (!(a1 == ({ Hi := 0, Lo := 0 } : Wide))) fun r43 => Q r43)) (ifP (a0 == 5) (wide_Add a1 a2 fun r52 => Q r52) (Q ({ Hi := 0, Lo := 0 } : Wide))))

def wide_Narrow (a0 : Wide) (Q : (Int × Bool) → Prop) : Prop :=
  wide_Of (w64 (a0.Lo)) fun r5 => ifP (!(r5 == a0)) (Q (0, false)) (Q (w64 (a0.Lo), true))

def ring_Narrow (a0 : Int) (a1 : Wide) (Q : (Int × Bool) → Prop) : Prop :=
  wide_Narrow a1 fun r3 => Q (r3.1, r3.2)

def csr_summed (a0 : Int) (a1 : List Triple) (Q : ((List Triple) × Int) → Prop) : Prop :=
  loopP (fun (s : (List ((Int × Int) × Wide)) × Int) (next356 : ((List ((Int × Int) × Wide)) × Int) → Prop) => match s with | (s354, s355) => ifP (decide (s355 < (a1.length : Int))) (idxP a1 s355 fun x374 => wide_Of x374.Val fun r398 => lk2P s354 (x374.Row, x374.Col) ({ Hi := 0, Lo := 0 } : Wide) fun r408 t413 => ifP t413 (ring_Add a0 r408 r398 fun r417 => next356 ((mput (x374.Row, x374.Col) r417 s354), w64 (s355 + 1))) (next356 ((mput (x374.Row, x374.Col) r398 s354), w64 (s355 + 1)))) (loopP (fun (s : (List Triple) × (List ((Int × Int) × Wide))) (next557 : ((List Triple) × (List ((Int × Int) × Wide))) → Prop) => match s with | (s551, s555) => nextP s555 (sortP csr_order s551 fun y589 => Q (y589, 0)) (fun p576 l577 => ring_Narrow a0 p576.2 fun r615 => ifP (!r615.2) (Q (([] : List Triple), 12)) (appP 24 s551 ([({ Row := p576.1.1, Col := p576.1.2, Val := r615.1 } : Triple)]) fun _ => next557 ((s551 ++ ([({ Row := p576.1.1, Col := p576.1.2, Val := r615.1 } : Triple)])), l577)))) (([] : List Triple), s354))) (([] : List ((Int × Int) × Wide)), 0)

def csr_empty (a0 : Int) (a1 : Int) (Q : Rows → Prop) : Prop :=
  mkP 8 (w64 (a0 + 1)) 0 fun _ => Q ({ Rows := a0, Cols := a1, Start := (List.replicate (w64 (a0 + 1)).toNat 0), Col := ([] : List Int), Val := ([] : List Int) } : Rows)

def csr_built (a0 : Int) (a1 : Int) (a2 : List Triple) (Q : Rows → Prop) : Prop :=
  csr_empty a0 a1 fun r39 => loopP (fun (s : (List Int) × (List Int) × (List Int) × Int) (next430 : ((List Int) × (List Int) × (List Int) × Int) → Prop) => match s with | (s417, s421, s425, s429) => ifP (decide (s429 < (a2.length : Int))) (idxP a2 s429 fun x449 => idxP s417 (w64 (x449.Row + 1)) fun x468 => idxP s417 (w64 (x449.Row + 1)) fun x473 => appP 8 s421 ([x449.Col]) fun _ => appP 8 s425 ([x449.Val]) fun _ => next430 ((s417.set ((w64 (x449.Row + 1)).toNat) (w64 (x468 + 1))), (s421 ++ ([x449.Col])), (s425 ++ ([x449.Val])), w64 (s429 + 1))) (loopP (fun (s : (List Int) × Int) (next539 : ((List Int) × Int) → Prop) => match s with | (s534, s538) => ifP (decide (s538 < a0)) (idxP s534 (w64 (s538 + 1)) fun x551 => idxP s534 s538 fun x556 => idxP s534 (w64 (s538 + 1)) fun x559 => next539 ((s534.set ((w64 (s538 + 1)).toNat) (w64 (x551 + x556))), w64 (s538 + 1))) (Q ({ Rows := r39.Rows, Cols := r39.Cols, Start := s534, Col := s421, Val := s425 } : Rows))) (s417, 0))) (r39.Start, r39.Col, r39.Val, 0)

def csr_Of_1_i2 (o0 : Int) (o1 : Int) (a0 : Triple) (Q : Bool → Prop) : Prop :=
  csr_within a0.Row (w64 (o0 - 1)) fun r9 => ifP (!r9) (Q true) (csr_within a0.Col (w64 (o1 - 1)) fun r18 => Q (!r18))

def slices_IndexFunc_api_Triple_api_Triple_i1 (o0 : Int) (o1 : Int) (a0 : List Triple) (Q : Int → Prop) : Prop :=
  loopP (fun (s51 : Int) (next52 : Int → Prop) => ifP (decide (s51 < (a0.length : Int))) (idxP a0 s51 fun x59 => csr_Of_1_i2 o0 o1 x59 fun r73 => ifP r73 (Q s51) (next52 (w64 (s51 + 1)))) (Q (-1))) 0

def slices_ContainsFunc_api_Triple_api_Triple_i0 (o0 : Int) (o1 : Int) (a0 : List Triple) (Q : Bool → Prop) : Prop :=
  slices_IndexFunc_api_Triple_api_Triple_i1 o0 o1 a0 fun r14 => Q (decide (0 ≤ r14))

def csr_Of (a0 : Int) (a1 : Int) (a2 : Int) (a3 : List Triple) (Q : (Rows × Int) → Prop) : Prop :=
  ring_Is a0 fun r121 => ifP (!r121) (Q (({ Rows := 0, Cols := 0, Start := ([] : List Int), Col := ([] : List Int), Val := ([] : List Int) } : Rows), 8)) (joinP (fun (k165 : Bool → Prop) => csr_within a1 4096 fun r166 => ifP (!r166) (k165 true) (csr_within a2 4096 fun r176 => k165 (!r176))) fun s164 => ifP s164 (Q (({ Rows := 0, Cols := 0, Start := ([] : List Int), Col := ([] : List Int), Val := ([] : List Int) } : Rows), 3)) (ifP (decide (65536 < (a3.length : Int))) (Q (({ Rows := 0, Cols := 0, Start := ([] : List Int), Col := ([] : List Int), Val := ([] : List Int) } : Rows), 5)) (slices_ContainsFunc_api_Triple_api_Triple_i0 a1 a2 a3 fun r197 => ifP r197 (Q (({ Rows := 0, Cols := 0, Start := ([] : List Int), Col := ([] : List Int), Val := ([] : List Int) } : Rows), 3)) (csr_summed a0 a3 fun r213 => ifP (r213.2 != 0) (Q (({ Rows := 0, Cols := 0, Start := ([] : List Int), Col := ([] : List Int), Val := ([] : List Int) } : Rows), r213.2)) (csr_built a1 a2 r213.1 fun r226 => Q (r226, 0))))))

def ref02_Is (a0 : Int) (Q : Bool → Prop) : Prop :=
  ifP (decide (1 ≤ a0)) (Q (decide (a0 ≤ 5))) (Q false)

def ref05_below (a0 : Edge) (a1 : Edge) (Q : Bool → Prop) : Prop :=
  ifP (decide (a0.From < a1.From)) (Q true) (ifP (a0.From == a1.From) (Q (decide (a0.To < a1.To))) (Q false))

def ref01_Of (a0 : Int) (Q : Wide → Prop) : Prop :=
  ifP (decide (a0 < 0)) (Q ({ Hi := (-1), Lo := IntKind.wrap .u64 (a0) } : Wide)) (Q ({ Hi := 0, Lo := IntKind.wrap .u64 (a0) } : Wide))

def ref01_Compare (a0 : Wide) (a1 : Wide) (Q : Int → Prop) : Prop :=
  joinP (fun (k15 : Unit → Prop) => ifP (decide (a0.Hi < a1.Hi)) (Q (-1)) (ifP (a0.Hi == a1.Hi) (ifP (decide (a0.Lo < a1.Lo)) (Q (-1)) (k15 ())) (k15 ()))) fun _ => ifP (a0 == a1) (Q 0) (Q 1)

def ref02_truth (a0 : Bool) (Q : Wide → Prop) : Prop :=
  ifP a0 (Q ({ Hi := 0, Lo := 1 } : Wide)) (Q ({ Hi := 0, Lo := 0 } : Wide))

def ref01_Add (a0 : Wide) (a1 : Wide) (Q : Wide → Prop) : Prop :=
  ifP (decide ((IntKind.wrap .u64 (a0.Lo + a1.Lo)) < a0.Lo)) (Q ({ Hi := w64 ((w64 (a0.Hi + a1.Hi)) + 1), Lo := IntKind.wrap .u64 (a0.Lo + a1.Lo) } : Wide)) (Q ({ Hi := w64 (a0.Hi + a1.Hi), Lo := IntKind.wrap .u64 (a0.Lo + a1.Lo) } : Wide))

def ref02_Add (a0 : Int) (a1 : Wide) (a2 : Wide) (Q : Wide → Prop) : Prop :=
  joinP (fun (k18 : Bool → Prop) => ifP (a0 == 1) (k18 (a0 == 1)) (ifP (a0 == 3) (k18 (a0 == 3)) (k18 (a0 == 4)))) fun s17 => ifP s17 (ref01_Compare a2 a1 fun r25 => ifP (decide (r25 < 0)) (Q a2) (Q a1)) (ifP (a0 == 2) (ifP (!(a1 == ({ Hi := 0, Lo := 0 } : Wide))) (ref02_truth true fun r36 => Q r36) (ref02_truth (!(a2 == ({ Hi := 0, Lo := 0 } : Wide))) fun r44 => Q r44)) (ifP (a0 == 5) (ref01_Add a1 a2 fun r53 => Q r53) (Q ({ Hi := 0, Lo := 0 } : Wide))))

def ref01_Narrow (a0 : Wide) (Q : (Int × Bool) → Prop) : Prop :=
  ifP (a0.Hi == 0) (ifP (decide (0 ≤ (w64 (a0.Lo)))) (Q (w64 (a0.Lo), true)) (ifP (a0.Hi == (-1)) (ifP (decide ((w64 (a0.Lo)) < 0)) (Q (w64 (a0.Lo), true)) (Q (0, false))) (Q (0, false)))) (ifP (a0.Hi == (-1)) (ifP (decide ((w64 (a0.Lo)) < 0)) (Q (w64 (a0.Lo), true)) (Q (0, false))) (Q (0, false)))

def ref05_Combine (a0 : Int) (a1 : List Edge) (Q : ((List Edge) × Int) → Prop) : Prop :=
  ref02_Is a0 fun r16 => ifP (!r16) (Q (([] : List Edge), 8)) (loopP (fun (s : (List Edge) × (List Wide) × Int) (next3077 : ((List Edge) × (List Wide) × Int) → Prop) => match s with | (s3066, s3070, s3074) => ifP (decide (s3074 < (a1.length : Int))) (joinP (fun (k3273 : Int → Prop) => loopP (fun (s3333 : Int) (next3334 : Int → Prop) => ifP (decide (s3333 < (s3066.length : Int))) (idxP s3066 s3333 fun x3344 => idxP a1 s3074 fun x3349 => ref05_below x3344 x3349 fun r3357 => ifP r3357 (next3334 (w64 (s3333 + 1))) (k3273 s3333)) (k3273 s3333)) 0) fun s3272 => idxP a1 s3074 fun x3395 => ref01_Of x3395.W fun r3403 => joinP (fun (k3582 : Bool → Prop) => ifP (decide (s3272 < (s3066.length : Int))) (idxP a1 s3074 fun x3587 => idxP s3066 s3272 fun x3596 => ref05_below x3587 x3596 fun r3600 => k3582 (!r3600)) (k3582 false)) fun s3581 => ifP s3581 (idxP s3070 s3272 fun x3621 => ref02_Add a0 x3621 r3403 fun r3625 => idxP s3070 s3272 fun x3637 => next3077 (s3066, (s3070.set s3272.toNat r3625), w64 (s3074 + 1))) (appP 24 s3066 ([({ From := 0, To := 0, W := 0 } : Edge)]) fun _ => appP 16 s3070 ([({ Hi := 0, Lo := 0 } : Wide)]) fun _ => loopP (fun (s : (List Edge) × (List Wide) × Int) (next3833 : ((List Edge) × (List Wide) × Int) → Prop) => match s with | (s3824, s3828, s3832) => ifP (decide (s3272 < s3832)) (idxP s3824 (w64 (s3832 - 1)) fun x3844 => idxP s3824 s3832 fun x3849 => idxP s3828 (w64 (s3832 - 1)) fun x3852 => idxP s3828 s3832 fun x3857 => next3833 ((s3824.set s3832.toNat x3844), (s3828.set s3832.toNat x3852), w64 (s3832 - 1))) (idxP a1 s3074 fun x3862 => idxP a1 s3074 fun x3871 => idxP s3824 s3272 fun x3880 => idxP s3828 s3272 fun x3885 => next3077 ((s3824.set s3272.toNat ({ From := x3862.From, To := x3871.To, W := 0 } : Edge)), (s3828.set s3272.toNat r3403), w64 (s3074 + 1)))) ((s3066 ++ ([({ From := 0, To := 0, W := 0 } : Edge)])), (s3070 ++ ([({ Hi := 0, Lo := 0 } : Wide)])), w64 (((s3066 ++ ([({ From := 0, To := 0, W := 0 } : Edge)])).length : Int) - 1)))) (loopP (fun (s : (List Edge) × Int) (next3985 : ((List Edge) × Int) → Prop) => match s with | (s3980, s3984) => ifP (decide (s3984 < (s3980.length : Int))) (idxP s3070 s3984 fun x4009 => ref01_Narrow x4009 fun r4013 => ifP (!r4013.2) (Q (([] : List Edge), 12)) (idxP s3980 s3984 fun x4025 => next3985 ((s3980.set s3984.toNat ({ From := x4025.From, To := x4025.To, W := r4013.1 } : Edge)), w64 (s3984 + 1)))) (Q (s3980, 0))) (s3066, 0))) (([] : List Edge), ([] : List Wide), 0))

def ref07_Empty (a0 : Int) (a1 : Int) (Q : Rows → Prop) : Prop :=
  mkP 8 (w64 (a0 + 1)) 0 fun _ => Q ({ Rows := a0, Cols := a1, Start := (List.replicate (w64 (a0 + 1)).toNat 0), Col := ([] : List Int), Val := ([] : List Int) } : Rows)

def ref07_built (a0 : Int) (a1 : Int) (a2 : List Triple) (Q : Rows → Prop) : Prop :=
  ref07_Empty a0 a1 fun r39 => loopP (fun (s : (List Int) × (List Int) × (List Int) × Int) (next407 : ((List Int) × (List Int) × (List Int) × Int) → Prop) => match s with | (s394, s398, s402, s406) => ifP (decide (s406 < (a2.length : Int))) (idxP a2 s406 fun x436 => appP 8 s398 ([x436.Col]) fun _ => idxP a2 s406 fun x472 => appP 8 s402 ([x472.Val]) fun _ => idxP a2 s406 fun x496 => loopP (fun (s : (List Int) × Int) (next544 : ((List Int) × Int) → Prop) => match s with | (s539, s543) => ifP (decide (s543 ≤ a0)) (idxP s539 s543 fun x553 => idxP s539 s543 fun x558 => next544 ((s539.set s543.toNat (w64 (x553 + 1))), w64 (s543 + 1))) (next407 (s539, (s398 ++ ([x436.Col])), (s402 ++ ([x472.Val])), w64 (s406 + 1)))) (s394, w64 (x496.Row + 1))) (Q ({ Rows := r39.Rows, Cols := r39.Cols, Start := s394, Col := s398, Val := s402 } : Rows))) (r39.Start, r39.Col, r39.Val, 0)

def ref07_Of (a0 : Int) (a1 : Int) (a2 : Int) (a3 : List Triple) (Q : (Rows × Int) → Prop) : Prop :=
  ref02_Is a0 fun r26 => ifP (!r26) (Q (({ Rows := 0, Cols := 0, Start := ([] : List Int), Col := ([] : List Int), Val := ([] : List Int) } : Rows), 8)) (ifP (decide (a1 < 0)) (Q (({ Rows := 0, Cols := 0, Start := ([] : List Int), Col := ([] : List Int), Val := ([] : List Int) } : Rows), 3)) (ifP (decide (4096 < a1)) (Q (({ Rows := 0, Cols := 0, Start := ([] : List Int), Col := ([] : List Int), Val := ([] : List Int) } : Rows), 3)) (ifP (decide (a2 < 0)) (Q (({ Rows := 0, Cols := 0, Start := ([] : List Int), Col := ([] : List Int), Val := ([] : List Int) } : Rows), 3)) (ifP (decide (4096 < a2)) (Q (({ Rows := 0, Cols := 0, Start := ([] : List Int), Col := ([] : List Int), Val := ([] : List Int) } : Rows), 3)) (ifP (decide (65536 < (a3.length : Int))) (Q (({ Rows := 0, Cols := 0, Start := ([] : List Int), Col := ([] : List Int), Val := ([] : List Int) } : Rows), 5)) (loopP (fun (s : (List Edge) × Int) (next672 : ((List Edge) × Int) → Prop) => match s with | (s666, s670) => ifP (decide (s670 < (a3.length : Int))) (idxP a3 s670 fun x720 => ifP (decide (x720.Row < 0)) (Q (({ Rows := 0, Cols := 0, Start := ([] : List Int), Col := ([] : List Int), Val := ([] : List Int) } : Rows), 3)) (idxP a3 s670 fun x730 => ifP (decide (a1 ≤ x730.Row)) (Q (({ Rows := 0, Cols := 0, Start := ([] : List Int), Col := ([] : List Int), Val := ([] : List Int) } : Rows), 3)) (idxP a3 s670 fun x740 => ifP (decide (x740.Col < 0)) (Q (({ Rows := 0, Cols := 0, Start := ([] : List Int), Col := ([] : List Int), Val := ([] : List Int) } : Rows), 3)) (idxP a3 s670 fun x750 => ifP (decide (a2 ≤ x750.Col)) (Q (({ Rows := 0, Cols := 0, Start := ([] : List Int), Col := ([] : List Int), Val := ([] : List Int) } : Rows), 3)) (idxP a3 s670 fun x761 => idxP a3 s670 fun x770 => idxP a3 s670 fun x779 => appP 24 s666 ([({ From := x761.Row, To := x770.Col, W := x779.Val } : Edge)]) fun _ => next672 ((s666 ++ ([({ From := x761.Row, To := x770.Col, W := x779.Val } : Edge)])), w64 (s670 + 1))))))) (ref05_Combine a0 s666 fun r815 => ifP (r815.2 != 0) (Q (({ Rows := 0, Cols := 0, Start := ([] : List Int), Col := ([] : List Int), Val := ([] : List Int) } : Rows), r815.2)) (loopP (fun (s : (List Triple) × Int) (next922 : ((List Triple) × Int) → Prop) => match s with | (s916, s920) => ifP (decide (s920 < (r815.1.length : Int))) (idxP r815.1 s920 fun x932 => idxP r815.1 s920 fun x941 => idxP r815.1 s920 fun x950 => appP 24 s916 ([({ Row := x932.From, Col := x941.To, Val := x950.W } : Triple)]) fun _ => next922 ((s916 ++ ([({ Row := x932.From, Col := x941.To, Val := x950.W } : Triple)])), w64 (s920 + 1))) (ref07_built a1 a2 s916 fun r970 => Q (r970, 0))) (([] : List Triple), 0)))) (([] : List Edge), 0)))))))

def cmp_Less_int (a0 : Int) (a1 : Int) (Q : Bool → Prop) : Prop :=
  cmp_isNaN_int a0 fun r1 => ifP r1 (cmp_isNaN_int a1 fun r10 => ifP (!r10) (Q true) (Q (decide (a0 < a1)))) (Q (decide (a0 < a1)))

def slices_IsSorted_int_int (a0 : List Int) (Q : Bool → Prop) : Prop :=
  loopP (fun (s65 : Int) (next66 : Int → Prop) => ifP (decide (0 < s65)) (idxP a0 s65 fun x73 => idxP a0 (w64 (s65 - 1)) fun x82 => cmp_Less_int x73 x82 fun r90 => ifP r90 (Q false) (next66 (w64 (s65 - 1)))) (Q true)) (w64 ((a0.length : Int) - 1))

def csr_row (a0 : List Int) (a1 : Int) (Q : Bool → Prop) : Prop :=
  loopP (fun (s76 : Int) (next77 : Int → Prop) => ifP (decide (s76 < (a0.length : Int))) (idxP a0 s76 fun x93 => csr_within x93 (w64 (a1 - 1)) fun r101 => ifP (!r101) (Q false) (ifP (decide (0 < s76)) (idxP a0 (w64 (s76 - 1)) fun x112 => ifP (decide (x93 ≤ x112)) (Q false) (next77 (w64 (s76 + 1)))) (next77 (w64 (s76 + 1))))) (Q true)) 0

def csr_Right (a0 : Rows) (Q : Bool → Prop) : Prop :=
  csr_within a0.Rows 4096 fun r35 => ifP (!r35) (Q false) (csr_within a0.Cols 4096 fun r44 => ifP (!r44) (Q false) (ifP ((a0.Start.length : Int) != (w64 (a0.Rows + 1))) (Q false) (ifP ((a0.Val.length : Int) != (a0.Col.length : Int)) (Q false) (ifP (decide (65536 < (a0.Col.length : Int))) (Q false) (idxP a0.Start 0 fun x86 => ifP (x86 != 0) (Q false) (idxP a0.Start a0.Rows fun x96 => ifP (x96 != (a0.Col.length : Int)) (Q false) (slices_IsSorted_int_int a0.Start fun r105 => ifP (!r105) (Q false) (loopP (fun (s197 : Int) (next198 : Int → Prop) => ifP (decide (s197 < a0.Rows)) (idxP a0.Start s197 fun x206 => idxP a0.Start (w64 (s197 + 1)) fun x215 => slP a0.Col x206 x215 fun _ => csr_row ((a0.Col.take x215.toNat).drop x206.toNat) a0.Cols fun r233 => ifP (!r233) (Q false) (next198 (w64 (s197 + 1)))) (Q true)) 0))))))))

def csr_sure (a0 : Rows) (Q : Rows → Prop) : Prop :=
  csr_Right a0 fun r27 => ifP r27 (Q a0) (csr_empty 0 0 fun r36 => Q r36)

def csr_part (a0 : Rows) (a1 : Int) (Q : ((List Int) × (List Int)) → Prop) : Prop :=
  idxP a0.Start a1 fun x39 => idxP a0.Start (w64 (a1 + 1)) fun x48 => slP a0.Col x39 x48 fun _ => slP a0.Val x39 x48 fun _ => Q (((a0.Col.take x48.toNat).drop x39.toNat), ((a0.Val.take x48.toNat).drop x39.toNat))

def slices_isNaN_int (a0 : Int) (Q : Bool → Prop) : Prop :=
  Q (a0 != a0)

def slices_BinarySearch_int_int (a0 : List Int) (a1 : Int) (Q : (Int × Bool) → Prop) : Prop :=
  loopP (fun (s : Int × Int) (next124 : (Int × Int) → Prop) => match s with | (s122, s123) => ifP (decide (s122 < s123)) (idxP a0 (w64 (shr .u64 (IntKind.wrap .u64 (w64 (s122 + s123))) 1)) fun x131 => cmp_Less_int x131 a1 fun r139 => ifP r139 (next124 (w64 ((w64 (shr .u64 (IntKind.wrap .u64 (w64 (s122 + s123))) 1)) + 1), s123)) (next124 (s122, w64 (shr .u64 (IntKind.wrap .u64 (w64 (s122 + s123))) 1)))) (ifP (decide (s122 < (a0.length : Int))) (idxP a0 s122 fun x150 => ifP (x150 == a1) (Q (s122, true)) (idxP a0 s122 fun x160 => slices_isNaN_int x160 fun r168 => ifP r168 (slices_isNaN_int a1 fun r177 => Q (s122, r177)) (Q (s122, false)))) (Q (s122, false)))) (0, (a0.length : Int))

def csr_Get (a0 : Rows) (a1 : Int) (a2 : Int) (Q : (Int × Bool) → Prop) : Prop :=
  csr_sure a0 fun r31 => csr_within a1 (w64 (r31.Rows - 1)) fun r57 => ifP (!r57) (Q (0, false)) (csr_part r31 a1 fun r80 => slices_BinarySearch_int_int r80.1 a2 fun r102 => ifP (!r102.2) (Q (0, false)) (idxP r80.2 r102.1 fun x112 => Q (x112, true)))

def csr_Count (a0 : Rows) (Q : Int → Prop) : Prop :=
  csr_sure a0 fun r12 => Q (r12.Col.length : Int)

def csr_Row (a0 : Rows) (a1 : Int) (Q : (List Item) → Prop) : Prop :=
  csr_sure a0 fun r34 => csr_within a1 (w64 (r34.Rows - 1)) fun r60 => ifP (!r60) (Q ([] : List Item)) (csr_part r34 a1 fun r83 => loopP (fun (s : (List Item) × Int) (next171 : ((List Item) × Int) → Prop) => match s with | (s165, s169) => ifP (decide (s169 < (r83.1.length : Int))) (idxP r83.1 s169 fun x179 => idxP r83.2 s169 fun x188 => appP 16 s165 ([({ At := x179, Val := x188 } : Item)]) fun _ => next171 ((s165 ++ ([({ At := x179, Val := x188 } : Item)])), w64 (s169 + 1))) (Q s165)) (([] : List Item), 0))

def csr_Triples (a0 : Rows) (Q : (List Triple) → Prop) : Prop :=
  csr_sure a0 fun r34 => loopP (fun (s : (List Triple) × Int) (next400 : ((List Triple) × Int) → Prop) => match s with | (s394, s398) => ifP (decide (s398 < r34.Rows)) (csr_part r34 s398 fun r422 => loopP (fun (s : (List Triple) × Int) (next527 : ((List Triple) × Int) → Prop) => match s with | (s522, s526) => ifP (decide (s526 < (r422.1.length : Int))) (idxP r422.1 s526 fun x545 => idxP r422.2 s526 fun x554 => appP 24 s522 ([({ Row := s398, Col := x545, Val := x554 } : Triple)]) fun _ => next527 ((s522 ++ ([({ Row := s398, Col := x545, Val := x554 } : Triple)])), w64 (s526 + 1))) (next400 (s522, w64 (s398 + 1)))) (s394, 0)) (Q s394)) (([] : List Triple), 0)

def csr_Turn (a0 : Rows) (Q : Rows → Prop) : Prop :=
  csr_sure a0 fun r44 => csr_Triples r44 fun r73 => loopP (fun (s : (List Triple) × Int) (next233 : ((List Triple) × Int) → Prop) => match s with | (s227, s232) => ifP (decide (s232 < (r73.length : Int))) (idxP s227 s232 fun x248 => idxP s227 s232 fun x255 => next233 ((s227.set s232.toNat ({ Row := x248.Col, Col := x248.Row, Val := x248.Val } : Triple)), w64 (s232 + 1))) (sortP csr_order s227 fun y263 => csr_built r44.Cols r44.Rows y263 fun r272 => Q r272)) (r73, 0)

def csr_bounds (a0 : Int × Int) (a1 : Int) (Q : (Int × Int) → Prop) : Prop :=
  ifP (decide ((if a1 < a0.2 then a1 else a0.2) ≤ (if 0 > a0.1 then 0 else a0.1))) (Q ((if 0 > a0.1 then 0 else a0.1), 0)) (Q ((if 0 > a0.1 then 0 else a0.1), w64 ((if a1 < a0.2 then a1 else a0.2) - (if 0 > a0.1 then 0 else a0.1))))

def csr_Cut (a0 : Rows) (a1 : Int × Int) (a2 : Int × Int) (Q : Rows → Prop) : Prop :=
  csr_sure a0 fun r52 => csr_bounds a1 r52.Rows fun r77 => csr_bounds a2 r52.Cols fun r93 => loopP (fun (s : (List Triple) × Int) (next476 : ((List Triple) × Int) → Prop) => match s with | (s470, s474) => ifP (decide (s474 < r77.2)) (csr_Row r52 (w64 (r77.1 + s474)) fun r495 => loopP (fun (s : (List Triple) × Int) (next609 : ((List Triple) × Int) → Prop) => match s with | (s604, s608) => ifP (decide (s608 < (r495.length : Int))) (idxP r495 s608 fun x629 => joinP (fun (k642 : Bool → Prop) => ifP (decide (r93.1 ≤ x629.At)) (k642 (decide ((w64 (x629.At - r93.1)) < r93.2))) (k642 false)) fun s641 => ifP s641 (appP 24 s604 ([({ Row := s474, Col := w64 (x629.At - r93.1), Val := x629.Val } : Triple)]) fun _ => next609 ((s604 ++ ([({ Row := s474, Col := w64 (x629.At - r93.1), Val := x629.Val } : Triple)])), w64 (s608 + 1))) (next609 (s604, w64 (s608 + 1)))) (next476 (s604, w64 (s474 + 1)))) (s470, 0)) (csr_built r77.2 r93.2 s470 fun r662 => Q r662)) (([] : List Triple), 0)

def slices_Equal_int_int (a0 : List Int) (a1 : List Int) (Q : Bool → Prop) : Prop :=
  ifP ((a0.length : Int) != (a1.length : Int)) (Q false) (loopP (fun (s54 : Int) (next55 : Int → Prop) => ifP (decide (s54 < (a0.length : Int))) (idxP a0 s54 fun x62 => idxP a1 s54 fun x71 => ifP (x62 != x71) (Q false) (next55 (w64 (s54 + 1)))) (Q true)) 0)

def slices_Equal_int64_int64 (a0 : List Int) (a1 : List Int) (Q : Bool → Prop) : Prop :=
  ifP ((a0.length : Int) != (a1.length : Int)) (Q false) (loopP (fun (s54 : Int) (next55 : Int → Prop) => ifP (decide (s54 < (a0.length : Int))) (idxP a0 s54 fun x62 => idxP a1 s54 fun x71 => ifP (x62 != x71) (Q false) (next55 (w64 (s54 + 1)))) (Q true)) 0)

def csr_Same (a0 : Rows) (a1 : Rows) (Q : Bool → Prop) : Prop :=
  ifP (a0.Rows == a1.Rows) (ifP (a0.Cols == a1.Cols) (slices_Equal_int_int a0.Start a1.Start fun r29 => ifP r29 (slices_Equal_int_int a0.Col a1.Col fun r38 => ifP r38 (slices_Equal_int64_int64 a0.Val a1.Val fun r47 => Q r47) (Q false)) (Q false)) (Q false)) (Q false)

def edges_Right_3 (a0 : Edge) (Q : Bool → Prop) : Prop :=
  ifP (decide (a0.W < 0)) (Q true) (Q (decide (2147483647 < a0.W)))

def edges_Right_1_i6 (o0 : Graph) (a0 : Int) (Q : Bool → Prop) : Prop :=
  ifP (decide (a0 < 0)) (Q true) (Q (decide (o0.N ≤ a0)))

def edges_Right_2_i5 (o1 : Graph) (a0 : Edge) (Q : Bool → Prop) : Prop :=
  edges_Right_1_i6 o1 a0.From fun r18 => ifP r18 (Q true) (edges_Right_1_i6 o1 a0.To fun r27 => Q r27)

def slices_IndexFunc_api_Edge_api_Edge_i4 (o1 : Graph) (a0 : List Edge) (Q : Int → Prop) : Prop :=
  loopP (fun (s54 : Int) (next55 : Int → Prop) => ifP (decide (s54 < (a0.length : Int))) (idxP a0 s54 fun x62 => edges_Right_2_i5 o1 x62 fun r76 => ifP r76 (Q s54) (next55 (w64 (s54 + 1)))) (Q (-1))) 0

def slices_ContainsFunc_api_Edge_api_Edge_i3 (o1 : Graph) (a0 : List Edge) (Q : Bool → Prop) : Prop :=
  slices_IndexFunc_api_Edge_api_Edge_i4 o1 a0 fun r17 => Q (decide (0 ≤ r17))

def edges_Right_3_i9 (a0 : Edge) (Q : Bool → Prop) : Prop :=
  ifP (decide (a0.W < 0)) (Q true) (Q (decide (2147483647 < a0.W)))

def slices_IndexFunc_api_Edge_api_Edge_i8 (a0 : List Edge) (Q : Int → Prop) : Prop :=
  loopP (fun (s47 : Int) (next48 : Int → Prop) => ifP (decide (s47 < (a0.length : Int))) (idxP a0 s47 fun x55 => edges_Right_3_i9 x55 fun r69 => ifP r69 (Q s47) (next48 (w64 (s47 + 1)))) (Q (-1))) 0

def slices_ContainsFunc_api_Edge_api_Edge_i7 (a0 : List Edge) (Q : Bool → Prop) : Prop :=
  slices_IndexFunc_api_Edge_api_Edge_i8 a0 fun r10 => Q (decide (0 ≤ r10))

def edges_Right (a0 : Graph) (Q : Int → Prop) : Prop :=
  ifP (decide (a0.N < 0)) (Q 3) (joinP (fun (k16 : Bool → Prop) => ifP (decide (4096 < a0.N)) (k16 (decide (4096 < a0.N))) (k16 (decide (65536 < (a0.Edges.length : Int))))) fun s15 => ifP s15 (Q 5) (slices_ContainsFunc_api_Edge_api_Edge_i3 a0 a0.Edges fun r36 => ifP r36 (Q 3) (slices_ContainsFunc_api_Edge_api_Edge_i7 a0.Edges fun r45 => ifP r45 (Q 7) (Q 0))))

def edges_ends (a0 : Edge) (a1 : Edge) (Q : Int → Prop) : Prop :=
  cmp_Compare_int a0.From a1.From fun r9 => cmp_Compare_int a0.To a1.To fun r17 => cmp_Or_int ([r9, r17] : List Int) fun r31 => Q r31

def edges_order (a0 : Edge) (a1 : Edge) (Q : Int → Prop) : Prop :=
  edges_ends a0 a1 fun r9 => cmp_Compare_int64 a0.W a1.W fun r17 => cmp_Or_int ([r9, r17] : List Int) fun r31 => Q r31

def edges_Combine (a0 : Int) (a1 : List Edge) (Q : ((List Edge) × Int) → Prop) : Prop :=
  ring_Is a0 fun r16 => ifP (!r16) (Q (([] : List Edge), 8)) (loopP (fun (s : (List ((Int × Int) × Wide)) × Int) (next390 : ((List ((Int × Int) × Wide)) × Int) → Prop) => match s with | (s388, s389) => ifP (decide (s389 < (a1.length : Int))) (idxP a1 s389 fun x409 => wide_Of x409.W fun r434 => lk2P s388 (x409.From, x409.To) ({ Hi := 0, Lo := 0 } : Wide) fun r445 t450 => ifP t450 (ring_Add a0 r445 r434 fun r454 => next390 ((mput (x409.From, x409.To) r454 s388), w64 (s389 + 1))) (next390 ((mput (x409.From, x409.To) r434 s388), w64 (s389 + 1)))) (loopP (fun (s : (List Edge) × (List ((Int × Int) × Wide))) (next599 : ((List Edge) × (List ((Int × Int) × Wide))) → Prop) => match s with | (s593, s597) => nextP s597 (sortP edges_order s593 fun y632 => Q (y632, 0)) (fun p619 l620 => ring_Narrow a0 p619.2 fun r661 => ifP (!r661.2) (Q (([] : List Edge), 12)) (appP 24 s593 ([({ From := p619.1.1, To := p619.1.2, W := r661.1 } : Edge)]) fun _ => next599 ((s593 ++ ([({ From := p619.1.1, To := p619.1.2, W := r661.1 } : Edge)])), l620)))) (([] : List Edge), s388))) (([] : List ((Int × Int) × Wide)), 0))

def edges_Canon (a0 : Graph) (Q : Graph → Prop) : Prop :=
  edges_Combine 1 a0.Edges fun r15 => Q ({ N := a0.N, Edges := r15.1 } : Graph)

def edges_turned (a0 : Edge) (Q : (Edge × Bool) → Prop) : Prop :=
  Q (({ From := a0.To, To := a0.From, W := a0.W } : Edge), true)

def edges_turned_i11 (a0 : Edge) (Q : (Edge × Bool) → Prop) : Prop :=
  Q (({ From := a0.To, To := a0.From, W := a0.W } : Edge), true)

def edges_made_i10 (a0 : Graph) (Q : Graph → Prop) : Prop :=
  loopP (fun (s : (List Edge) × Int) (next116 : ((List Edge) × Int) → Prop) => match s with | (s110, s114) => ifP (decide (s114 < (a0.Edges.length : Int))) (idxP a0.Edges s114 fun x134 => edges_turned_i11 x134 fun r150 => ifP r150.2 (appP 24 s110 ([r150.1]) fun _ => next116 ((s110 ++ ([r150.1])), w64 (s114 + 1))) (next116 (s110, w64 (s114 + 1)))) (edges_Canon ({ N := a0.N, Edges := s110 } : Graph) fun r165 => Q r165)) (([] : List Edge), 0)

def edges_Turn (a0 : Graph) (Q : Graph → Prop) : Prop :=
  edges_made_i10 a0 fun r17 => Q r17

def csr_Graph (a0 : Graph) (Q : (Rows × Int) → Prop) : Prop :=
  edges_Right a0 fun r46 => ifP (r46 != 0) (Q (({ Rows := 0, Cols := 0, Start := ([] : List Int), Col := ([] : List Int), Val := ([] : List Int) } : Rows), r46)) (edges_Turn a0 fun r66 => loopP (fun (s : (List Triple) × Int) (next159 : ((List Triple) × Int) → Prop) => match s with | (s153, s157) => ifP (decide (s157 < (r66.Edges.length : Int))) (idxP r66.Edges s157 fun x178 => appP 24 s153 ([({ Row := x178.From, Col := x178.To, Val := x178.W } : Triple)]) fun _ => next159 ((s153 ++ ([({ Row := x178.From, Col := x178.To, Val := x178.W } : Triple)])), w64 (s157 + 1))) (csr_built a0.N a0.N s153 fun r199 => Q (r199, 0))) (([] : List Triple), 0))

def law07_live  (Q : Bool → Prop) : Prop :=
  csr_Of 1 2 3 ([({ Row := 0, Col := 1, Val := 5 } : Triple), ({ Row := 1, Col := 2, Val := 7 } : Triple), ({ Row := 0, Col := 1, Val := 3 } : Triple)] : List Triple) fun r32 => csr_Get r32.1 0 1 fun r59 => csr_Get r32.1 0 2 fun r75 => csr_Of 0 1 1 ([] : List Triple) fun r102 => csr_Graph ({ N := 3, Edges := ([({ From := 2, To := 0, W := 9 } : Edge)] : List Edge) } : Graph) fun r154 => csr_Get r154.1 0 2 fun r181 => ifP (r32.2 == 0) (ifP (r59.1 == 3) (ifP r59.2 (ifP (!r75.2) (ifP (r102.2 == 8) (csr_Count r32.1 fun r194 => ifP (r194 == 2) (csr_Right r32.1 fun r203 => ifP r203 (csr_Right ({ Rows := 0, Cols := 0, Start := ([] : List Int), Col := ([] : List Int), Val := ([] : List Int) } : Rows) fun r212 => ifP (!r212) (csr_Row r32.1 1 fun r221 => ifP ((r221.length : Int) == 1) (csr_Triples r32.1 fun r233 => ifP ((r233.length : Int) == 2) (csr_Turn r32.1 fun r246 => ifP (r246.Rows == 3) (csr_Cut r32.1 (0, 1) (1, 3) fun r264 => ifP (r264.Cols == 2) (ifP (r154.2 == 0) (ifP (r181.1 == 9) (ifP r181.2 (csr_Same r32.1 r32.1 fun r285 => ifP r285 (csr_Same r32.1 r154.1 fun r294 => Q (!r294)) (Q false)) (Q false)) (Q false)) (Q false)) (Q false)) (Q false)) (Q false)) (Q false)) (Q false)) (Q false)) (Q false)) (Q false)) (Q false)) (Q false)) (Q false)) (Q false)

def ref03_SameInts (a0 : List Int) (a1 : List Int) (Q : Bool → Prop) : Prop :=
  ifP ((a0.length : Int) != (a1.length : Int)) (Q false) (loopP (fun (s54 : Int) (next55 : Int → Prop) => ifP (decide (s54 < (a0.length : Int))) (idxP a0 s54 fun x62 => idxP a1 s54 fun x71 => ifP (x62 != x71) (Q false) (next55 (w64 (s54 + 1)))) (Q true)) 0)

def ref07_SameVals (a0 : List Int) (a1 : List Int) (Q : Bool → Prop) : Prop :=
  ifP ((a0.length : Int) != (a1.length : Int)) (Q false) (loopP (fun (s54 : Int) (next55 : Int → Prop) => ifP (decide (s54 < (a0.length : Int))) (idxP a0 s54 fun x62 => idxP a1 s54 fun x71 => ifP (x62 != x71) (Q false) (next55 (w64 (s54 + 1)))) (Q true)) 0)

def ref07_Same (a0 : Rows) (a1 : Rows) (Q : Bool → Prop) : Prop :=
  ifP (a0.Rows == a1.Rows) (ifP (a0.Cols == a1.Cols) (ref03_SameInts a0.Start a1.Start fun r29 => ifP r29 (ref03_SameInts a0.Col a1.Col fun r38 => ifP r38 (ref07_SameVals a0.Val a1.Val fun r47 => Q r47) (Q false)) (Q false)) (Q false)) (Q false)

def law07_CsrOf (a0 : Int) (a1 : Int × Int) (a2 : List Triple) (Q : Bool → Prop) : Prop :=
  law07_Few a2 fun r19 => csr_Of a0 a1.1 a1.2 r19 fun r49 => ref07_Of a0 a1.1 a1.2 r19 fun r87 => law07_live  fun r106 => ifP r106 (ref07_Same r49.1 r87.1 fun r115 => ifP r115 (Q (r49.2 == r87.2)) (Q false)) (Q false)

def ref07_Right (a0 : Rows) (Q : Bool → Prop) : Prop :=
  ifP (decide (a0.Rows < 0)) (Q false) (ifP (decide (4096 < a0.Rows)) (Q false) (ifP (decide (a0.Cols < 0)) (Q false) (ifP (decide (4096 < a0.Cols)) (Q false) (ifP ((a0.Start.length : Int) != (w64 (a0.Rows + 1))) (Q false) (ifP ((a0.Col.length : Int) != (a0.Val.length : Int)) (Q false) (ifP (decide (65536 < (a0.Col.length : Int))) (Q false) (idxP a0.Start 0 fun x49 => ifP (x49 != 0) (Q false) (idxP a0.Start a0.Rows fun x59 => ifP (x59 != (a0.Col.length : Int)) (Q false) (loopP (fun (s697 : Int) (next698 : Int → Prop) => ifP (decide (s697 < a0.Rows)) (idxP a0.Start s697 fun x744 => idxP a0.Start (w64 (s697 + 1)) fun x753 => ifP (decide (x753 < x744)) (Q false) (idxP a0.Start s697 fun x763 => ifP (decide (x763 < 0)) (Q false) (idxP a0.Start (w64 (s697 + 1)) fun x773 => ifP (decide ((a0.Col.length : Int) < x773)) (Q false) (idxP a0.Start s697 fun x792 => loopP (fun (s941 : Int) (next942 : Int → Prop) => idxP a0.Start (w64 (s697 + 1)) fun x958 => ifP (decide (s941 < x958)) (idxP a0.Col s941 fun x968 => ifP (decide (x968 < 0)) (Q false) (idxP a0.Col s941 fun x978 => ifP (decide (a0.Cols ≤ x978)) (Q false) (idxP a0.Start s697 fun x988 => ifP (decide (x988 < s941)) (idxP a0.Col s941 fun x998 => idxP a0.Col (w64 (s941 - 1)) fun x1007 => ifP (decide (x998 ≤ x1007)) (Q false) (next942 (w64 (s941 + 1)))) (next942 (w64 (s941 + 1)))))) (next698 (w64 (s697 + 1)))) x792)))) (Q true)) 0)))))))))

def ref07_Sure (a0 : Rows) (Q : Rows → Prop) : Prop :=
  ref07_Right a0 fun r27 => ifP r27 (Q a0) (ref07_Empty 0 0 fun r36 => Q r36)

def ref07_Row (a0 : Rows) (a1 : Int) (Q : (List Item) → Prop) : Prop :=
  ref07_Sure a0 fun r34 => ifP (decide (a1 < 0)) (Q ([] : List Item)) (ifP (decide (r34.Rows ≤ a1)) (Q ([] : List Item)) (idxP r34.Start a1 fun x65 => loopP (fun (s : (List Item) × Int) (next184 : ((List Item) × Int) → Prop) => match s with | (s178, s182) => idxP r34.Start (w64 (a1 + 1)) fun x200 => ifP (decide (s182 < x200)) (idxP r34.Col s182 fun x211 => idxP r34.Val s182 fun x220 => appP 16 s178 ([({ At := x211, Val := x220 } : Item)]) fun _ => next184 ((s178 ++ ([({ At := x211, Val := x220 } : Item)])), w64 (s182 + 1))) (Q s178)) (([] : List Item), x65)))

def ref07_Get (a0 : Rows) (a1 : Int) (a2 : Int) (Q : (Int × Bool) → Prop) : Prop :=
  ref07_Row a0 a1 fun r25 => loopP (fun (s99 : Int) (next100 : Int → Prop) => ifP (decide (s99 < (r25.length : Int))) (idxP r25 s99 fun x117 => ifP (x117.At == a2) (idxP r25 s99 fun x127 => Q (x127.Val, true)) (next100 (w64 (s99 + 1)))) (Q (0, false))) 0

def ref07_Count (a0 : Rows) (Q : Int → Prop) : Prop :=
  ref07_Sure a0 fun r12 => Q (r12.Col.length : Int)

def ref07_SameItems (a0 : List Item) (a1 : List Item) (Q : Bool → Prop) : Prop :=
  ifP ((a0.length : Int) != (a1.length : Int)) (Q false) (loopP (fun (s54 : Int) (next55 : Int → Prop) => ifP (decide (s54 < (a0.length : Int))) (idxP a0 s54 fun x62 => idxP a1 s54 fun x71 => ifP (!(x62 == x71)) (Q false) (next55 (w64 (s54 + 1)))) (Q true)) 0)

def ref06_SameTriples (a0 : List Triple) (a1 : List Triple) (Q : Bool → Prop) : Prop :=
  ifP ((a0.length : Int) != (a1.length : Int)) (Q false) (loopP (fun (s54 : Int) (next55 : Int → Prop) => ifP (decide (s54 < (a0.length : Int))) (idxP a0 s54 fun x62 => idxP a1 s54 fun x71 => ifP (!(x62 == x71)) (Q false) (next55 (w64 (s54 + 1)))) (Q true)) 0)

def ref07_Triples (a0 : Rows) (Q : (List Triple) → Prop) : Prop :=
  ref07_Sure a0 fun r34 => loopP (fun (s : (List Triple) × Int) (next433 : ((List Triple) × Int) → Prop) => match s with | (s427, s431) => ifP (decide (s431 < r34.Rows)) (idxP r34.Start s431 fun x450 => loopP (fun (s : (List Triple) × Int) (next568 : ((List Triple) × Int) → Prop) => match s with | (s563, s567) => idxP r34.Start (w64 (s431 + 1)) fun x585 => ifP (decide (s567 < x585)) (idxP r34.Col s567 fun x596 => idxP r34.Val s567 fun x605 => appP 24 s563 ([({ Row := s431, Col := x596, Val := x605 } : Triple)]) fun _ => next568 ((s563 ++ ([({ Row := s431, Col := x596, Val := x605 } : Triple)])), w64 (s567 + 1))) (next433 (s563, w64 (s431 + 1)))) (s427, x450)) (Q s427)) (([] : List Triple), 0)

def ref07_Turn (a0 : Rows) (Q : Rows → Prop) : Prop :=
  ref07_Sure a0 fun r44 => ref07_Triples r44 fun r72 => loopP (fun (s : (List Triple) × Int) (next435 : ((List Triple) × Int) → Prop) => match s with | (s429, s433) => ifP (decide (s433 < r44.Cols)) (loopP (fun (s : (List Triple) × Int) (next554 : ((List Triple) × Int) → Prop) => match s with | (s549, s553) => ifP (decide (s553 < (r72.length : Int))) (idxP r72 s553 fun x572 => ifP (x572.Col == s433) (idxP r72 s553 fun x583 => idxP r72 s553 fun x592 => appP 24 s549 ([({ Row := s433, Col := x583.Row, Val := x592.Val } : Triple)]) fun _ => next554 ((s549 ++ ([({ Row := s433, Col := x583.Row, Val := x592.Val } : Triple)])), w64 (s553 + 1))) (next554 (s549, w64 (s553 + 1)))) (next435 (s549, w64 (s433 + 1)))) (s429, 0)) (ref07_built r44.Cols r44.Rows s429 fun r611 => Q r611)) (([] : List Triple), 0)

def ref07_Cut (a0 : Rows) (a1 : Int × Int) (a2 : Int × Int) (Q : Rows → Prop) : Prop :=
  ref07_Sure a0 fun r52 => ref07_Triples r52 fun r80 => loopP (fun (s : (List Triple) × Int) (next939 : ((List Triple) × Int) → Prop) => match s with | (s933, s937) => ifP (decide (s937 < (r80.length : Int))) (joinP (fun (k1025 : Bool → Prop) => idxP r80 s937 fun x1027 => ifP (decide ((if 0 > a1.1 then 0 else a1.1) ≤ x1027.Row)) (idxP r80 s937 fun x1037 => ifP (decide (x1037.Row < (if r52.Rows < a1.2 then r52.Rows else a1.2))) (idxP r80 s937 fun x1047 => ifP (decide ((if 0 > a2.1 then 0 else a2.1) ≤ x1047.Col)) (idxP r80 s937 fun x1057 => k1025 (decide (x1057.Col < (if r52.Cols < a2.2 then r52.Cols else a2.2)))) (k1025 false)) (k1025 false)) (k1025 false)) fun s1024 => ifP s1024 (idxP r80 s937 fun x1073 => idxP r80 s937 fun x1082 => idxP r80 s937 fun x1091 => appP 24 s933 ([({ Row := w64 (x1073.Row - (if 0 > a1.1 then 0 else a1.1)), Col := w64 (x1082.Col - (if 0 > a2.1 then 0 else a2.1)), Val := x1091.Val } : Triple)]) fun _ => next939 ((s933 ++ ([({ Row := w64 (x1073.Row - (if 0 > a1.1 then 0 else a1.1)), Col := w64 (x1082.Col - (if 0 > a2.1 then 0 else a2.1)), Val := x1091.Val } : Triple)])), w64 (s937 + 1))) (next939 (s933, w64 (s937 + 1)))) (joinP (fun (k1108 : Int → Prop) => ifP (decide ((if 0 > a1.1 then 0 else a1.1) < (if r52.Rows < a1.2 then r52.Rows else a1.2))) (k1108 (w64 ((if r52.Rows < a1.2 then r52.Rows else a1.2) - (if 0 > a1.1 then 0 else a1.1)))) (k1108 0)) fun s1107 => joinP (fun (k1118 : Int → Prop) => ifP (decide ((if 0 > a2.1 then 0 else a2.1) < (if r52.Cols < a2.2 then r52.Cols else a2.2))) (k1118 (w64 ((if r52.Cols < a2.2 then r52.Cols else a2.2) - (if 0 > a2.1 then 0 else a2.1)))) (k1118 0)) fun s1117 => ifP (s1107 == 0) (ref07_built s1107 s1117 ([] : List Triple) fun r1127 => Q r1127) (ifP (s1117 == 0) (ref07_built s1107 s1117 ([] : List Triple) fun r1148 => Q r1148) (ref07_built s1107 s1117 s933 fun r1175 => Q r1175)))) (([] : List Triple), 0)

def law07_CsrAsks (a0 : Rows) (a1 : Int × Int) (a2 : Int × Int) (Q : Bool → Prop) : Prop :=
  ifP (decide (60 < (a0.Start.length : Int))) (law07_live  fun r50 => Q r50) (ifP (decide (80 < (a0.Col.length : Int))) (law07_live  fun r59 => Q r59) (ifP (decide (80 < (a0.Val.length : Int))) (law07_live  fun r68 => Q r68) (csr_Get a0 a1.1 a2.1 fun r84 => ref07_Get a0 a1.1 a2.1 fun r100 => law07_live  fun r153 => ifP (!r153) (Q false) (ifP (r84.1 != r100.1) (Q false) (ifP (!(r84.2 == r100.2)) (Q false) (csr_Right a0 fun r164 => ref07_Right a0 fun r172 => ifP (!(r164 == r172)) (Q false) (csr_Count a0 fun r181 => ref07_Count a0 fun r189 => ifP (r181 != r189) (Q false) (joinP (fun (k218 : Unit → Prop) => ifP (decide (500 < a0.Cols)) (ref07_Right a0 fun r220 => ifP r220 (Q true) (k218 ())) (k218 ())) fun _ => csr_Row a0 a1.1 fun r234 => ref07_Row a0 a1.1 fun r246 => ref07_SameItems r234 r246 fun r258 => ifP r258 (csr_Triples a0 fun r268 => ref07_Triples a0 fun r281 => ref06_SameTriples r268 r281 fun r293 => ifP r293 (csr_Turn a0 fun r298 => ref07_Turn a0 fun r316 => ref07_Same r298 r316 fun r334 => ifP r334 (csr_Cut a0 a1 a2 fun r344 => ref07_Cut a0 a1 a2 fun r362 => ref07_Same r344 r362 fun r380 => ifP r380 (csr_Same a0 a0 fun r390 => Q r390) (Q false)) (Q false)) (Q false)) (Q false)))))))))

def ref05_Right (a0 : Graph) (Q : Int → Prop) : Prop :=
  ifP (decide (a0.N < 0)) (Q 3) (ifP (decide (4096 < a0.N)) (Q 5) (ifP (decide (65536 < (a0.Edges.length : Int))) (Q 5) (loopP (fun (s165 : Int) (next166 : Int → Prop) => ifP (decide (s165 < (a0.Edges.length : Int))) (idxP a0.Edges s165 fun x184 => ifP (decide (x184.From < 0)) (Q 3) (ifP (decide (a0.N ≤ x184.From)) (Q 3) (ifP (decide (x184.To < 0)) (Q 3) (ifP (decide (a0.N ≤ x184.To)) (Q 3) (next166 (w64 (s165 + 1))))))) (loopP (fun (s245 : Int) (next246 : Int → Prop) => ifP (decide (s245 < (a0.Edges.length : Int))) (idxP a0.Edges s245 fun x254 => ifP (decide (x254.W < 0)) (Q 7) (idxP a0.Edges s245 fun x264 => ifP (decide (2147483647 < x264.W)) (Q 7) (next246 (w64 (s245 + 1))))) (Q 0)) 0)) 0)))

def ref05_Canon (a0 : Graph) (Q : Graph → Prop) : Prop :=
  ref05_Combine 1 a0.Edges fun r15 => Q ({ N := a0.N, Edges := r15.1 } : Graph)

def law07_CsrGraph (a0 : Graph) (Q : Bool → Prop) : Prop :=
  joinP (fun (k68 : Unit → Prop) => ifP (decide (60 < (a0.Edges.length : Int))) (ifP (decide ((a0.Edges.length : Int) ≤ 65536)) (law07_live  fun r71 => Q r71) (ifP (decide (200 < a0.N)) (ifP (decide (a0.N ≤ 4096)) (law07_live  fun r81 => Q r81) (k68 ())) (k68 ()))) (ifP (decide (200 < a0.N)) (ifP (decide (a0.N ≤ 4096)) (law07_live  fun r91 => Q r91) (k68 ())) (k68 ()))) fun _ => csr_Graph a0 fun r121 => ref05_Right a0 fun r149 => ifP (r121.2 != r149) (Q false) (ifP (r121.2 != 0) (law07_live  fun r177 => ifP r177 (csr_Same r121.1 ({ Rows := 0, Cols := 0, Start := ([] : List Int), Col := ([] : List Int), Val := ([] : List Int) } : Rows) fun r186 => Q r186) (Q false)) (ref05_Canon a0 fun r207 => loopP (fun (s567 : Int) (next568 : Int → Prop) => ifP (decide (s567 < (r207.Edges.length : Int))) (idxP r207.Edges s567 fun x603 => idxP r207.Edges s567 fun x612 => csr_Get r121.1 x603.To x612.From fun r620 => ifP (!r620.2) (Q false) (idxP r207.Edges s567 fun x631 => ifP (r620.1 != x631.W) (Q false) (next568 (w64 (s567 + 1))))) (law07_live  fun r640 => ifP r640 (csr_Right r121.1 fun r650 => ifP r650 (ifP (r121.1.Rows == a0.N) (ifP (r121.1.Cols == a0.N) (csr_Count r121.1 fun r662 => Q (r662 == (r207.Edges.length : Int))) (Q false)) (Q false)) (Q false)) (Q false))) 0))

def law07_Size (a0 : Int) (Q : Int → Prop) : Prop :=
  Q ((w64 (a0)).tmod 40)

def law07_Some (a0 : Int × Int) (a1 : List Triple) (Q : Rows → Prop) : Prop :=
  law07_Size a0.1 fun r37 => law07_Size a0.2 fun r45 => law07_Few a1 fun r64 => loopP (fun (s : (List Triple) × Int) (next329 : ((List Triple) × Int) → Prop) => match s with | (s323, s327) => ifP (decide (s327 < (r64.length : Int))) (idxP r64 s327 fun x348 => ifP (decide (x348.Row < 0)) (next329 (s323, w64 (s327 + 1))) (ifP (decide (x348.Col < 0)) (next329 (s323, w64 (s327 + 1))) (ifP (r37 == 0) (next329 (s323, w64 (s327 + 1))) (ifP (r45 == 0) (next329 (s323, w64 (s327 + 1))) (nzP r37 <| nzP r45 <| appP 24 s323 ([({ Row := x348.Row.tmod r37, Col := x348.Col.tmod r45, Val := x348.Val } : Triple)]) fun _ => next329 ((s323 ++ ([({ Row := x348.Row.tmod r37, Col := x348.Col.tmod r45, Val := x348.Val } : Triple)])), w64 (s327 + 1))))))) (ref07_Of 1 r37 r45 s323 fun r405 => ifP (r405.2 != 0) (ref07_Empty r37 r45 fun r426 => Q r426) (Q r405.1))) (([] : List Triple), 0)

def law07_CsrBack (a0 : Int × Int) (a1 : List Triple) (a2 : Int) (Q : Bool → Prop) : Prop :=
  law07_Some a0 a1 fun r27 => csr_Triples r27 fun r58 => loopP (fun (s212 : Int) (next213 : Int → Prop) => ifP (decide (s212 < (r58.length : Int))) (idxP r58 s212 fun x222 => idxP r58 (w64 (s212 - 1)) fun x227 => ifP (decide (x222.Row < x227.Row)) (Q false) (idxP r58 s212 fun x231 => idxP r58 (w64 (s212 - 1)) fun x234 => ifP (x231.Row == x234.Row) (idxP r58 s212 fun x238 => idxP r58 (w64 (s212 - 1)) fun x241 => ifP (decide (x238.Col ≤ x241.Col)) (Q false) (next213 (w64 (s212 + 1)))) (next213 (w64 (s212 + 1))))) (csr_Of a2 r27.Rows r27.Cols r58 fun r274 => law07_live  fun r294 => ifP r294 (csr_Count r27 fun r304 => ifP ((r58.length : Int) == r304) (ref02_Is a2 fun r314 => ifP (!r314) (Q true) (ifP (r274.2 == 0) (csr_Same r27 r274.1 fun r325 => Q r325) (Q false))) (Q false)) (Q false))) 1

def law07_CsrTurns (a0 : Int × Int) (a1 : List Triple) (a2 : Int × Int) (Q : Bool → Prop) : Prop :=
  law07_Some a0 a1 fun r31 => csr_Turn r31 fun r69 => law07_Size a2.1 fun r104 => law07_Size a2.2 fun r112 => csr_Get r31 r104 r112 fun r128 => csr_Get r69 r112 r104 fun r144 => law07_live  fun r152 => ifP r152 (csr_Right r69 fun r161 => ifP r161 (csr_Turn r69 fun r170 => csr_Same r170 r31 fun r187 => ifP r187 (ifP (r128.1 == r144.1) (ifP (r128.2 == r144.2) (csr_Count r69 fun r198 => csr_Count r31 fun r206 => Q (r198 == r206)) (Q false)) (Q false)) (Q false)) (Q false)) (Q false)

def law07_CsrCuts (a0 : Int × Int) (a1 : List Triple) (a2 : Int × Int × Int × Int) (Q : Bool → Prop) : Prop :=
  law07_Some a0 a1 fun r31 => law07_Size a2.1 fun r68 => nzP (w64 (r31.Rows + 1)) <| law07_Size a2.2.1 fun r77 => nzP (w64 (r31.Cols + 1)) <| csr_Cut r31 (r68.tmod (w64 (r31.Rows + 1)), r31.Rows) (r77.tmod (w64 (r31.Cols + 1)), r31.Cols) fun r105 => law07_Size a2.2.2.1 fun r140 => law07_Size a2.2.2.2 fun r148 => csr_Get r105 r140 r148 fun r164 => csr_Get r31 (w64 ((r68.tmod (w64 (r31.Rows + 1))) + r140)) (w64 ((r77.tmod (w64 (r31.Cols + 1))) + r148)) fun r180 => csr_Cut r105 (0, r140) (0, r148) fun r207 => law07_live  fun r226 => ifP r226 (csr_Right r105 fun r235 => ifP r235 (ifP (r164.1 == r180.1) (ifP (r164.2 == r180.2) (csr_Cut r31 (r68.tmod (w64 (r31.Rows + 1)), w64 ((r68.tmod (w64 (r31.Rows + 1))) + r140)) (r77.tmod (w64 (r31.Cols + 1)), w64 ((r77.tmod (w64 (r31.Cols + 1))) + r148)) fun r246 => csr_Same r207 r246 fun r263 => Q r263) (Q false)) (Q false)) (Q false)) (Q false)
end Go.Proofs.YtindbiojednfbaaGreat
