/- Types, and pure functions as the Go text has them (printed by a program of ours). -/
import Derived.Test.YtdfiinkpdaggeaaFwN
import Derived.Test.YtdfiinkpdaggeaaFwZ
namespace Go.Proofs.Ytdfiinkpdaggeaa
open Go Go.Fw
set_option linter.unusedVariables false
set_option linter.unusedSimpArgs false
set_option maxRecDepth 8000
set_option maxHeartbeats 1000000
abbrev eI64 : Elem Int := flat 1 (fun x => [.int .i64 x]) (fun _ => ⟨rfl, rfl⟩)
abbrev eU64 : Elem Int := flat 1 (fun x => [.int .u64 x]) (fun _ => ⟨rfl, rfl⟩)
abbrev eU8 : Elem Int := flat 1 (fun x => [.int .u8 x]) (fun _ => ⟨rfl, rfl⟩)
abbrev eI32 : Elem Int := flat 1 (fun x => [.int .i32 x]) (fun _ => ⟨rfl, rfl⟩)
abbrev eB : Elem Bool := flat 1 (fun x => [.bool x]) (fun _ => ⟨rfl, rfl⟩)
structure Wide where
  Hi : Int
  Lo : Int
deriving DecidableEq, Inhabited
def encWide (x : Wide) : List Value := [.int .i64 x.Hi, .int .u64 x.Lo]
abbrev eWide : Elem Wide := flat 2 encWide (fun _ => ⟨rfl, rfl⟩)
structure Sum where
  At : Int
  Val : Wide
deriving DecidableEq, Inhabited
def encSum (x : Sum) : List Value := [.int .i64 x.At, .int .i64 x.Val.Hi, .int .u64 x.Val.Lo]
abbrev eSum : Elem Sum := flat 3 encSum (fun _ => ⟨rfl, rfl⟩)
structure Push_head where
  l : List Sum
  which : Int
deriving DecidableEq, Inhabited
def ePush_head : Elem Push_head where
  sz := 2
  rep I cs x := ∃ a0 c0, cs = [.slice a0 x.l.length c0, .int .i64 x.which] ∧ RepSl eSum I a0 c0 x.l
  mono hle := fun ⟨a0, c0, e, h0⟩ => ⟨a0, c0, e, h0.mono hle⟩
  len := fun ⟨a0, c0, e, _⟩ => by rw [e]; rfl
  one := fun ⟨a0, c0, e, _⟩ => by rw [e]; rfl
structure Push_merger where
  heads : List Push_head
  r : Int
  out : List Sum
deriving DecidableEq, Inhabited
def ePush_merger : Elem Push_merger where
  sz := 3
  rep I cs x := ∃ a0 c0 a2 c2, cs = [.slice a0 x.heads.length c0, .int .i64 x.r, .slice a2 x.out.length c2] ∧ RepSl ePush_head I a0 c0 x.heads ∧ RepSl eSum I a2 c2 x.out
  mono hle := fun ⟨a0, c0, a2, c2, e, h0, h1⟩ => ⟨a0, c0, a2, c2, e, h0.mono hle, h1.mono hle⟩
  len := fun ⟨a0, c0, a2, c2, e, _, _⟩ => by rw [e]; rfl
  one := fun ⟨a0, c0, a2, c2, e, _, _⟩ => by rw [e]; rfl
structure Edge where
  From : Int
  To : Int
  W : Int
deriving DecidableEq, Inhabited
def encEdge (x : Edge) : List Value := [.int .i64 x.From, .int .i64 x.To, .int .i64 x.W]
abbrev eEdge : Elem Edge := flat 3 encEdge (fun _ => ⟨rfl, rfl⟩)
structure Rows where
  Rows : Int
  Cols : Int
  Start : List Int
  Col : List Int
  Val : List Int
deriving DecidableEq, Inhabited
def eRows : Elem Rows where
  sz := 5
  rep I cs x := ∃ a2 c2 a3 c3 a4 c4, cs = [.int .i64 x.Rows, .int .i64 x.Cols, .slice a2 x.Start.length c2, .slice a3 x.Col.length c3, .slice a4 x.Val.length c4] ∧ RepSl eI64 I a2 c2 x.Start ∧ RepSl eI64 I a3 c3 x.Col ∧ RepSl eI64 I a4 c4 x.Val
  mono hle := fun ⟨a2, c2, a3, c3, a4, c4, e, h0, h1, h2⟩ => ⟨a2, c2, a3, c3, a4, c4, e, h0.mono hle, h1.mono hle, h2.mono hle⟩
  len := fun ⟨a2, c2, a3, c3, a4, c4, e, _, _, _⟩ => by rw [e]; rfl
  one := fun ⟨a2, c2, a3, c3, a4, c4, e, _, _, _⟩ => by rw [e]; rfl
structure Triple where
  Row : Int
  Col : Int
  Val : Int
deriving DecidableEq, Inhabited
def encTriple (x : Triple) : List Value := [.int .i64 x.Row, .int .i64 x.Col, .int .i64 x.Val]
abbrev eTriple : Elem Triple := flat 3 encTriple (fun _ => ⟨rfl, rfl⟩)
structure Item where
  At : Int
  Val : Int
deriving DecidableEq, Inhabited
def encItem (x : Item) : List Value := [.int .i64 x.At, .int .i64 x.Val]
abbrev eItem : Elem Item := flat 2 encItem (fun _ => ⟨rfl, rfl⟩)
structure Columns where
  Rows : Int
  Cols : Int
  At : List Int
  Start : List Int
  Row : List Int
  Val : List Int
deriving DecidableEq, Inhabited
def eColumns : Elem Columns where
  sz := 6
  rep I cs x := ∃ a2 c2 a3 c3 a4 c4 a5 c5, cs = [.int .i64 x.Rows, .int .i64 x.Cols, .slice a2 x.At.length c2, .slice a3 x.Start.length c3, .slice a4 x.Row.length c4, .slice a5 x.Val.length c5] ∧ RepSl eI64 I a2 c2 x.At ∧ RepSl eI64 I a3 c3 x.Start ∧ RepSl eI64 I a4 c4 x.Row ∧ RepSl eI64 I a5 c5 x.Val
  mono hle := fun ⟨a2, c2, a3, c3, a4, c4, a5, c5, e, h0, h1, h2, h3⟩ => ⟨a2, c2, a3, c3, a4, c4, a5, c5, e, h0.mono hle, h1.mono hle, h2.mono hle, h3.mono hle⟩
  len := fun ⟨a2, c2, a3, c3, a4, c4, a5, c5, e, _, _, _, _⟩ => by rw [e]; rfl
  one := fun ⟨a2, c2, a3, c3, a4, c4, a5, c5, e, _, _, _, _⟩ => by rw [e]; rfl
structure Vec where
  N : Int
  Items : List Item
deriving DecidableEq, Inhabited
def eVec : Elem Vec where
  sz := 2
  rep I cs x := ∃ a1 c1, cs = [.int .i64 x.N, .slice a1 x.Items.length c1] ∧ RepSl eItem I a1 c1 x.Items
  mono hle := fun ⟨a1, c1, e, h0⟩ => ⟨a1, c1, e, h0.mono hle⟩
  len := fun ⟨a1, c1, e, _⟩ => by rw [e]; rfl
  one := fun ⟨a1, c1, e, _⟩ => by rw [e]; rfl

def ring_Is (a0 : Int) (Q : Bool → Prop) : Prop :=
  ifP (decide (0 < a0)) (Q (decide (a0 < 6))) (Q false)

def push_rises (a0 : List Sum) (Q : Bool → Prop) : Prop :=
  loopP (fun (s31 : Int) (next32 : Int → Prop) => ifP (decide (s31 < (a0.length : Int))) (ifP (decide (0 < s31)) (idxP a0 (w64 (s31 - 1)) fun x40 => idxP a0 s31 fun x49 => ifP (decide (x49.At ≤ x40.At)) (Q false) (next32 (w64 (s31 + 1)))) (next32 (w64 (s31 + 1)))) (Q true)) 0

def push_Merge_1 (a0 : List Sum) (Q : Bool → Prop) : Prop :=
  push_rises a0 fun r4 => Q (!r4)

def push_heads_Len (a0 : List Push_head) (Q : Int → Prop) : Prop :=
  Q (a0.length : Int)

def cmp_Or_int (a0 : List Int) (Q : Int → Prop) : Prop :=
  loopP (fun (s31 : Int) (next32 : Int → Prop) => ifP (decide (s31 < (a0.length : Int))) (idxP a0 s31 fun x39 => ifP (x39 != 0) (Q x39) (next32 (w64 (s31 + 1)))) (Q 0)) 0

def cmp_isNaN_int64 (a0 : Int) (Q : Bool → Prop) : Prop :=
  Q (a0 != a0)

def cmp_Compare_int64 (a0 : Int) (a1 : Int) (Q : Int → Prop) : Prop :=
  cmp_isNaN_int64 a0 fun r5 => cmp_isNaN_int64 a1 fun r13 => ifP r5 (ifP r13 (Q 0) (Q (-1))) (ifP r13 (Q 1) (ifP (decide (a0 < a1)) (Q (-1)) (ifP (decide (a1 < a0)) (Q 1) (Q 0))))

def cmp_isNaN_uint64 (a0 : Int) (Q : Bool → Prop) : Prop :=
  Q (a0 != a0)

def cmp_Compare_uint64 (a0 : Int) (a1 : Int) (Q : Int → Prop) : Prop :=
  cmp_isNaN_uint64 a0 fun r5 => cmp_isNaN_uint64 a1 fun r13 => ifP r5 (ifP r13 (Q 0) (Q (-1))) (ifP r13 (Q 1) (ifP (decide (a0 < a1)) (Q (-1)) (ifP (decide (a1 < a0)) (Q 1) (Q 0))))

def wide_Compare (a0 : Wide) (a1 : Wide) (Q : Int → Prop) : Prop :=
  cmp_Compare_int64 a0.Hi a1.Hi fun r9 => cmp_Compare_uint64 a0.Lo a1.Lo fun r13 => cmp_Or_int ([r9, r13] : List Int) fun r23 => Q r23

def ring_lesser (a0 : Wide) (a1 : Wide) (Q : Wide → Prop) : Prop :=
  wide_Compare a0 a1 fun r13 => ifP (decide (r13 ≤ 0)) (Q a0) (Q a1)

def wide_Of (a0 : Int) (Q : Wide → Prop) : Prop :=
  Q ({ Hi := shr .i64 a0 63, Lo := IntKind.wrap .u64 (a0) } : Wide)

def ring_truth (a0 : Bool) (Q : Wide → Prop) : Prop :=
  ifP a0 (wide_Of 1 fun r6 => Q r6) (Q ({ Hi := 0, Lo := 0 } : Wide))

def wide_carry (a0 : Bool) (Q : Int → Prop) : Prop :=
  ifP a0 (Q 1) (Q 0)

def wide_Add (a0 : Wide) (a1 : Wide) (Q : Wide → Prop) : Prop :=
  wide_carry (decide ((IntKind.wrap .u64 (a0.Lo + a1.Lo)) < a1.Lo)) fun r13 => Q ({ Hi := w64 (IntKind.wrap .u64 ((IntKind.wrap .u64 ((IntKind.wrap .u64 (a0.Hi)) + (IntKind.wrap .u64 (a1.Hi)))) + r13)), Lo := IntKind.wrap .u64 (a0.Lo + a1.Lo) } : Wide)

def ring_Add (a0 : Int) (a1 : Wide) (a2 : Wide) (Q : Wide → Prop) : Prop :=
  joinP (fun (k18 : Bool → Prop) => ifP (a0 == 1) (k18 (a0 == 1)) (ifP (a0 == 3) (k18 (a0 == 3)) (k18 (a0 == 4)))) fun s17 => ifP s17 (ring_lesser a1 a2 fun r25 => Q r25) (ifP (a0 == 2) (ifP (!(a1 == a2)) (ring_truth true fun r31 => Q r31) (ring_truth (!(a1 == ({ Hi := 0, Lo := 0 } : Wide))) fun r35 => Q r35)) (ifP (a0 == 5) (wide_Add a1 a2 fun r40 => Q r40) (Q ({ Hi := 0, Lo := 0 } : Wide))))

def push_Merge_1_d96 (a0 : List Sum) (Q : Bool → Prop) : Prop :=
  push_rises a0 fun r4 => Q (!r4)

def slices_IndexFunc_api_Sum_api_Sum_acf (a0 : List (List Sum)) (Q : Int → Prop) : Prop :=
  loopP (fun (s53 : Int) (next54 : Int → Prop) => ifP (decide (s53 < (a0.length : Int))) (idxP a0 s53 fun x61 => push_Merge_1_d96 x61 fun r78 => ifP r78 (Q s53) (next54 (w64 (s53 + 1)))) (Q (-1))) 0

def slices_ContainsFunc_api_Sum_api_Sum_bfd (a0 : List (List Sum)) (Q : Bool → Prop) : Prop :=
  slices_IndexFunc_api_Sum_api_Sum_acf a0 fun r10 => Q (decide (0 ≤ r10))

def push_heads_Push_5fa (o0 : Push_merger) (a0 : Push_head) (Q : Push_merger → Prop) : Prop :=
  appP 32 o0.heads ([a0]) fun _ => Q ({ heads := (o0.heads ++ ([a0])), r := o0.r, out := o0.out } : Push_merger)

def push_heads_Len_66a (o0 : List Push_head) (Q : Int → Prop) : Prop :=
  Q (o0.length : Int)

def ref02_Is (a0 : Int) (Q : Bool → Prop) : Prop :=
  ifP (decide (1 ≤ a0)) (Q (decide (a0 ≤ 5))) (Q false)

def ref01_Compare (a0 : Wide) (a1 : Wide) (Q : Int → Prop) : Prop :=
  joinP (fun (k15 : Unit → Prop) => ifP (decide (a0.Hi < a1.Hi)) (Q (-1)) (ifP (a0.Hi == a1.Hi) (ifP (decide (a0.Lo < a1.Lo)) (Q (-1)) (k15 ())) (k15 ()))) fun _ => ifP (a0 == a1) (Q 0) (Q 1)

def ref02_truth (a0 : Bool) (Q : Wide → Prop) : Prop :=
  ifP a0 (Q ({ Hi := 0, Lo := 1 } : Wide)) (Q ({ Hi := 0, Lo := 0 } : Wide))

def ref01_Add (a0 : Wide) (a1 : Wide) (Q : Wide → Prop) : Prop :=
  ifP (decide ((IntKind.wrap .u64 (a0.Lo + a1.Lo)) < a0.Lo)) (Q ({ Hi := w64 ((w64 (a0.Hi + a1.Hi)) + 1), Lo := IntKind.wrap .u64 (a0.Lo + a1.Lo) } : Wide)) (Q ({ Hi := w64 (a0.Hi + a1.Hi), Lo := IntKind.wrap .u64 (a0.Lo + a1.Lo) } : Wide))

def ref02_Add (a0 : Int) (a1 : Wide) (a2 : Wide) (Q : Wide → Prop) : Prop :=
  joinP (fun (k18 : Bool → Prop) => ifP (a0 == 1) (k18 (a0 == 1)) (ifP (a0 == 3) (k18 (a0 == 3)) (k18 (a0 == 4)))) fun s17 => ifP s17 (ref01_Compare a2 a1 fun r25 => ifP (decide (r25 < 0)) (Q a2) (Q a1)) (ifP (a0 == 2) (ifP (!(a1 == ({ Hi := 0, Lo := 0 } : Wide))) (ref02_truth true fun r32 => Q r32) (ref02_truth (!(a2 == ({ Hi := 0, Lo := 0 } : Wide))) fun r36 => Q r36)) (ifP (a0 == 5) (ref01_Add a1 a2 fun r41 => Q r41) (Q ({ Hi := 0, Lo := 0 } : Wide))))

def ref14_both (a0 : Int) (a1 : List Sum) (a2 : List Sum) (Q : (List Sum) → Prop) : Prop :=
  loopP (fun (s : (List Sum) × Int × Int) (next463 : ((List Sum) × Int × Int) → Prop) => match s with | (s456, s460, s461) => joinP (fun (k471 : Unit → Prop) => ifP (decide (s460 < (a1.length : Int))) (k471 ()) (ifP (decide (s461 < (a2.length : Int))) (k471 ()) (Q s456))) fun _ => joinP (fun (k526 : Bool → Prop) => ifP (s461 == (a2.length : Int)) (k526 true) (ifP (decide (s460 < (a1.length : Int))) (idxP a1 s460 fun x531 => idxP a2 s461 fun x540 => k526 (decide (x531.At < x540.At))) (k526 false))) fun s525 => ifP s525 (idxP a1 s460 fun x555 => appP 24 s456 ([x555]) fun _ => next463 ((s456 ++ ([x555])), w64 (s460 + 1), s461)) (joinP (fun (k610 : Bool → Prop) => ifP (s460 == (a1.length : Int)) (k610 true) (idxP a2 s461 fun x614 => idxP a1 s460 fun x623 => k610 (decide (x614.At < x623.At)))) fun s609 => ifP s609 (idxP a2 s461 fun x639 => appP 24 s456 ([x639]) fun _ => next463 ((s456 ++ ([x639])), s460, w64 (s461 + 1))) (idxP a1 s460 fun x655 => idxP a1 s460 fun x664 => idxP a2 s461 fun x673 => ref02_Add a0 x664.Val x673.Val fun r681 => appP 24 s456 ([({ At := x655.At, Val := r681 } : Sum)]) fun _ => next463 ((s456 ++ ([({ At := x655.At, Val := r681 } : Sum)])), w64 (s460 + 1), w64 (s461 + 1))))) (([] : List Sum), 0, 0)

def ref14_Merge (a0 : Int) (a1 : List (List Sum)) (Q : ((List Sum) × Int) → Prop) : Prop :=
  ref02_Is a0 fun r12 => ifP (!r12) (Q (([] : List Sum), 8)) (loopP (fun (s1114 : Int) (next1115 : Int → Prop) => ifP (decide (s1114 < (a1.length : Int))) (loopP (fun (s1262 : Int) (next1263 : Int → Prop) => idxP a1 s1114 fun x1282 => ifP (decide (s1262 < (x1282.length : Int))) (idxP a1 s1114 fun x1295 => idxP x1295 s1262 fun x1307 => idxP a1 s1114 fun x1316 => idxP x1316 (w64 (s1262 - 1)) fun x1328 => ifP (decide (x1307.At ≤ x1328.At)) (Q (([] : List Sum), 6)) (next1263 (w64 (s1262 + 1)))) (next1115 (w64 (s1114 + 1)))) 1) (loopP (fun (s : (List Sum) × Int) (next1409 : ((List Sum) × Int) → Prop) => match s with | (s1404, s1408) => ifP (decide (s1408 < (a1.length : Int))) (idxP a1 s1408 fun x1417 => ref14_both a0 s1404 x1417 fun r1428 => next1409 (r1428, w64 (s1408 + 1))) (Q (s1404, 0))) (([] : List Sum), 0))) 0)

def ref05_below (a0 : Edge) (a1 : Edge) (Q : Bool → Prop) : Prop :=
  ifP (decide (a0.From < a1.From)) (Q true) (ifP (a0.From == a1.From) (Q (decide (a0.To < a1.To))) (Q false))

def ref01_Of (a0 : Int) (Q : Wide → Prop) : Prop :=
  ifP (decide (a0 < 0)) (Q ({ Hi := (-1), Lo := IntKind.wrap .u64 (a0) } : Wide)) (Q ({ Hi := 0, Lo := IntKind.wrap .u64 (a0) } : Wide))

def ref01_Narrow (a0 : Wide) (Q : (Int × Bool) → Prop) : Prop :=
  ifP (a0.Hi == 0) (ifP (decide (0 ≤ (w64 (a0.Lo)))) (Q (w64 (a0.Lo), true)) (ifP (a0.Hi == (-1)) (ifP (decide ((w64 (a0.Lo)) < 0)) (Q (w64 (a0.Lo), true)) (Q (0, false))) (Q (0, false)))) (ifP (a0.Hi == (-1)) (ifP (decide ((w64 (a0.Lo)) < 0)) (Q (w64 (a0.Lo), true)) (Q (0, false))) (Q (0, false)))

def ref05_Combine (a0 : Int) (a1 : List Edge) (Q : ((List Edge) × Int) → Prop) : Prop :=
  ref02_Is a0 fun r12 => ifP (!r12) (Q (([] : List Edge), 8)) (loopP (fun (s : (List Edge) × (List Wide) × Int) (next2700 : ((List Edge) × (List Wide) × Int) → Prop) => match s with | (s2689, s2693, s2697) => ifP (decide (s2697 < (a1.length : Int))) (joinP (fun (k2857 : Int → Prop) => loopP (fun (s2905 : Int) (next2906 : Int → Prop) => ifP (decide (s2905 < (s2689.length : Int))) (idxP s2689 s2905 fun x2915 => idxP a1 s2697 fun x2920 => ref05_below x2915 x2920 fun r2928 => ifP r2928 (next2906 (w64 (s2905 + 1))) (k2857 s2905)) (k2857 s2905)) 0) fun s2856 => idxP a1 s2697 fun x2953 => ref01_Of x2953.W fun r2961 => joinP (fun (k3095 : Bool → Prop) => ifP (decide (s2856 < (s2689.length : Int))) (idxP a1 s2697 fun x3100 => idxP s2689 s2856 fun x3109 => ref05_below x3100 x3109 fun r3113 => k3095 (!r3113)) (k3095 false)) fun s3094 => ifP s3094 (idxP s2693 s2856 fun x3126 => ref02_Add a0 x3126 r2961 fun r3130 => idxP s2693 s2856 fun x3135 => next2700 (s2689, (s2693.set s2856.toNat r3130), w64 (s2697 + 1))) (appP 24 s2689 ([({ From := 0, To := 0, W := 0 } : Edge)]) fun _ => appP 16 s2693 ([({ Hi := 0, Lo := 0 } : Wide)]) fun _ => loopP (fun (s : (List Edge) × (List Wide) × Int) (next3330 : ((List Edge) × (List Wide) × Int) → Prop) => match s with | (s3321, s3325, s3329) => ifP (decide (s2856 < s3329)) (idxP s3321 (w64 (s3329 - 1)) fun x3340 => idxP s3321 s3329 fun x3345 => idxP s3325 (w64 (s3329 - 1)) fun x3348 => idxP s3325 s3329 fun x3353 => next3330 ((s3321.set s3329.toNat x3340), (s3325.set s3329.toNat x3348), w64 (s3329 - 1))) (idxP a1 s2697 fun x3358 => idxP a1 s2697 fun x3367 => idxP s3321 s2856 fun x3376 => idxP s3325 s2856 fun x3381 => next2700 ((s3321.set s2856.toNat ({ From := x3358.From, To := x3367.To, W := 0 } : Edge)), (s3325.set s2856.toNat r2961), w64 (s2697 + 1)))) ((s2689 ++ ([({ From := 0, To := 0, W := 0 } : Edge)])), (s2693 ++ ([({ Hi := 0, Lo := 0 } : Wide)])), w64 (((s2689 ++ ([({ From := 0, To := 0, W := 0 } : Edge)])).length : Int) - 1)))) (loopP (fun (s : (List Edge) × Int) (next3457 : ((List Edge) × Int) → Prop) => match s with | (s3452, s3456) => ifP (decide (s3456 < (s3452.length : Int))) (idxP s2693 s3456 fun x3474 => ref01_Narrow x3474 fun r3478 => ifP (!r3478.2) (Q (([] : List Edge), 12)) (idxP s3452 s3456 fun x3484 => next3457 ((s3452.set s3456.toNat ({ From := x3484.From, To := x3484.To, W := r3478.1 } : Edge)), w64 (s3456 + 1)))) (Q (s3452, 0))) (s2689, 0))) (([] : List Edge), ([] : List Wide), 0))

def ref07_Empty (a0 : Int) (a1 : Int) (Q : Rows → Prop) : Prop :=
  mkP 8 (w64 (a0 + 1)) 0 fun _ => Q ({ Rows := a0, Cols := a1, Start := (List.replicate (w64 (a0 + 1)).toNat 0), Col := ([] : List Int), Val := ([] : List Int) } : Rows)

def ref07_built (a0 : Int) (a1 : Int) (a2 : List Triple) (Q : Rows → Prop) : Prop :=
  ref07_Empty a0 a1 fun r39 => loopP (fun (s : (List Int) × (List Int) × (List Int) × Int) (next407 : ((List Int) × (List Int) × (List Int) × Int) → Prop) => match s with | (s394, s398, s402, s406) => ifP (decide (s406 < (a2.length : Int))) (idxP a2 s406 fun x436 => appP 8 s398 ([x436.Col]) fun _ => idxP a2 s406 fun x472 => appP 8 s402 ([x472.Val]) fun _ => idxP a2 s406 fun x496 => loopP (fun (s : (List Int) × Int) (next544 : ((List Int) × Int) → Prop) => match s with | (s539, s543) => ifP (decide (s543 ≤ a0)) (idxP s539 s543 fun x553 => idxP s539 s543 fun x558 => next544 ((s539.set s543.toNat (w64 (x553 + 1))), w64 (s543 + 1))) (next407 (s539, (s398 ++ ([x436.Col])), (s402 ++ ([x472.Val])), w64 (s406 + 1)))) (s394, w64 (x496.Row + 1))) (Q ({ Rows := r39.Rows, Cols := r39.Cols, Start := s394, Col := s398, Val := s402 } : Rows))) (r39.Start, r39.Col, r39.Val, 0)

def ref07_Of (a0 : Int) (a1 : Int) (a2 : Int) (a3 : List Triple) (Q : (Rows × Int) → Prop) : Prop :=
  ref02_Is a0 fun r22 => ifP (!r22) (Q (({ Rows := 0, Cols := 0, Start := ([] : List Int), Col := ([] : List Int), Val := ([] : List Int) } : Rows), 8)) (ifP (decide (a1 < 0)) (Q (({ Rows := 0, Cols := 0, Start := ([] : List Int), Col := ([] : List Int), Val := ([] : List Int) } : Rows), 3)) (ifP (decide (4096 < a1)) (Q (({ Rows := 0, Cols := 0, Start := ([] : List Int), Col := ([] : List Int), Val := ([] : List Int) } : Rows), 3)) (ifP (decide (a2 < 0)) (Q (({ Rows := 0, Cols := 0, Start := ([] : List Int), Col := ([] : List Int), Val := ([] : List Int) } : Rows), 3)) (ifP (decide (4096 < a2)) (Q (({ Rows := 0, Cols := 0, Start := ([] : List Int), Col := ([] : List Int), Val := ([] : List Int) } : Rows), 3)) (ifP (decide (65536 < (a3.length : Int))) (Q (({ Rows := 0, Cols := 0, Start := ([] : List Int), Col := ([] : List Int), Val := ([] : List Int) } : Rows), 5)) (loopP (fun (s : (List Edge) × Int) (next663 : ((List Edge) × Int) → Prop) => match s with | (s657, s661) => ifP (decide (s661 < (a3.length : Int))) (idxP a3 s661 fun x710 => ifP (decide (x710.Row < 0)) (Q (({ Rows := 0, Cols := 0, Start := ([] : List Int), Col := ([] : List Int), Val := ([] : List Int) } : Rows), 3)) (idxP a3 s661 fun x720 => ifP (decide (a1 ≤ x720.Row)) (Q (({ Rows := 0, Cols := 0, Start := ([] : List Int), Col := ([] : List Int), Val := ([] : List Int) } : Rows), 3)) (idxP a3 s661 fun x730 => ifP (decide (x730.Col < 0)) (Q (({ Rows := 0, Cols := 0, Start := ([] : List Int), Col := ([] : List Int), Val := ([] : List Int) } : Rows), 3)) (idxP a3 s661 fun x740 => ifP (decide (a2 ≤ x740.Col)) (Q (({ Rows := 0, Cols := 0, Start := ([] : List Int), Col := ([] : List Int), Val := ([] : List Int) } : Rows), 3)) (idxP a3 s661 fun x751 => idxP a3 s661 fun x760 => idxP a3 s661 fun x769 => appP 24 s657 ([({ From := x751.Row, To := x760.Col, W := x769.Val } : Edge)]) fun _ => next663 ((s657 ++ ([({ From := x751.Row, To := x760.Col, W := x769.Val } : Edge)])), w64 (s661 + 1))))))) (ref05_Combine a0 s657 fun r802 => ifP (r802.2 != 0) (Q (({ Rows := 0, Cols := 0, Start := ([] : List Int), Col := ([] : List Int), Val := ([] : List Int) } : Rows), r802.2)) (loopP (fun (s : (List Triple) × Int) (next908 : ((List Triple) × Int) → Prop) => match s with | (s902, s906) => ifP (decide (s906 < (r802.1.length : Int))) (idxP r802.1 s906 fun x917 => idxP r802.1 s906 fun x926 => idxP r802.1 s906 fun x935 => appP 24 s902 ([({ Row := x917.From, Col := x926.To, Val := x935.W } : Triple)]) fun _ => next908 ((s902 ++ ([({ Row := x917.From, Col := x926.To, Val := x935.W } : Triple)])), w64 (s906 + 1))) (ref07_built a1 a2 s902 fun r954 => Q (r954, 0))) (([] : List Triple), 0)))) (([] : List Edge), 0)))))))

def ref07_Right (a0 : Rows) (Q : Bool → Prop) : Prop :=
  ifP (decide (a0.Rows < 0)) (Q false) (ifP (decide (4096 < a0.Rows)) (Q false) (ifP (decide (a0.Cols < 0)) (Q false) (ifP (decide (4096 < a0.Cols)) (Q false) (ifP ((a0.Start.length : Int) != (w64 (a0.Rows + 1))) (Q false) (ifP ((a0.Col.length : Int) != (a0.Val.length : Int)) (Q false) (ifP (decide (65536 < (a0.Col.length : Int))) (Q false) (idxP a0.Start 0 fun x49 => ifP (x49 != 0) (Q false) (idxP a0.Start a0.Rows fun x59 => ifP (x59 != (a0.Col.length : Int)) (Q false) (loopP (fun (s697 : Int) (next698 : Int → Prop) => ifP (decide (s697 < a0.Rows)) (idxP a0.Start s697 fun x744 => idxP a0.Start (w64 (s697 + 1)) fun x753 => ifP (decide (x753 < x744)) (Q false) (idxP a0.Start s697 fun x763 => ifP (decide (x763 < 0)) (Q false) (idxP a0.Start (w64 (s697 + 1)) fun x773 => ifP (decide ((a0.Col.length : Int) < x773)) (Q false) (idxP a0.Start s697 fun x792 => loopP (fun (s941 : Int) (next942 : Int → Prop) => idxP a0.Start (w64 (s697 + 1)) fun x958 => ifP (decide (s941 < x958)) (idxP a0.Col s941 fun x968 => ifP (decide (x968 < 0)) (Q false) (idxP a0.Col s941 fun x978 => ifP (decide (a0.Cols ≤ x978)) (Q false) (idxP a0.Start s697 fun x988 => ifP (decide (x988 < s941)) (idxP a0.Col s941 fun x998 => idxP a0.Col (w64 (s941 - 1)) fun x1007 => ifP (decide (x998 ≤ x1007)) (Q false) (next942 (w64 (s941 + 1)))) (next942 (w64 (s941 + 1)))))) (next698 (w64 (s697 + 1)))) x792)))) (Q true)) 0)))))))))

def ref07_Sure (a0 : Rows) (Q : Rows → Prop) : Prop :=
  ref07_Right a0 fun r27 => ifP r27 (Q a0) (ref07_Empty 0 0 fun r32 => Q r32)

def ref07_Triples (a0 : Rows) (Q : (List Triple) → Prop) : Prop :=
  ref07_Sure a0 fun r34 => loopP (fun (s : (List Triple) × Int) (next433 : ((List Triple) × Int) → Prop) => match s with | (s427, s431) => ifP (decide (s431 < r34.Rows)) (idxP r34.Start s431 fun x450 => loopP (fun (s : (List Triple) × Int) (next568 : ((List Triple) × Int) → Prop) => match s with | (s563, s567) => idxP r34.Start (w64 (s431 + 1)) fun x585 => ifP (decide (s567 < x585)) (idxP r34.Col s567 fun x596 => idxP r34.Val s567 fun x605 => appP 24 s563 ([({ Row := s431, Col := x596, Val := x605 } : Triple)]) fun _ => next568 ((s563 ++ ([({ Row := s431, Col := x596, Val := x605 } : Triple)])), w64 (s567 + 1))) (next433 (s563, w64 (s431 + 1)))) (s427, x450)) (Q s427)) (([] : List Triple), 0)

def ref07_Turn (a0 : Rows) (Q : Rows → Prop) : Prop :=
  ref07_Sure a0 fun r44 => ref07_Triples r44 fun r72 => loopP (fun (s : (List Triple) × Int) (next435 : ((List Triple) × Int) → Prop) => match s with | (s429, s433) => ifP (decide (s433 < r44.Cols)) (loopP (fun (s : (List Triple) × Int) (next554 : ((List Triple) × Int) → Prop) => match s with | (s549, s553) => ifP (decide (s553 < (r72.length : Int))) (idxP r72 s553 fun x572 => ifP (x572.Col == s433) (idxP r72 s553 fun x583 => idxP r72 s553 fun x592 => appP 24 s549 ([({ Row := s433, Col := x583.Row, Val := x592.Val } : Triple)]) fun _ => next554 ((s549 ++ ([({ Row := s433, Col := x583.Row, Val := x592.Val } : Triple)])), w64 (s553 + 1))) (next554 (s549, w64 (s553 + 1)))) (next435 (s549, w64 (s433 + 1)))) (s429, 0)) (ref07_built r44.Cols r44.Rows s429 fun r611 => Q r611)) (([] : List Triple), 0)

def ref07_Row (a0 : Rows) (a1 : Int) (Q : (List Item) → Prop) : Prop :=
  ref07_Sure a0 fun r34 => ifP (decide (a1 < 0)) (Q ([] : List Item)) (ifP (decide (r34.Rows ≤ a1)) (Q ([] : List Item)) (idxP r34.Start a1 fun x65 => loopP (fun (s : (List Item) × Int) (next184 : ((List Item) × Int) → Prop) => match s with | (s178, s182) => idxP r34.Start (w64 (a1 + 1)) fun x200 => ifP (decide (s182 < x200)) (idxP r34.Col s182 fun x211 => idxP r34.Val s182 fun x220 => appP 16 s178 ([({ At := x211, Val := x220 } : Item)]) fun _ => next184 ((s178 ++ ([({ At := x211, Val := x220 } : Item)])), w64 (s182 + 1))) (Q s178)) (([] : List Item), x65)))

def ref08_Of (a0 : Rows) (Q : Columns → Prop) : Prop :=
  ref07_Turn a0 fun r49 => loopP (fun (s : (List Int) × (List Int) × (List Int) × (List Int) × Int) (next672 : ((List Int) × (List Int) × (List Int) × (List Int) × Int) → Prop) => match s with | (s652, s656, s660, s664, s668) => ifP (decide (s668 < r49.Rows)) (ref07_Row r49 s668 fun r691 => ifP ((r691.length : Int) == 0) (next672 (s652, s656, s660, s664, w64 (s668 + 1))) (appP 8 s652 ([s668]) fun _ => loopP (fun (s : (List Int) × (List Int) × Int) (next871 : ((List Int) × (List Int) × Int) → Prop) => match s with | (s862, s866, s870) => ifP (decide (s870 < (r691.length : Int))) (idxP r691 s870 fun x903 => appP 8 s862 ([x903.At]) fun _ => idxP r691 s870 fun x922 => appP 8 s866 ([x922.Val]) fun _ => next871 ((s862 ++ ([x903.At])), (s866 ++ ([x922.Val])), w64 (s870 + 1))) (appP 8 s656 ([(s862.length : Int)]) fun _ => next672 ((s652 ++ ([s668])), (s656 ++ ([(s862.length : Int)])), s862, s866, w64 (s668 + 1)))) (s660, s664, 0))) (Q ({ Rows := r49.Cols, Cols := r49.Rows, At := s652, Start := s656, Row := s660, Val := s664 } : Columns))) (([] : List Int), ([0] : List Int), ([] : List Int), ([] : List Int), 0)

def dcsc_within (a0 : Int) (a1 : Int) (Q : Bool → Prop) : Prop :=
  ifP (decide (0 ≤ a0)) (Q (decide (a0 ≤ a1))) (Q false)

def dcsc_rising (a0 : List Int) (a1 : Int) (Q : Bool → Prop) : Prop :=
  loopP (fun (s68 : Int) (next69 : Int → Prop) => ifP (decide (s68 < (a0.length : Int))) (idxP a0 s68 fun x85 => dcsc_within x85 (w64 (a1 - 1)) fun r93 => ifP (!r93) (Q false) (ifP (decide (0 < s68)) (idxP a0 (w64 (s68 - 1)) fun x100 => ifP (decide (x85 ≤ x100)) (Q false) (next69 (w64 (s68 + 1)))) (next69 (w64 (s68 + 1))))) (Q true)) 0

def dcsc_Right (a0 : Columns) (Q : Bool → Prop) : Prop :=
  dcsc_within a0.Rows 4096 fun r30 => ifP (!r30) (Q false) (dcsc_within a0.Cols 4096 fun r35 => ifP (!r35) (Q false) (ifP ((a0.Start.length : Int) != (w64 ((a0.At.length : Int) + 1))) (Q false) (ifP ((a0.Val.length : Int) != (a0.Row.length : Int)) (Q false) (ifP (decide (65536 < (a0.Row.length : Int))) (Q false) (dcsc_rising a0.At a0.Cols fun r73 => ifP (!r73) (Q false) (dcsc_rising a0.Start (w64 ((a0.Row.length : Int) + 1)) fun r78 => ifP (!r78) (Q false) (idxP a0.Start 0 fun x84 => ifP (x84 != 0) (Q false) (idxP a0.Start (a0.At.length : Int) fun x94 => ifP (x94 != (a0.Row.length : Int)) (Q false) (loopP (fun (s176 : Int) (next177 : Int → Prop) => ifP (decide (s176 < (a0.At.length : Int))) (idxP a0.Start s176 fun x184 => idxP a0.Start (w64 (s176 + 1)) fun x193 => slP a0.Row x184 x193 fun _ => dcsc_rising ((a0.Row.take x193.toNat).drop x184.toNat) a0.Rows fun r211 => ifP (!r211) (Q false) (next177 (w64 (s176 + 1)))) (Q true)) 0)))))))))

def spvec_within (a0 : Int) (a1 : Int) (Q : Bool → Prop) : Prop :=
  ifP (decide (0 ≤ a0)) (Q (decide (a0 ≤ a1))) (Q false)

def spvec_Right_1_81a (o0 : Int) (o1 : Vec) (a0 : Item) (Q : (Bool × Int) → Prop) : Prop :=
  ifP (decide (a0.At ≤ o0)) (Q (true, a0.At)) (Q (decide (o1.N ≤ a0.At), a0.At))

def slices_IndexFunc_api_Item_api_Item_a3e (o0 : Int) (o1 : Vec) (a0 : List Item) (Q : (Int × Int) → Prop) : Prop :=
  loopP (fun (s : Int × Int) (next63 : (Int × Int) → Prop) => match s with | (s61, s62) => ifP (decide (s62 < (a0.length : Int))) (idxP a0 s62 fun x70 => spvec_Right_1_81a s61 o1 x70 fun r84 => ifP r84.1 (Q (s62, r84.2)) (next63 (r84.2, w64 (s62 + 1)))) (Q ((-1), s61))) (o0, 0)

def slices_ContainsFunc_api_Item_api_Item_cd0 (o0 : Int) (o1 : Vec) (a0 : List Item) (Q : (Bool × Int) → Prop) : Prop :=
  slices_IndexFunc_api_Item_api_Item_a3e o0 o1 a0 fun r17 => Q (decide (0 ≤ r17.1), r17.2)

def spvec_Right (a0 : Vec) (Q : Bool → Prop) : Prop :=
  spvec_within a0.N 4096 fun r13 => ifP (!r13) (Q false) (slices_ContainsFunc_api_Item_api_Item_cd0 (-1) a0 a0.Items fun r26 => Q (!r26.1))

def push_sure (a0 : Columns) (a1 : Vec) (Q : (Columns × Vec) → Prop) : Prop :=
  joinP (fun (k81 : (Int × Int × (List Int) × (List Int) × (List Int) × (List Int)) → Prop) => dcsc_Right a0 fun r82 => ifP (!r82) (k81 (0, 0, ([] : List Int), ([0] : List Int), ([] : List Int), ([] : List Int))) (k81 (a0.Rows, a0.Cols, a0.At, a0.Start, a0.Row, a0.Val))) fun (s63, s64, s65, s69, s73, s77) => spvec_Right a1 fun r97 => ifP (!r97) (Q (({ Rows := s63, Cols := s64, At := s65, Start := s69, Row := s73, Val := s77 } : Columns), ({ N := 0, Items := ([] : List Item) } : Vec))) (Q (({ Rows := s63, Cols := s64, At := s65, Start := s69, Row := s73, Val := s77 } : Columns), a1))

def flags_within (a0 : List Int) (a1 : Int) (Q : Bool → Prop) : Prop :=
  ifP (decide (0 ≤ a1)) (Q (decide ((shr .i64 a1 6) < (a0.length : Int)))) (Q false)

def flags_bit (a0 : Int) (Q : Int → Prop) : Prop :=
  nnP (bnd .u64 (IntKind.wrap .u64 (a0)) 63) <| Q (shl .u64 1 (bnd .u64 (IntKind.wrap .u64 (a0)) 63))

def flags_Has (a0 : List Int) (a1 : Int) (Q : Bool → Prop) : Prop :=
  flags_within a0 a1 fun r4 => ifP r4 (idxP a0 (shr .i64 a1 6) fun x10 => flags_bit a1 fun r18 => Q ((bnd .u64 x10 r18) != 0)) (Q false)

def wide_halves (a0 : Int) (Q : (Int × Int) → Prop) : Prop :=
  Q (shr .u64 (shl .u64 a0 32) 32, shr .u64 a0 32)

def wide_product (a0 : Int) (a1 : Int) (Q : Wide → Prop) : Prop :=
  wide_halves a0 fun r17 => wide_halves a1 fun r21 => wide_halves (IntKind.wrap .u64 (r17.1 * r21.1)) fun r40 => wide_halves (IntKind.wrap .u64 ((IntKind.wrap .u64 (r17.2 * r21.1)) + r40.2)) fun r44 => wide_halves (IntKind.wrap .u64 ((IntKind.wrap .u64 (r17.1 * r21.2)) + r44.1)) fun r55 => wide_halves (IntKind.wrap .u64 (r17.1 * r21.1)) fun r61 => Q ({ Hi := w64 (IntKind.wrap .u64 ((IntKind.wrap .u64 ((IntKind.wrap .u64 (r17.2 * r21.2)) + r44.2)) + r55.2)), Lo := bor .u64 (shl .u64 r55.1 32) r61.1 } : Wide)

def wide_size (a0 : Int) (Q : Int → Prop) : Prop :=
  ifP (decide (a0 < 0)) (Q (IntKind.wrap .u64 (0 - (IntKind.wrap .u64 (a0))))) (Q (IntKind.wrap .u64 (a0)))

def wide_Sub (a0 : Wide) (a1 : Wide) (Q : Wide → Prop) : Prop :=
  wide_carry (decide (a0.Lo < a1.Lo)) fun r13 => Q ({ Hi := w64 (IntKind.wrap .u64 ((IntKind.wrap .u64 ((IntKind.wrap .u64 (a0.Hi)) - (IntKind.wrap .u64 (a1.Hi)))) - r13)), Lo := IntKind.wrap .u64 (a0.Lo - a1.Lo) } : Wide)

def wide_Mul (a0 : Int) (a1 : Int) (Q : Wide → Prop) : Prop :=
  wide_size a0 fun r19 => wide_size a1 fun r23 => wide_product r19 r23 fun r27 => ifP (!((decide (a0 < 0)) == (decide (a1 < 0)))) (wide_Sub ({ Hi := 0, Lo := 0 } : Wide) r27 fun r34 => Q r34) (Q r27)

def ring_Mul (a0 : Int) (a1 : Int) (a2 : Int) (Q : Wide → Prop) : Prop :=
  ifP (a0 == 2) (ifP (a1 != 0) (ring_truth (a2 != 0) fun r22 => Q r22) (ring_truth false fun r26 => Q r26)) (ifP (a0 == 5) (wide_Mul a1 a2 fun r31 => Q r31) (joinP (fun (k55 : Unit → Prop) => ring_Is a0 fun r56 => ifP r56 (ifP (decide (4611686018427387904 ≤ (if a2 > a1 then a2 else a1))) (wide_Of 4611686018427387904 fun r62 => Q r62) (k55 ())) (k55 ())) fun _ => joinP (fun (k91 : (Int × Int) → Prop) => ifP (a0 == 1) (wide_Of a1 fun r94 => k91 (r94.Hi, r94.Lo)) (ifP (a0 == 4) (k91 (0, 0)) (ifP (a0 == 3) (wide_Of a1 fun r100 => Q r100) (Q ({ Hi := 0, Lo := 0 } : Wide))))) fun (s89, s90) => wide_Of 4611686018427387904 fun r108 => wide_Of a2 fun r112 => wide_Add ({ Hi := s89, Lo := s90 } : Wide) r112 fun r116 => ring_lesser r108 r116 fun r120 => Q r120))

def push_column (a0 : Int) (a1 : List Item) (a2 : Int) (a3 : List Int) (a4 : Bool) (Q : (List Sum) → Prop) : Prop :=
  loopP (fun (s : (List Sum) × Int) (next118 : ((List Sum) × Int) → Prop) => match s with | (s112, s116) => ifP (decide (s116 < (a1.length : Int))) (idxP a1 s116 fun x136 => flags_Has a3 x136.At fun r150 => ifP (!(r150 == a4)) (ring_Mul a0 x136.Val a2 fun r155 => appP 24 s112 ([({ At := x136.At, Val := r155 } : Sum)]) fun _ => next118 ((s112 ++ ([({ At := x136.At, Val := r155 } : Sum)])), w64 (s116 + 1))) (next118 (s112, w64 (s116 + 1)))) (Q s112)) (([] : List Sum), 0)

def dcsc_none  (Q : Columns → Prop) : Prop :=
  Q ({ Rows := 0, Cols := 0, At := ([] : List Int), Start := ([0] : List Int), Row := ([] : List Int), Val := ([] : List Int) } : Columns)

def dcsc_sure (a0 : Columns) (Q : Columns → Prop) : Prop :=
  dcsc_Right a0 fun r33 => ifP r33 (Q a0) (dcsc_none  fun r38 => Q r38)

def dcsc_place (a0 : Columns) (a1 : Int) (Q : Int → Prop) : Prop :=
  joinP (fun (k229 : (Int × Int) → Prop) => loopP (fun (s : Int × Int) (next300 : (Int × Int) → Prop) => match s with | (s298, s299) => ifP (decide (s298 < s299)) (idxP a0.At (w64 (s298 + (w64 ((w64 (s299 - s298)).tdiv 2)))) fun x316 => ifP (x316 == a1) (k229 (w64 (s298 + (w64 ((w64 (s299 - s298)).tdiv 2))), s299)) (idxP a0.At (w64 (s298 + (w64 ((w64 (s299 - s298)).tdiv 2)))) fun x326 => ifP (decide (x326 < a1)) (next300 (w64 ((w64 (s298 + (w64 ((w64 (s299 - s298)).tdiv 2)))) + 1), s299)) (next300 (s298, w64 (s298 + (w64 ((w64 (s299 - s298)).tdiv 2))))))) (k229 (s298, s299))) (0, (a0.At.length : Int))) fun (s227, s228) => ifP (decide (s227 < s228)) (Q s227) (Q (-1))

def dcsc_items_9d2 (a0 : Columns) (a1 : Int) (Q : (Columns × Int) → Prop) : Prop :=
  Q (a0, a1)

def dcsc_items_1_1ae (o0 : Nat) (o1 : List Item) (o2 : Columns) (o3 : Int) (Y : Nat → (List Item) → Item → ((Bool × Nat × (List Item)) → Prop) → Prop) (Q : (Nat × (List Item)) → Prop) : Prop :=
  idxP o2.Start o3 fun x42 => loopP (fun (s : (List Item) × Int × Nat) (next184 : ((List Item) × Int × Nat) → Prop) => match s with | (s178, s182, s183) => idxP o2.Start (w64 (o3 + 1)) fun x199 => ifP (decide (s182 < x199)) (idxP o2.Row s182 fun x210 => idxP o2.Val s182 fun x219 => Y s183 s178 ({ At := x210, Val := x219 } : Item) fun r233 => ifP (!r233.1) (Q (r233.2.1, r233.2.2)) (next184 (r233.2.2, w64 (s182 + 1), r233.2.1))) (Q (s183, s178))) (o1, x42, o0)

def slices_AppendSeq_api_Item_api_Item_828 (o0 : Columns) (o1 : Int) (Q : (List Item) → Prop) : Prop :=
  dcsc_items_1_1ae 0 ([] : List Item) o0 o1 (fun (y55 : Nat) (y56 : List Item) (x62 : Item) (Qy : (Bool × Nat × (List Item)) → Prop) => eqP y55 0 (appP 16 y56 ([x62]) fun _ => Qy (true, 0, (y56 ++ ([x62]))))) fun r75 => eqP r75.1 0 (Q r75.2)

def slices_Collect_api_Item_d7d (o0 : Columns) (o1 : Int) (Q : (List Item) → Prop) : Prop :=
  slices_AppendSeq_api_Item_api_Item_828 o0 o1 fun r23 => Q r23

def dcsc_Column (a0 : Columns) (a1 : Int) (Q : (List Item) → Prop) : Prop :=
  dcsc_sure a0 fun r40 => dcsc_place r40 a1 fun r64 => ifP (decide (r64 < 0)) (Q ([] : List Item)) (dcsc_items_9d2 r40 r64 fun r75 => slices_Collect_api_Item_d7d r75.1 r75.2 fun r99 => Q r99)

def wide_Narrow (a0 : Wide) (Q : (Int × Bool) → Prop) : Prop :=
  wide_Of (w64 (a0.Lo)) fun r5 => ifP (!(r5 == a0)) (Q (0, false)) (Q (w64 (a0.Lo), true))

def ring_Narrow (a0 : Int) (a1 : Wide) (Q : (Int × Bool) → Prop) : Prop :=
  wide_Narrow a1 fun r3 => Q (r3.1, r3.2)

def ring_Zero (a0 : Int) (Q : Int → Prop) : Prop :=
  ifP (a0 == 1) (Q 4611686018427387904) (ifP (a0 == 3) (Q 4611686018427387904) (ifP (a0 == 4) (Q 4611686018427387904) (Q 0)))

def pull_Done_1_ac1 (o0 : Int) (a0 : Sum) (Q : Bool → Prop) : Prop :=
  ifP (decide (a0.At < 0)) (Q true) (Q (decide (o0 ≤ a0.At)))

def slices_IndexFunc_api_Sum_api_Sum_a5e (o0 : Int) (a0 : List Sum) (Q : Int → Prop) : Prop :=
  loopP (fun (s49 : Int) (next50 : Int → Prop) => ifP (decide (s49 < (a0.length : Int))) (idxP a0 s49 fun x57 => pull_Done_1_ac1 o0 x57 fun r71 => ifP r71 (Q s49) (next50 (w64 (s49 + 1)))) (Q (-1))) 0

def slices_ContainsFunc_api_Sum_api_Sum_927 (o0 : Int) (a0 : List Sum) (Q : Bool → Prop) : Prop :=
  slices_IndexFunc_api_Sum_api_Sum_a5e o0 a0 fun r12 => Q (decide (0 ≤ r12))

def pull_Done (a0 : Int) (a1 : Int) (a2 : List Sum) (Q : (Vec × Int) → Prop) : Prop :=
  ring_Is a0 fun r39 => ifP (!r39) (Q (({ N := 0, Items := ([] : List Item) } : Vec), 8)) (ifP (decide (a1 < 0)) (Q (({ N := 0, Items := ([] : List Item) } : Vec), 3)) (ifP (decide (4096 < a1)) (Q (({ N := 0, Items := ([] : List Item) } : Vec), 3)) (slices_ContainsFunc_api_Sum_api_Sum_927 a1 a2 fun r52 => ifP r52 (Q (({ N := 0, Items := ([] : List Item) } : Vec), 3)) (loopP (fun (s137 : Int) (next138 : Int → Prop) => ifP (decide (s137 < (a2.length : Int))) (ifP (decide (0 < s137)) (idxP a2 (w64 (s137 - 1)) fun x147 => idxP a2 s137 fun x156 => ifP (decide (x156.At ≤ x147.At)) (Q (({ N := 0, Items := ([] : List Item) } : Vec), 6)) (next138 (w64 (s137 + 1)))) (next138 (w64 (s137 + 1)))) (loopP (fun (s : (List Item) × Int) (next289 : ((List Item) × Int) → Prop) => match s with | (s283, s287) => ifP (decide (s287 < (a2.length : Int))) (idxP a2 s287 fun x309 => ring_Narrow a0 x309.Val fun r323 => ifP (!r323.2) (Q (({ N := 0, Items := ([] : List Item) } : Vec), 12)) (ring_Zero a0 fun r333 => ifP (r323.1 != r333) (appP 16 s283 ([({ At := x309.At, Val := r323.1 } : Item)]) fun _ => next289 ((s283 ++ ([({ At := x309.At, Val := r323.1 } : Item)])), w64 (s287 + 1))) (next289 (s283, w64 (s287 + 1))))) (Q (({ N := a1, Items := s283 } : Vec), 0))) (([] : List Item), 0))) 0))))

def dcsc_Work (a0 : Columns) (a1 : List Int) (Q : Int → Prop) : Prop :=
  dcsc_sure a0 fun r40 => loopP (fun (s : Int × Int) (next162 : (Int × Int) → Prop) => match s with | (s160, s161) => ifP (decide (s161 < (a1.length : Int))) (idxP a1 s161 fun x179 => dcsc_place r40 x179 fun r191 => ifP (decide (0 ≤ r191)) (idxP r40.Start (w64 (r191 + 1)) fun x197 => idxP r40.Start r191 fun x206 => next162 (w64 (s160 + (w64 (x197 - x206))), w64 (s161 + 1))) (next162 (s160, w64 (s161 + 1)))) (Q s160)) (0, 0)

def spvec_sure (a0 : Vec) (Q : Vec → Prop) : Prop :=
  spvec_Right a0 fun r15 => ifP r15 (Q a0) (Q ({ N := 0, Items := ([] : List Item) } : Vec))

def spvec_Places (a0 : Vec) (Q : (List Int) → Prop) : Prop :=
  spvec_sure a0 fun r22 => loopP (fun (s : (List Int) × Int) (next93 : ((List Int) × Int) → Prop) => match s with | (s87, s91) => ifP (decide (s91 < (r22.Items.length : Int))) (idxP r22.Items s91 fun x101 => appP 8 s87 ([x101.At]) fun _ => next93 ((s87 ++ ([x101.At])), w64 (s91 + 1))) (Q s87)) (([] : List Int), 0)

def push_Work (a0 : Columns) (a1 : Vec) (Q : Int → Prop) : Prop :=
  spvec_Places a1 fun r20 => dcsc_Work a0 r20 fun r31 => Q r31

def ref13_SameSums (a0 : List Sum) (a1 : List Sum) (Q : Bool → Prop) : Prop :=
  ifP ((a0.length : Int) != (a1.length : Int)) (Q false) (loopP (fun (s54 : Int) (next55 : Int → Prop) => ifP (decide (s54 < (a0.length : Int))) (idxP a0 s54 fun x62 => idxP a1 s54 fun x71 => ifP (!(x62 == x71)) (Q false) (next55 (w64 (s54 + 1)))) (Q true)) 0)

def cmp_isNaN_int (a0 : Int) (Q : Bool → Prop) : Prop :=
  Q (a0 != a0)

def cmp_Compare_int (a0 : Int) (a1 : Int) (Q : Int → Prop) : Prop :=
  cmp_isNaN_int a0 fun r5 => cmp_isNaN_int a1 fun r13 => ifP r5 (ifP r13 (Q 0) (Q (-1))) (ifP r13 (Q 1) (ifP (decide (a0 < a1)) (Q (-1)) (ifP (decide (a1 < a0)) (Q 1) (Q 0))))

def push_heads_Less (a0 : List Push_head) (a1 : Int) (a2 : Int) (Q : Bool → Prop) : Prop :=
  idxP a0 a1 fun x5 => idxP x5.l 0 fun x17 => idxP a0 a2 fun x26 => idxP x26.l 0 fun x38 => idxP a0 a1 fun x47 => idxP a0 a2 fun x59 => cmp_Compare_int x17.At x38.At fun r70 => cmp_Compare_int x47.which x59.which fun r74 => cmp_Or_int ([r70, r74] : List Int) fun r84 => Q (decide (r84 < 0))

def push_heads_Less_706 (o0 : List Push_head) (a0 : Int) (a1 : Int) (Q : Bool → Prop) : Prop :=
  idxP o0 a0 fun x8 => idxP x8.l 0 fun x20 => idxP o0 a1 fun x29 => idxP x29.l 0 fun x39 => idxP o0 a0 fun x48 => idxP o0 a1 fun x58 => cmp_Compare_int x20.At x39.At fun r67 => cmp_Compare_int x48.which x58.which fun r71 => cmp_Or_int ([r67, r71] : List Int) fun r81 => Q (decide (r81 < 0))

def push_heads_Swap_c73 (o0 : List Push_head) (a0 : Int) (a1 : Int) (Q : (List Push_head) → Prop) : Prop :=
  idxP o0 a1 fun x8 => idxP o0 a0 fun x20 => idxP o0 a0 fun x30 => idxP (o0.set a0.toNat x8) a1 fun x41 => Q ((o0.set a0.toNat x8).set a1.toNat x20)

def container_heap_up_248 (o0 : Push_merger) (a0 : Int) (Q : Push_merger → Prop) : Prop :=
  loopP (fun (s : (List Push_head) × Int) (next75 : ((List Push_head) × Int) → Prop) => match s with | (s70, s74) => ifP ((w64 ((w64 (s74 - 1)).tdiv 2)) == s74) (Q ({ heads := s70, r := o0.r, out := o0.out } : Push_merger)) (push_heads_Less_706 s70 s74 (w64 ((w64 (s74 - 1)).tdiv 2)) fun r86 => ifP (!r86) (Q ({ heads := s70, r := o0.r, out := o0.out } : Push_merger)) (push_heads_Swap_c73 s70 (w64 ((w64 (s74 - 1)).tdiv 2)) s74 fun r95 => next75 (r95, w64 ((w64 (s74 - 1)).tdiv 2))))) (o0.heads, a0)

def container_heap_Push_f07 (o0 : Push_merger) (a0 : Push_head) (Q : Push_merger → Prop) : Prop :=
  push_heads_Push_5fa o0 a0 fun r20 => push_heads_Len_66a r20.heads fun r38 => container_heap_up_248 r20 (w64 (r38 - 1)) fun r46 => Q r46

def push_merger_put_46e (o0 : Push_merger) (a0 : List Sum) (a1 : Int) (Q : Push_merger → Prop) : Prop :=
  ifP (decide (0 < (a0.length : Int))) (container_heap_Push_f07 o0 ({ l := a0, which := a1 } : Push_head) fun r21 => Q r21) (Q o0)

def container_heap_down_206 (o0 : Push_merger) (a0 : Int) (a1 : Int) (Q : (Bool × Push_merger) → Prop) : Prop :=
  loopP (fun (s : (List Push_head) × Int) (next151 : ((List Push_head) × Int) → Prop) => match s with | (s146, s150) => ifP (decide (a1 ≤ (w64 ((w64 (2 * s150)) + 1)))) (Q (decide (a0 < s150), ({ heads := s146, r := o0.r, out := o0.out } : Push_merger))) (ifP (decide ((w64 ((w64 (2 * s150)) + 1)) < 0)) (Q (decide (a0 < s150), ({ heads := s146, r := o0.r, out := o0.out } : Push_merger))) (joinP (fun (k180 : Int → Prop) => ifP (decide ((w64 ((w64 ((w64 (2 * s150)) + 1)) + 1)) < a1)) (push_heads_Less_706 s146 (w64 ((w64 ((w64 (2 * s150)) + 1)) + 1)) (w64 ((w64 (2 * s150)) + 1)) fun r188 => ifP r188 (k180 (w64 ((w64 ((w64 (2 * s150)) + 1)) + 1))) (k180 (w64 ((w64 (2 * s150)) + 1)))) (k180 (w64 ((w64 (2 * s150)) + 1)))) fun s179 => push_heads_Less_706 s146 s179 s150 fun r202 => ifP (!r202) (Q (decide (a0 < s150), ({ heads := s146, r := o0.r, out := o0.out } : Push_merger))) (push_heads_Swap_c73 s146 s150 s179 fun r212 => next151 (r212, s179))))) (o0.heads, a0)

def push_heads_Pop_df2 (o0 : Push_merger) (Q : (Push_head × Push_merger) → Prop) : Prop :=
  idxP o0.heads (w64 ((o0.heads.length : Int) - 1)) fun x24 => slP o0.heads 0 (w64 ((o0.heads.length : Int) - 1)) fun _ => Q (x24, ({ heads := (o0.heads.take (w64 ((o0.heads.length : Int) - 1)).toNat), r := o0.r, out := o0.out } : Push_merger))

def container_heap_Pop_4c3 (o0 : Push_merger) (Q : (Push_head × Push_merger) → Prop) : Prop :=
  push_heads_Len_66a o0.heads fun r25 => push_heads_Swap_c73 o0.heads 0 (w64 (r25 - 1)) fun r33 => container_heap_down_206 ({ heads := r33, r := o0.r, out := o0.out } : Push_merger) 0 (w64 (r25 - 1)) fun r45 => push_heads_Pop_df2 r45.2 fun r63 => Q (r63.1, r63.2)

def push_merger_next_d58 (o0 : Push_merger) (Q : Push_merger → Prop) : Prop :=
  idxP o0.heads 0 fun x24 => container_heap_Pop_4c3 o0 fun r62 => idxP x24.l 0 fun x89 => slP x24.l 1 (x24.l.length : Int) fun _ => push_merger_put_46e r62.2 ((x24.l.take (x24.l.length : Int).toNat).drop (Int.toNat 1)) x24.which fun r143 => joinP (fun (k217 : Bool → Prop) => ifP (decide (0 < (r143.out.length : Int))) (idxP r143.out (w64 ((r143.out.length : Int) - 1)) fun x222 => k217 (x222.At == x89.At)) (k217 false)) fun s216 => ifP s216 (idxP r143.out (w64 ((r143.out.length : Int) - 1)) fun x234 => ring_Add r143.r x234.Val x89.Val fun r238 => idxP r143.out (w64 ((r143.out.length : Int) - 1)) fun x243 => Q ({ heads := r143.heads, r := r143.r, out := (r143.out.set ((w64 ((r143.out.length : Int) - 1)).toNat) ({ At := x243.At, Val := r238 } : Sum)) } : Push_merger)) (appP 24 r143.out ([x89]) fun _ => Q ({ heads := r143.heads, r := r143.r, out := (r143.out ++ ([x89])) } : Push_merger))

def push_Merge (a0 : Int) (a1 : List (List Sum)) (Q : ((List Sum) × Int) → Prop) : Prop :=
  ring_Is a0 fun r12 => ifP (!r12) (Q (([] : List Sum), 8)) (slices_ContainsFunc_api_Sum_api_Sum_bfd a1 fun r32 => ifP r32 (Q (([] : List Sum), 6)) (loopP (fun (s : (List Push_head) × Int × (List Sum) × Int) (next297 : ((List Push_head) × Int × (List Sum) × Int) → Prop) => match s with | (s285, s289, s290, s294) => ifP (decide (s294 < (a1.length : Int))) (idxP a1 s294 fun x305 => push_merger_put_46e ({ heads := s285, r := s289, out := s290 } : Push_merger) x305 s294 fun r322 => next297 (r322.heads, r322.r, r322.out, w64 (s294 + 1))) (loopP (fun (s : (List Push_head) × Int × (List Sum)) (next421 : ((List Push_head) × Int × (List Sum)) → Prop) => match s with | (s412, s416, s417) => push_heads_Len s412 fun r427 => ifP (decide (0 < r427)) (push_merger_next_d58 ({ heads := s412, r := s416, out := s417 } : Push_merger) fun r438 => next421 (r438.heads, r438.r, r438.out)) (Q (s417, 0))) (s285, s289, s290))) (([] : List Push_head), a0, ([] : List Sum), 0)))

def push_Sums (a0 : Int) (a1 : Columns) (a2 : Vec) (a3 : List Int) (a4 : Bool) (Q : ((List Sum) × Int) → Prop) : Prop :=
  push_sure a1 a2 fun r53 => ring_Is a0 fun r90 => ifP (!r90) (Q (([] : List Sum), 8)) (ifP (r53.2.N != r53.1.Cols) (Q (([] : List Sum), 4)) (loopP (fun (s : (List (List Sum)) × Int) (next226 : ((List (List Sum)) × Int) → Prop) => match s with | (s220, s224) => ifP (decide (s224 < (r53.2.Items.length : Int))) (idxP r53.2.Items s224 fun x245 => dcsc_Column r53.1 x245.At fun r255 => push_column a0 r255 x245.Val a3 a4 fun r267 => appP 24 s220 ([r267]) fun _ => next226 ((s220 ++ ([r267])), w64 (s224 + 1))) (push_Merge a0 s220 fun r290 => Q (r290.1, r290.2))) (([] : List (List Sum)), 0)))

def push_Times (a0 : Int) (a1 : Columns) (a2 : Vec) (a3 : List Int) (a4 : Bool) (Q : (Vec × Int) → Prop) : Prop :=
  push_Sums a0 a1 a2 a3 a4 fun r45 => ifP (r45.2 != 0) (Q (({ N := 0, Items := ([] : List Item) } : Vec), r45.2)) (push_sure a1 a2 fun r81 => pull_Done a0 r81.1.Rows r45.1 fun r104 => Q (r104.1, r104.2))

def law14_live  (Q : Bool → Prop) : Prop :=
  ref07_Of 1 2 2 ([({ Row := 0, Col := 0, Val := 2 } : Triple), ({ Row := 0, Col := 1, Val := 3 } : Triple), ({ Row := 1, Col := 1, Val := 9 } : Triple)] : List Triple) fun r32 => ref08_Of r32.1 fun r73 => push_Times 1 r73 ({ N := 2, Items := ([({ At := 1, Val := 1 } : Item)] : List Item) } : Vec) ([] : List Int) true fun r126 => push_Merge 1 ([([({ At := 1, Val := ({ Hi := 0, Lo := 5 } : Wide) } : Sum)] : List Sum), ([({ At := 1, Val := ({ Hi := 0, Lo := 3 } : Wide) } : Sum)] : List Sum)] : List (List Sum)) fun r186 => push_Merge 1 ([([({ At := 1, Val := ({ Hi := 0, Lo := 0 } : Wide) } : Sum), ({ At := 1, Val := ({ Hi := 0, Lo := 0 } : Wide) } : Sum)] : List Sum)] : List (List Sum)) fun r232 => push_Sums 1 r73 ({ N := 2, Items := ([({ At := 1, Val := 1 } : Item)] : List Item) } : Vec) ([1] : List Int) false fun r266 => ifP (r126.2 == 0) (ifP ((r126.1.Items.length : Int) == 2) (idxP r126.1.Items 0 fun x280 => ifP (x280.Val == 4) (ifP (r186.2 == 0) (ifP ((r186.1.length : Int) == 1) (idxP r186.1 0 fun x292 => ifP (x292.Val == ({ Hi := 0, Lo := 3 } : Wide)) (ifP (r232.2 == 6) (ifP (r266.2 == 0) (ifP ((r266.1.length : Int) == 1) (push_Work r73 ({ N := 2, Items := ([({ At := 1, Val := 1 } : Item)] : List Item) } : Vec) fun r304 => Q (r304 == 2)) (Q false)) (Q false)) (Q false)) (Q false)) (Q false)) (Q false)) (Q false)) (Q false)) (Q false)

def law14_PushMerges (a0 : Int) (a1 : List (List Sum)) (Q : Bool → Prop) : Prop :=
  joinP (fun (k30 : (List (List Sum)) → Prop) => ifP (decide (8 < (a1.length : Int))) (slP a1 0 8 fun _ => k30 ((a1.take (Int.toNat 8)).drop (Int.toNat 0))) (k30 a1)) fun s26 => loopP (fun (s : (List (List Sum)) × Int) (next341 : ((List (List Sum)) × Int) → Prop) => match s with | (s335, s339) => ifP (decide (s339 < (s26.length : Int))) (idxP s26 s339 fun x361 => ifP (decide (30 < (x361.length : Int))) (slP x361 0 30 fun _ => appP 24 s335 ([((x361.take (Int.toNat 30)).drop (Int.toNat 0))]) fun _ => next341 ((s335 ++ ([((x361.take (Int.toNat 30)).drop (Int.toNat 0))])), w64 (s339 + 1))) (appP 24 s335 ([x361]) fun _ => next341 ((s335 ++ ([x361])), w64 (s339 + 1)))) (push_Merge a0 s335 fun r417 => ref14_Merge a0 s335 fun r441 => law14_live  fun r453 => ifP r453 (ref13_SameSums r417.1 r441.1 fun r458 => ifP r458 (Q (r417.2 == r441.2)) (Q false)) (Q false))) (([] : List (List Sum)), 0)
end Go.Proofs.Ytdfiinkpdaggeaa
