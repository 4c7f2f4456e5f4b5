/- Types, and pure functions as the Go text has them (printed by a program of ours). -/
import Derived.Test.YtmidnfbbnmigeaaGreatFwS
import Derived.Test.YtmidnfbbnmigeaaGreatFwZ
namespace Go.Proofs.YtmidnfbbnmigeaaGreat
open Go Go.Fw
set_option linter.unusedVariables false
set_option linter.unusedSimpArgs false
set_option maxRecDepth 8000
set_option maxHeartbeats 1000000
abbrev eI64 : Elem Int := flat 1 (fun x => [.int .i64 x]) (fun _ => ⟨rfl, rfl⟩)
abbrev eU64 : Elem Int := flat 1 (fun x => [.int .u64 x]) (fun _ => ⟨rfl, rfl⟩)
abbrev eU8 : Elem Int := flat 1 (fun x => [.int .u8 x]) (fun _ => ⟨rfl, rfl⟩)
abbrev eI32 : Elem Int := flat 1 (fun x => [.int .i32 x]) (fun _ => ⟨rfl, rfl⟩)
abbrev eB : Elem Bool := flat 1 (fun x => [.bool x]) (fun _ => ⟨rfl, rfl⟩)
structure Item where
  At : Int
  Val : Int
deriving DecidableEq, Inhabited
def encItem (x : Item) : List Value := [.int .i64 x.At, .int .i64 x.Val]
abbrev eItem : Elem Item := flat 2 encItem (fun _ => ⟨rfl, rfl⟩)
structure Vec where
  N : Int
  Items : List Item
deriving DecidableEq, Inhabited
def eVec : Elem Vec where
  sz := 2
  rep I cs x := ∃ a1 c1, cs = [.int .i64 x.N, .slice a1 x.Items.length c1] ∧ RepSl eItem I a1 c1 x.Items
  mono hle := fun ⟨a1, c1, e, h0⟩ => ⟨a1, c1, e, h0.mono hle⟩
  len := fun ⟨a1, c1, e, _⟩ => by rw [e]; rfl
  one := fun ⟨a1, c1, e, _⟩ => by rw [e]; rfl
structure Dense where
  N : Int
  Has : List Int
  Vals : List Int
deriving DecidableEq, Inhabited
def eDense : Elem Dense where
  sz := 3
  rep I cs x := ∃ a1 c1 a2 c2, cs = [.int .i64 x.N, .slice a1 x.Has.length c1, .slice a2 x.Vals.length c2] ∧ RepSl eU64 I a1 c1 x.Has ∧ RepSl eI64 I a2 c2 x.Vals
  mono hle := fun ⟨a1, c1, a2, c2, e, h0, h1⟩ => ⟨a1, c1, a2, c2, e, h0.mono hle, h1.mono hle⟩
  len := fun ⟨a1, c1, a2, c2, e, _, _⟩ => by rw [e]; rfl
  one := fun ⟨a1, c1, a2, c2, e, _, _⟩ => by rw [e]; rfl
structure Held where
  Form : Int
  Vec : Vec
  Dense : Dense
deriving DecidableEq, Inhabited
def eHeld : Elem Held where
  sz := 6
  rep I cs x := ∃ a2 c2 a4 c4 a5 c5, cs = [.int .i64 x.Form, .int .i64 x.Vec.N, .slice a2 x.Vec.Items.length c2, .int .i64 x.Dense.N, .slice a4 x.Dense.Has.length c4, .slice a5 x.Dense.Vals.length c5] ∧ RepSl eItem I a2 c2 x.Vec.Items ∧ RepSl eU64 I a4 c4 x.Dense.Has ∧ RepSl eI64 I a5 c5 x.Dense.Vals
  mono hle := fun ⟨a2, c2, a4, c4, a5, c5, e, h0, h1, h2⟩ => ⟨a2, c2, a4, c4, a5, c5, e, h0.mono hle, h1.mono hle, h2.mono hle⟩
  len := fun ⟨a2, c2, a4, c4, a5, c5, e, _, _, _⟩ => by rw [e]; rfl
  one := fun ⟨a2, c2, a4, c4, a5, c5, e, _, _, _⟩ => by rw [e]; rfl
structure Columns where
  Rows : Int
  Cols : Int
  At : List Int
  Start : List Int
  Row : List Int
  Val : List Int
deriving DecidableEq, Inhabited
def eColumns : Elem Columns where
  sz := 6
  rep I cs x := ∃ a2 c2 a3 c3 a4 c4 a5 c5, cs = [.int .i64 x.Rows, .int .i64 x.Cols, .slice a2 x.At.length c2, .slice a3 x.Start.length c3, .slice a4 x.Row.length c4, .slice a5 x.Val.length c5] ∧ RepSl eI64 I a2 c2 x.At ∧ RepSl eI64 I a3 c3 x.Start ∧ RepSl eI64 I a4 c4 x.Row ∧ RepSl eI64 I a5 c5 x.Val
  mono hle := fun ⟨a2, c2, a3, c3, a4, c4, a5, c5, e, h0, h1, h2, h3⟩ => ⟨a2, c2, a3, c3, a4, c4, a5, c5, e, h0.mono hle, h1.mono hle, h2.mono hle, h3.mono hle⟩
  len := fun ⟨a2, c2, a3, c3, a4, c4, a5, c5, e, _, _, _, _⟩ => by rw [e]; rfl
  one := fun ⟨a2, c2, a3, c3, a4, c4, a5, c5, e, _, _, _, _⟩ => by rw [e]; rfl
structure Rows where
  Rows : Int
  Cols : Int
  Start : List Int
  Col : List Int
  Val : List Int
deriving DecidableEq, Inhabited
def eRows : Elem Rows where
  sz := 5
  rep I cs x := ∃ a2 c2 a3 c3 a4 c4, cs = [.int .i64 x.Rows, .int .i64 x.Cols, .slice a2 x.Start.length c2, .slice a3 x.Col.length c3, .slice a4 x.Val.length c4] ∧ RepSl eI64 I a2 c2 x.Start ∧ RepSl eI64 I a3 c3 x.Col ∧ RepSl eI64 I a4 c4 x.Val
  mono hle := fun ⟨a2, c2, a3, c3, a4, c4, e, h0, h1, h2⟩ => ⟨a2, c2, a3, c3, a4, c4, e, h0.mono hle, h1.mono hle, h2.mono hle⟩
  len := fun ⟨a2, c2, a3, c3, a4, c4, e, _, _, _⟩ => by rw [e]; rfl
  one := fun ⟨a2, c2, a3, c3, a4, c4, e, _, _, _⟩ => by rw [e]; rfl
structure Wide where
  Hi : Int
  Lo : Int
deriving DecidableEq, Inhabited
def encWide (x : Wide) : List Value := [.int .i64 x.Hi, .int .u64 x.Lo]
abbrev eWide : Elem Wide := flat 2 encWide (fun _ => ⟨rfl, rfl⟩)
structure Sum where
  At : Int
  Val : Wide
deriving DecidableEq, Inhabited
def encSum (x : Sum) : List Value := [.int .i64 x.At, .int .i64 x.Val.Hi, .int .u64 x.Val.Lo]
abbrev eSum : Elem Sum := flat 3 encSum (fun _ => ⟨rfl, rfl⟩)
structure Policy_Task where
  Ring : Int
  Rows : Rows
  Cols : Columns
  X : Held
  Set : List Int
  Others : Bool
  Way : Int
deriving DecidableEq, Inhabited
def ePolicy_Task : Elem Policy_Task where
  sz := 21
  rep I cs x := ∃ a3 c3 a4 c4 a5 c5 a8 c8 a9 c9 a10 c10 a11 c11 a14 c14 a16 c16 a17 c17 a18 c18, cs = [.int .i64 x.Ring, .int .i64 x.Rows.Rows, .int .i64 x.Rows.Cols, .slice a3 x.Rows.Start.length c3, .slice a4 x.Rows.Col.length c4, .slice a5 x.Rows.Val.length c5, .int .i64 x.Cols.Rows, .int .i64 x.Cols.Cols, .slice a8 x.Cols.At.length c8, .slice a9 x.Cols.Start.length c9, .slice a10 x.Cols.Row.length c10, .slice a11 x.Cols.Val.length c11, .int .i64 x.X.Form, .int .i64 x.X.Vec.N, .slice a14 x.X.Vec.Items.length c14, .int .i64 x.X.Dense.N, .slice a16 x.X.Dense.Has.length c16, .slice a17 x.X.Dense.Vals.length c17, .slice a18 x.Set.length c18, .bool x.Others, .int .i64 x.Way] ∧ RepSl eI64 I a3 c3 x.Rows.Start ∧ RepSl eI64 I a4 c4 x.Rows.Col ∧ RepSl eI64 I a5 c5 x.Rows.Val ∧ RepSl eI64 I a8 c8 x.Cols.At ∧ RepSl eI64 I a9 c9 x.Cols.Start ∧ RepSl eI64 I a10 c10 x.Cols.Row ∧ RepSl eI64 I a11 c11 x.Cols.Val ∧ RepSl eItem I a14 c14 x.X.Vec.Items ∧ RepSl eU64 I a16 c16 x.X.Dense.Has ∧ RepSl eI64 I a17 c17 x.X.Dense.Vals ∧ RepSl eU64 I a18 c18 x.Set
  mono hle := fun ⟨a3, c3, a4, c4, a5, c5, a8, c8, a9, c9, a10, c10, a11, c11, a14, c14, a16, c16, a17, c17, a18, c18, e, h0, h1, h2, h3, h4, h5, h6, h7, h8, h9, h10⟩ => ⟨a3, c3, a4, c4, a5, c5, a8, c8, a9, c9, a10, c10, a11, c11, a14, c14, a16, c16, a17, c17, a18, c18, e, h0.mono hle, h1.mono hle, h2.mono hle, h3.mono hle, h4.mono hle, h5.mono hle, h6.mono hle, h7.mono hle, h8.mono hle, h9.mono hle, h10.mono hle⟩
  len := fun ⟨a3, c3, a4, c4, a5, c5, a8, c8, a9, c9, a10, c10, a11, c11, a14, c14, a16, c16, a17, c17, a18, c18, e, _, _, _, _, _, _, _, _, _, _, _⟩ => by rw [e]; rfl
  one := fun ⟨a3, c3, a4, c4, a5, c5, a8, c8, a9, c9, a10, c10, a11, c11, a14, c14, a16, c16, a17, c17, a18, c18, e, _, _, _, _, _, _, _, _, _, _, _⟩ => by rw [e]; rfl
structure Triple where
  Row : Int
  Col : Int
  Val : Int
deriving DecidableEq, Inhabited
def encTriple (x : Triple) : List Value := [.int .i64 x.Row, .int .i64 x.Col, .int .i64 x.Val]
abbrev eTriple : Elem Triple := flat 3 encTriple (fun _ => ⟨rfl, rfl⟩)
structure Edge where
  From : Int
  To : Int
  W : Int
deriving DecidableEq, Inhabited
def encEdge (x : Edge) : List Value := [.int .i64 x.From, .int .i64 x.To, .int .i64 x.W]
abbrev eEdge : Elem Edge := flat 3 encEdge (fun _ => ⟨rfl, rfl⟩)
structure Law13_Task where
  Ring : Int
  Size : Int × Int
  L : List Triple
  X : List Item
  Y : List Item
  F : List Int
  Others : Bool
deriving DecidableEq, Inhabited
def eLaw13_Task : Elem Law13_Task where
  sz := 8
  rep I cs x := ∃ a3 c3 a4 c4 a5 c5 a6 c6, cs = [.int .i64 x.Ring, .int .u8 x.Size.1, .int .u8 x.Size.2, .slice a3 x.L.length c3, .slice a4 x.X.length c4, .slice a5 x.Y.length c5, .slice a6 x.F.length c6, .bool x.Others] ∧ RepSl eTriple I a3 c3 x.L ∧ RepSl eItem I a4 c4 x.X ∧ RepSl eItem I a5 c5 x.Y ∧ RepSl eU64 I a6 c6 x.F
  mono hle := fun ⟨a3, c3, a4, c4, a5, c5, a6, c6, e, h0, h1, h2, h3⟩ => ⟨a3, c3, a4, c4, a5, c5, a6, c6, e, h0.mono hle, h1.mono hle, h2.mono hle, h3.mono hle⟩
  len := fun ⟨a3, c3, a4, c4, a5, c5, a6, c6, e, _, _, _, _⟩ => by rw [e]; rfl
  one := fun ⟨a3, c3, a4, c4, a5, c5, a6, c6, e, _, _, _, _⟩ => by rw [e]; rfl
structure Push_head where
  l : List Sum
  which : Int
deriving DecidableEq, Inhabited
def ePush_head : Elem Push_head where
  sz := 2
  rep I cs x := ∃ a0 c0, cs = [.slice a0 x.l.length c0, .int .i64 x.which] ∧ RepSl eSum I a0 c0 x.l
  mono hle := fun ⟨a0, c0, e, h0⟩ => ⟨a0, c0, e, h0.mono hle⟩
  len := fun ⟨a0, c0, e, _⟩ => by rw [e]; rfl
  one := fun ⟨a0, c0, e, _⟩ => by rw [e]; rfl
structure Push_merger where
  heads : List Push_head
  r : Int
  out : List Sum
deriving DecidableEq, Inhabited
def ePush_merger : Elem Push_merger where
  sz := 3
  rep I cs x := ∃ a0 c0 a2 c2, cs = [.slice a0 x.heads.length c0, .int .i64 x.r, .slice a2 x.out.length c2] ∧ RepSl ePush_head I a0 c0 x.heads ∧ RepSl eSum I a2 c2 x.out
  mono hle := fun ⟨a0, c0, a2, c2, e, h0, h1⟩ => ⟨a0, c0, a2, c2, e, h0.mono hle, h1.mono hle⟩
  len := fun ⟨a0, c0, a2, c2, e, _, _⟩ => by rw [e]; rfl
  one := fun ⟨a0, c0, a2, c2, e, _, _⟩ => by rw [e]; rfl

def policy_Direction (a0 : Int) (a1 : Int) (a2 : Int) (Q : Int → Prop) : Prop :=
  ifP (a0 == 1) (Q a0) (ifP (a0 == 2) (Q a0) (ifP (decide ((w64 (a2.tdiv 4)) < a1)) (Q 2) (Q 1)))

def policy_Shape (a0 : Int) (a1 : Int) (a2 : Int) (Q : Int → Prop) : Prop :=
  ifP (a0 == 1) (Q a0) (ifP (a0 == 2) (Q a0) (ifP (decide ((w64 (a2.tdiv 8)) < a1)) (Q 2) (Q 1)))

def spvec_within (a0 : Int) (a1 : Int) (Q : Bool → Prop) : Prop :=
  ifP (decide (0 ≤ a0)) (Q (decide (a0 ≤ a1))) (Q false)

def spvec_Right_1_81a (o0 : Int) (o1 : Vec) (a0 : Item) (Q : (Bool × Int) → Prop) : Prop :=
  ifP (decide (a0.At ≤ o0)) (Q (true, a0.At)) (Q (decide (o1.N ≤ a0.At), a0.At))

def slices_IndexFunc_api_Item_api_Item_a3e (o0 : Int) (o1 : Vec) (a0 : List Item) (Q : (Int × Int) → Prop) : Prop :=
  loopP (fun (s : Int × Int) (next63 : (Int × Int) → Prop) => match s with | (s61, s62) => ifP (decide (s62 < (a0.length : Int))) (idxP a0 s62 fun x70 => spvec_Right_1_81a s61 o1 x70 fun r84 => ifP r84.1 (Q (s62, r84.2)) (next63 (r84.2, w64 (s62 + 1)))) (Q ((-1), s61))) (o0, 0)

def slices_ContainsFunc_api_Item_api_Item_cd0 (o0 : Int) (o1 : Vec) (a0 : List Item) (Q : (Bool × Int) → Prop) : Prop :=
  slices_IndexFunc_api_Item_api_Item_a3e o0 o1 a0 fun r17 => Q (decide (0 ≤ r17.1), r17.2)

def spvec_Right (a0 : Vec) (Q : Bool → Prop) : Prop :=
  spvec_within a0.N 4096 fun r13 => ifP (!r13) (Q false) (slices_ContainsFunc_api_Item_api_Item_cd0 (-1) a0 a0.Items fun r26 => Q (!r26.1))

def slices_Clone_api_Item_api_Item (a0 : List Item) (Q : (List Item) → Prop) : Prop :=
  nilP a0 (Q ([] : List Item)) (appP 16 ([] : List Item) a0 fun _ => Q (([] : List Item) ++ a0))

def flags_words (a0 : Int) (Q : Int → Prop) : Prop :=
  Q (shr .i64 (w64 ((if 4096 < (if 0 > a0 then 0 else a0) then 4096 else (if 0 > a0 then 0 else a0)) + 63)) 6)

def flags_New (a0 : Int) (Q : (List Int) → Prop) : Prop :=
  flags_words a0 fun r4 => mkP 8 r4 0 fun _ => Q (List.replicate r4.toNat 0)

def devec_New (a0 : Int) (Q : Dense → Prop) : Prop :=
  ifP (decide (a0 < 0)) (mkP 8 0 0 fun _ => flags_New 0 fun r15 => Q ({ N := 0, Has := r15, Vals := (List.replicate (Int.toNat 0) (0 : Int)) } : Dense)) (ifP (decide (4096 < a0)) (mkP 8 0 0 fun _ => flags_New 0 fun r36 => Q ({ N := 0, Has := r36, Vals := (List.replicate (Int.toNat 0) (0 : Int)) } : Dense)) (mkP 8 a0 0 fun _ => flags_New a0 fun r56 => Q ({ N := a0, Has := r56, Vals := (List.replicate a0.toNat (0 : Int)) } : Dense)))

def flags_within (a0 : List Int) (a1 : Int) (Q : Bool → Prop) : Prop :=
  ifP (decide (0 ≤ a1)) (Q (decide ((shr .i64 a1 6) < (a0.length : Int)))) (Q false)

def flags_bit (a0 : Int) (Q : Int → Prop) : Prop :=
  nnP (bnd .u64 (IntKind.wrap .u64 (a0)) 63) <| Q (shl .u64 1 (bnd .u64 (IntKind.wrap .u64 (a0)) 63))

def flags_Has (a0 : List Int) (a1 : Int) (Q : Bool → Prop) : Prop :=
  flags_within a0 a1 fun r4 => ifP r4 (idxP a0 (shr .i64 a1 6) fun x10 => flags_bit a1 fun r18 => Q ((bnd .u64 x10 r18) != 0)) (Q false)

def flags_each_555 (a0 : List Int) (Q : (List Int) → Prop) : Prop :=
  Q a0

def flags_each_1_6c7 (o0 : Nat) (o1 : Int) (o2 : Int) (o3 : List Int) (Y : Nat → Int → Int → Int → ((Bool × Nat × Int) → Prop) → Prop) (Q : (Nat × Int) → Prop) : Prop :=
  loopP (fun (s : Int × Int × Nat) (next199 : (Int × Int × Nat) → Prop) => match s with | (s196, s197, s198) => ifP (decide (s197 < (o3.length : Int))) (idxP o3 s197 fun x215 => loopP (fun (s : Int × Int × Int × Nat) (next271 : (Int × Int × Int × Nat) → Prop) => match s with | (s267, s268, s269, s270) => ifP (s268 != 0) (ifP ((bnd .u64 s268 1) == 1) (Y s270 o1 s267 s269 fun r285 => ifP (!r285.1) (Q (r285.2.1, r285.2.2)) (next271 (r285.2.2, shr .u64 s268 1, w64 (s269 + 1), r285.2.1))) (next271 (s267, shr .u64 s268 1, w64 (s269 + 1), s270))) (next199 (s267, w64 (s197 + 1), s270))) (s196, x215, shl .i64 s197 6, s198)) (Q (s198, s196))) (o2, 0, o0)

def flags_Next (a0 : List Int) (a1 : Int) (Q : Int → Prop) : Prop :=
  flags_each_555 a0 fun r31 => flags_each_1_6c7 0 a1 0 r31 (fun (y53 : Nat) (y54 : Int) (y56 : Int) (x58 : Int) (Qy : (Bool × Nat × Int) → Prop) => eqP y53 0 (ifP (decide (y54 ≤ x58)) (Qy (false, 1, x58)) (Qy (true, 0, y56)))) fun r64 => ifP (decide (r64.1 = 0)) (Q (-1)) (eqP r64.1 1 (Q r64.2))

def flags_Right (a0 : List Int) (a1 : Int) (Q : Bool → Prop) : Prop :=
  ifP (decide (0 ≤ a1)) (ifP (decide (a1 ≤ 4096)) (flags_words a1 fun r6 => ifP ((a0.length : Int) == r6) (flags_Next a0 a1 fun r11 => Q (decide (r11 < 0))) (Q false)) (Q false)) (Q false)

def devec_Right (a0 : Dense) (Q : Bool → Prop) : Prop :=
  flags_Right a0.Has a0.N fun r17 => ifP (!r17) (Q false) (ifP ((a0.Vals.length : Int) != a0.N) (Q false) (loopP (fun (s78 : Int) (next79 : Int → Prop) => ifP (decide (s78 < (a0.Vals.length : Int))) (idxP a0.Vals s78 fun x95 => ifP (x95 != 0) (flags_Has a0.Has s78 fun r104 => ifP (!r104) (Q false) (next79 (w64 (s78 + 1)))) (next79 (w64 (s78 + 1)))) (Q true)) 0))

def devec_sure (a0 : Dense) (Q : Dense → Prop) : Prop :=
  devec_Right a0 fun r21 => ifP r21 (Q a0) (devec_New 0 fun r26 => Q r26)

def devec_all_319 (a0 : Dense) (Q : Dense → Prop) : Prop :=
  Q a0

def devec_all_1_7f1 (o0 : Nat) (o1 : Vec) (o2 : Dense) (Y : Nat → Vec → Int → Int → ((Bool × Nat × Vec) → Prop) → Prop) (Q : (Nat × Vec) → Prop) : Prop :=
  flags_Next o2.Has 0 fun r29 => loopP (fun (s : Int × (List Item) × Int × Nat) (next123 : (Int × (List Item) × Int × Nat) → Prop) => match s with | (s116, s117, s121, s122) => ifP (decide (0 ≤ s121)) (idxP o2.Vals s121 fun x130 => Y s122 ({ N := s116, Items := s117 } : Vec) s121 x130 fun r144 => ifP (!r144.1) (Q (r144.2.1, r144.2.2)) (flags_Next o2.Has (w64 (s121 + 1)) fun r154 => next123 (r144.2.2.N, r144.2.2.Items, r154, r144.2.1))) (Q (s122, ({ N := s116, Items := s117 } : Vec)))) (o1.N, o1.Items, r29, o0)

def devec_Back (a0 : Dense) (Q : Vec → Prop) : Prop :=
  devec_sure a0 fun r32 => devec_all_319 r32 fun r72 => devec_all_1_7f1 0 ({ N := r32.N, Items := ([] : List Item) } : Vec) r72 (fun (y114 : Nat) (y115 : Vec) (x121 : Int) (x122 : Int) (Qy : (Bool × Nat × Vec) → Prop) => eqP y114 0 (appP 16 y115.Items ([({ At := x121, Val := x122 } : Item)]) fun _ => Qy (true, 0, ({ N := y115.N, Items := (y115.Items ++ ([({ At := x121, Val := x122 } : Item)])) } : Vec)))) fun r133 => eqP r133.1 0 (Q r133.2)

def policy_Vec (a0 : Held) (Q : Vec → Prop) : Prop :=
  ifP (a0.Form == 2) (devec_Back a0.Dense fun r22 => Q r22) (joinP (fun (k44 : Bool → Prop) => ifP (a0.Form == 1) (spvec_Right a0.Vec fun r46 => k44 r46) (k44 false)) fun s43 => ifP s43 (slices_Clone_api_Item_api_Item a0.Vec.Items fun r54 => Q ({ N := a0.Vec.N, Items := r54 } : Vec)) (Q ({ N := 0, Items := ([] : List Item) } : Vec)))

def dcsc_none  (Q : Columns → Prop) : Prop :=
  Q ({ Rows := 0, Cols := 0, At := ([] : List Int), Start := ([0] : List Int), Row := ([] : List Int), Val := ([] : List Int) } : Columns)

def dcsc_within (a0 : Int) (a1 : Int) (Q : Bool → Prop) : Prop :=
  ifP (decide (0 ≤ a0)) (Q (decide (a0 ≤ a1))) (Q false)

def dcsc_rising (a0 : List Int) (a1 : Int) (Q : Bool → Prop) : Prop :=
  loopP (fun (s68 : Int) (next69 : Int → Prop) => ifP (decide (s68 < (a0.length : Int))) (idxP a0 s68 fun x85 => dcsc_within x85 (w64 (a1 - 1)) fun r93 => ifP (!r93) (Q false) (ifP (decide (0 < s68)) (idxP a0 (w64 (s68 - 1)) fun x100 => ifP (decide (x85 ≤ x100)) (Q false) (next69 (w64 (s68 + 1)))) (next69 (w64 (s68 + 1))))) (Q true)) 0

def dcsc_Right (a0 : Columns) (Q : Bool → Prop) : Prop :=
  dcsc_within a0.Rows 4096 fun r30 => ifP (!r30) (Q false) (dcsc_within a0.Cols 4096 fun r35 => ifP (!r35) (Q false) (ifP ((a0.Start.length : Int) != (w64 ((a0.At.length : Int) + 1))) (Q false) (ifP ((a0.Val.length : Int) != (a0.Row.length : Int)) (Q false) (ifP (decide (65536 < (a0.Row.length : Int))) (Q false) (dcsc_rising a0.At a0.Cols fun r73 => ifP (!r73) (Q false) (dcsc_rising a0.Start (w64 ((a0.Row.length : Int) + 1)) fun r78 => ifP (!r78) (Q false) (idxP a0.Start 0 fun x84 => ifP (x84 != 0) (Q false) (idxP a0.Start (a0.At.length : Int) fun x94 => ifP (x94 != (a0.Row.length : Int)) (Q false) (loopP (fun (s176 : Int) (next177 : Int → Prop) => ifP (decide (s176 < (a0.At.length : Int))) (idxP a0.Start s176 fun x184 => idxP a0.Start (w64 (s176 + 1)) fun x193 => slP a0.Row x184 x193 fun _ => dcsc_rising ((a0.Row.take x193.toNat).drop x184.toNat) a0.Rows fun r211 => ifP (!r211) (Q false) (next177 (w64 (s176 + 1)))) (Q true)) 0)))))))))

def dcsc_sure (a0 : Columns) (Q : Columns → Prop) : Prop :=
  dcsc_Right a0 fun r33 => ifP r33 (Q a0) (dcsc_none  fun r38 => Q r38)

def dcsc_place (a0 : Columns) (a1 : Int) (Q : Int → Prop) : Prop :=
  joinP (fun (k229 : (Int × Int) → Prop) => loopP (fun (s : Int × Int) (next300 : (Int × Int) → Prop) => match s with | (s298, s299) => ifP (decide (s298 < s299)) (idxP a0.At (w64 (s298 + (w64 ((w64 (s299 - s298)).tdiv 2)))) fun x316 => ifP (x316 == a1) (k229 (w64 (s298 + (w64 ((w64 (s299 - s298)).tdiv 2))), s299)) (idxP a0.At (w64 (s298 + (w64 ((w64 (s299 - s298)).tdiv 2)))) fun x326 => ifP (decide (x326 < a1)) (next300 (w64 ((w64 (s298 + (w64 ((w64 (s299 - s298)).tdiv 2)))) + 1), s299)) (next300 (s298, w64 (s298 + (w64 ((w64 (s299 - s298)).tdiv 2))))))) (k229 (s298, s299))) (0, (a0.At.length : Int))) fun (s227, s228) => ifP (decide (s227 < s228)) (Q s227) (Q (-1))

def dcsc_Work (a0 : Columns) (a1 : List Int) (Q : Int → Prop) : Prop :=
  dcsc_sure a0 fun r40 => loopP (fun (s : Int × Int) (next162 : (Int × Int) → Prop) => match s with | (s160, s161) => ifP (decide (s161 < (a1.length : Int))) (idxP a1 s161 fun x179 => dcsc_place r40 x179 fun r191 => ifP (decide (0 ≤ r191)) (idxP r40.Start (w64 (r191 + 1)) fun x197 => idxP r40.Start r191 fun x206 => next162 (w64 (s160 + (w64 (x197 - x206))), w64 (s161 + 1))) (next162 (s160, w64 (s161 + 1)))) (Q s160)) (0, 0)

def spvec_sure (a0 : Vec) (Q : Vec → Prop) : Prop :=
  spvec_Right a0 fun r15 => ifP r15 (Q a0) (Q ({ N := 0, Items := ([] : List Item) } : Vec))

def spvec_Places (a0 : Vec) (Q : (List Int) → Prop) : Prop :=
  spvec_sure a0 fun r22 => loopP (fun (s : (List Int) × Int) (next93 : ((List Int) × Int) → Prop) => match s with | (s87, s91) => ifP (decide (s91 < (r22.Items.length : Int))) (idxP r22.Items s91 fun x101 => appP 8 s87 ([x101.At]) fun _ => next93 ((s87 ++ ([x101.At])), w64 (s91 + 1))) (Q s87)) (([] : List Int), 0)

def push_Work (a0 : Columns) (a1 : Vec) (Q : Int → Prop) : Prop :=
  spvec_Places a1 fun r20 => dcsc_Work a0 r20 fun r31 => Q r31

def csr_within (a0 : Int) (a1 : Int) (Q : Bool → Prop) : Prop :=
  ifP (decide (0 ≤ a0)) (Q (decide (a0 ≤ a1))) (Q false)

def cmp_isNaN_int (a0 : Int) (Q : Bool → Prop) : Prop :=
  Q (a0 != a0)

def cmp_Less_int (a0 : Int) (a1 : Int) (Q : Bool → Prop) : Prop :=
  cmp_isNaN_int a0 fun r1 => ifP r1 (cmp_isNaN_int a1 fun r6 => ifP (!r6) (Q true) (Q (decide (a0 < a1)))) (Q (decide (a0 < a1)))

def slices_IsSorted_int_int (a0 : List Int) (Q : Bool → Prop) : Prop :=
  loopP (fun (s57 : Int) (next58 : Int → Prop) => ifP (decide (0 < s57)) (idxP a0 s57 fun x65 => idxP a0 (w64 (s57 - 1)) fun x74 => cmp_Less_int x65 x74 fun r82 => ifP r82 (Q false) (next58 (w64 (s57 - 1)))) (Q true)) (w64 ((a0.length : Int) - 1))

def csr_row (a0 : List Int) (a1 : Int) (Q : Bool → Prop) : Prop :=
  loopP (fun (s68 : Int) (next69 : Int → Prop) => ifP (decide (s68 < (a0.length : Int))) (idxP a0 s68 fun x85 => csr_within x85 (w64 (a1 - 1)) fun r93 => ifP (!r93) (Q false) (ifP (decide (0 < s68)) (idxP a0 (w64 (s68 - 1)) fun x100 => ifP (decide (x85 ≤ x100)) (Q false) (next69 (w64 (s68 + 1)))) (next69 (w64 (s68 + 1))))) (Q true)) 0

def csr_Right (a0 : Rows) (Q : Bool → Prop) : Prop :=
  csr_within a0.Rows 4096 fun r27 => ifP (!r27) (Q false) (csr_within a0.Cols 4096 fun r32 => ifP (!r32) (Q false) (ifP ((a0.Start.length : Int) != (w64 (a0.Rows + 1))) (Q false) (ifP ((a0.Val.length : Int) != (a0.Col.length : Int)) (Q false) (ifP (decide (65536 < (a0.Col.length : Int))) (Q false) (idxP a0.Start 0 fun x66 => ifP (x66 != 0) (Q false) (idxP a0.Start a0.Rows fun x76 => ifP (x76 != (a0.Col.length : Int)) (Q false) (slices_IsSorted_int_int a0.Start fun r85 => ifP (!r85) (Q false) (loopP (fun (s163 : Int) (next164 : Int → Prop) => ifP (decide (s163 < a0.Rows)) (idxP a0.Start s163 fun x171 => idxP a0.Start (w64 (s163 + 1)) fun x180 => slP a0.Col x171 x180 fun _ => csr_row ((a0.Col.take x180.toNat).drop x171.toNat) a0.Cols fun r198 => ifP (!r198) (Q false) (next164 (w64 (s163 + 1)))) (Q true)) 0))))))))

def csr_empty (a0 : Int) (a1 : Int) (Q : Rows → Prop) : Prop :=
  mkP 8 (w64 (a0 + 1)) 0 fun _ => Q ({ Rows := a0, Cols := a1, Start := (List.replicate (w64 (a0 + 1)).toNat 0), Col := ([] : List Int), Val := ([] : List Int) } : Rows)

def csr_sure (a0 : Rows) (Q : Rows → Prop) : Prop :=
  csr_Right a0 fun r27 => ifP r27 (Q a0) (csr_empty 0 0 fun r32 => Q r32)

def csr_Count (a0 : Rows) (Q : Int → Prop) : Prop :=
  csr_sure a0 fun r12 => Q (r12.Col.length : Int)

def ref07_Empty (a0 : Int) (a1 : Int) (Q : Rows → Prop) : Prop :=
  mkP 8 (w64 (a0 + 1)) 0 fun _ => Q ({ Rows := a0, Cols := a1, Start := (List.replicate (w64 (a0 + 1)).toNat 0), Col := ([] : List Int), Val := ([] : List Int) } : Rows)

def ref07_Right (a0 : Rows) (Q : Bool → Prop) : Prop :=
  ifP (decide (a0.Rows < 0)) (Q false) (ifP (decide (4096 < a0.Rows)) (Q false) (ifP (decide (a0.Cols < 0)) (Q false) (ifP (decide (4096 < a0.Cols)) (Q false) (ifP ((a0.Start.length : Int) != (w64 (a0.Rows + 1))) (Q false) (ifP ((a0.Col.length : Int) != (a0.Val.length : Int)) (Q false) (ifP (decide (65536 < (a0.Col.length : Int))) (Q false) (idxP a0.Start 0 fun x49 => ifP (x49 != 0) (Q false) (idxP a0.Start a0.Rows fun x59 => ifP (x59 != (a0.Col.length : Int)) (Q false) (loopP (fun (s697 : Int) (next698 : Int → Prop) => ifP (decide (s697 < a0.Rows)) (idxP a0.Start s697 fun x744 => idxP a0.Start (w64 (s697 + 1)) fun x753 => ifP (decide (x753 < x744)) (Q false) (idxP a0.Start s697 fun x763 => ifP (decide (x763 < 0)) (Q false) (idxP a0.Start (w64 (s697 + 1)) fun x773 => ifP (decide ((a0.Col.length : Int) < x773)) (Q false) (idxP a0.Start s697 fun x792 => loopP (fun (s941 : Int) (next942 : Int → Prop) => idxP a0.Start (w64 (s697 + 1)) fun x958 => ifP (decide (s941 < x958)) (idxP a0.Col s941 fun x968 => ifP (decide (x968 < 0)) (Q false) (idxP a0.Col s941 fun x978 => ifP (decide (a0.Cols ≤ x978)) (Q false) (idxP a0.Start s697 fun x988 => ifP (decide (x988 < s941)) (idxP a0.Col s941 fun x998 => idxP a0.Col (w64 (s941 - 1)) fun x1007 => ifP (decide (x998 ≤ x1007)) (Q false) (next942 (w64 (s941 + 1)))) (next942 (w64 (s941 + 1)))))) (next698 (w64 (s697 + 1)))) x792)))) (Q true)) 0)))))))))

def ref07_Sure (a0 : Rows) (Q : Rows → Prop) : Prop :=
  ref07_Right a0 fun r27 => ifP r27 (Q a0) (ref07_Empty 0 0 fun r32 => Q r32)

def ref07_built (a0 : Int) (a1 : Int) (a2 : List Triple) (Q : Rows → Prop) : Prop :=
  ref07_Empty a0 a1 fun r39 => loopP (fun (s : (List Int) × (List Int) × (List Int) × Int) (next407 : ((List Int) × (List Int) × (List Int) × Int) → Prop) => match s with | (s394, s398, s402, s406) => ifP (decide (s406 < (a2.length : Int))) (idxP a2 s406 fun x436 => appP 8 s398 ([x436.Col]) fun _ => idxP a2 s406 fun x472 => appP 8 s402 ([x472.Val]) fun _ => idxP a2 s406 fun x496 => loopP (fun (s : (List Int) × Int) (next544 : ((List Int) × Int) → Prop) => match s with | (s539, s543) => ifP (decide (s543 ≤ a0)) (idxP s539 s543 fun x553 => idxP s539 s543 fun x558 => next544 ((s539.set s543.toNat (w64 (x553 + 1))), w64 (s543 + 1))) (next407 (s539, (s398 ++ ([x436.Col])), (s402 ++ ([x472.Val])), w64 (s406 + 1)))) (s394, w64 (x496.Row + 1))) (Q ({ Rows := r39.Rows, Cols := r39.Cols, Start := s394, Col := s398, Val := s402 } : Rows))) (r39.Start, r39.Col, r39.Val, 0)

def ref07_Triples (a0 : Rows) (Q : (List Triple) → Prop) : Prop :=
  ref07_Sure a0 fun r34 => loopP (fun (s : (List Triple) × Int) (next433 : ((List Triple) × Int) → Prop) => match s with | (s427, s431) => ifP (decide (s431 < r34.Rows)) (idxP r34.Start s431 fun x450 => loopP (fun (s : (List Triple) × Int) (next568 : ((List Triple) × Int) → Prop) => match s with | (s563, s567) => idxP r34.Start (w64 (s431 + 1)) fun x585 => ifP (decide (s567 < x585)) (idxP r34.Col s567 fun x596 => idxP r34.Val s567 fun x605 => appP 24 s563 ([({ Row := s431, Col := x596, Val := x605 } : Triple)]) fun _ => next568 ((s563 ++ ([({ Row := s431, Col := x596, Val := x605 } : Triple)])), w64 (s567 + 1))) (next433 (s563, w64 (s431 + 1)))) (s427, x450)) (Q s427)) (([] : List Triple), 0)

def ref07_Turn (a0 : Rows) (Q : Rows → Prop) : Prop :=
  ref07_Sure a0 fun r44 => ref07_Triples r44 fun r72 => loopP (fun (s : (List Triple) × Int) (next435 : ((List Triple) × Int) → Prop) => match s with | (s429, s433) => ifP (decide (s433 < r44.Cols)) (loopP (fun (s : (List Triple) × Int) (next554 : ((List Triple) × Int) → Prop) => match s with | (s549, s553) => ifP (decide (s553 < (r72.length : Int))) (idxP r72 s553 fun x572 => ifP (x572.Col == s433) (idxP r72 s553 fun x583 => idxP r72 s553 fun x592 => appP 24 s549 ([({ Row := s433, Col := x583.Row, Val := x592.Val } : Triple)]) fun _ => next554 ((s549 ++ ([({ Row := s433, Col := x583.Row, Val := x592.Val } : Triple)])), w64 (s553 + 1))) (next554 (s549, w64 (s553 + 1)))) (next435 (s549, w64 (s433 + 1)))) (s429, 0)) (ref07_built r44.Cols r44.Rows s429 fun r611 => Q r611)) (([] : List Triple), 0)

def ref07_Row (a0 : Rows) (a1 : Int) (Q : (List Item) → Prop) : Prop :=
  ref07_Sure a0 fun r34 => ifP (decide (a1 < 0)) (Q ([] : List Item)) (ifP (decide (r34.Rows ≤ a1)) (Q ([] : List Item)) (idxP r34.Start a1 fun x65 => loopP (fun (s : (List Item) × Int) (next184 : ((List Item) × Int) → Prop) => match s with | (s178, s182) => idxP r34.Start (w64 (a1 + 1)) fun x200 => ifP (decide (s182 < x200)) (idxP r34.Col s182 fun x211 => idxP r34.Val s182 fun x220 => appP 16 s178 ([({ At := x211, Val := x220 } : Item)]) fun _ => next184 ((s178 ++ ([({ At := x211, Val := x220 } : Item)])), w64 (s182 + 1))) (Q s178)) (([] : List Item), x65)))

def ref08_Of (a0 : Rows) (Q : Columns → Prop) : Prop :=
  ref07_Turn a0 fun r49 => loopP (fun (s : (List Int) × (List Int) × (List Int) × (List Int) × Int) (next672 : ((List Int) × (List Int) × (List Int) × (List Int) × Int) → Prop) => match s with | (s652, s656, s660, s664, s668) => ifP (decide (s668 < r49.Rows)) (ref07_Row r49 s668 fun r691 => ifP ((r691.length : Int) == 0) (next672 (s652, s656, s660, s664, w64 (s668 + 1))) (appP 8 s652 ([s668]) fun _ => loopP (fun (s : (List Int) × (List Int) × Int) (next871 : ((List Int) × (List Int) × Int) → Prop) => match s with | (s862, s866, s870) => ifP (decide (s870 < (r691.length : Int))) (idxP r691 s870 fun x903 => appP 8 s862 ([x903.At]) fun _ => idxP r691 s870 fun x922 => appP 8 s866 ([x922.Val]) fun _ => next871 ((s862 ++ ([x903.At])), (s866 ++ ([x922.Val])), w64 (s870 + 1))) (appP 8 s656 ([(s862.length : Int)]) fun _ => next672 ((s652 ++ ([s668])), (s656 ++ ([(s862.length : Int)])), s862, s866, w64 (s668 + 1)))) (s660, s664, 0))) (Q ({ Rows := r49.Cols, Cols := r49.Rows, At := s652, Start := s656, Row := s660, Val := s664 } : Columns))) (([] : List Int), ([0] : List Int), ([] : List Int), ([] : List Int), 0)

def flags_Of (a0 : Int) (a1 : List Int) (Q : (List Int) → Prop) : Prop :=
  flags_New a0 fun r19 => loopP (fun (s : (List Int) × Int) (next161 : ((List Int) × Int) → Prop) => match s with | (s156, s160) => ifP (decide (s160 < (a1.length : Int))) (idxP a1 s160 fun x178 => joinP (fun (k197 : Bool → Prop) => ifP (decide (x178 < a0)) (flags_within s156 x178 fun r199 => k197 r199) (k197 false)) fun s196 => ifP s196 (idxP s156 (shr .i64 x178 6) fun x211 => flags_bit x178 fun r215 => idxP s156 (shr .i64 x178 6) fun x220 => next161 ((s156.set ((shr .i64 x178 6).toNat) (bor .u64 x211 r215)), w64 (s160 + 1))) (next161 (s156, w64 (s160 + 1)))) (Q s156)) (r19, 0)

def devec_Of (a0 : Vec) (Q : Dense → Prop) : Prop :=
  spvec_Right a0 fun r38 => ifP (!r38) (devec_New 0 fun r43 => Q r43) (devec_New a0.N fun r79 => loopP (fun (s : (List Int) × Int) (next231 : ((List Int) × Int) → Prop) => match s with | (s226, s230) => ifP (decide (s230 < (a0.Items.length : Int))) (idxP a0.Items s230 fun x239 => idxP s226 x239.At fun x250 => next231 ((s226.set x239.At.toNat x239.Val), w64 (s230 + 1))) (spvec_Places a0 fun r254 => flags_Of a0.N r254 fun r266 => Q ({ N := r79.N, Has := r266, Vals := s226 } : Dense))) (r79.Vals, 0))

def policy_Hold (a0 : Int) (a1 : Vec) (Q : Held → Prop) : Prop :=
  joinP (fun (k36 : (Int × (List Item)) → Prop) => spvec_Right a1 fun r37 => ifP (!r37) (k36 (0, ([] : List Item))) (k36 (a1.N, a1.Items))) fun (s31, s32) => policy_Shape a0 (s32.length : Int) s31 fun r45 => ifP (r45 == 2) (devec_Of ({ N := s31, Items := s32 } : Vec) fun r50 => Q ({ Form := 2, Vec := ({ N := 0, Items := ([] : List Item) } : Vec), Dense := r50 } : Held)) (slices_Clone_api_Item_api_Item s32 fun r64 => Q ({ Form := 1, Vec := ({ N := s31, Items := r64 } : Vec), Dense := ({ N := 0, Has := ([] : List Int), Vals := ([] : List Int) } : Dense) } : Held))

def ref07_SameItems (a0 : List Item) (a1 : List Item) (Q : Bool → Prop) : Prop :=
  ifP ((a0.length : Int) != (a1.length : Int)) (Q false) (loopP (fun (s54 : Int) (next55 : Int → Prop) => ifP (decide (s54 < (a0.length : Int))) (idxP a0 s54 fun x62 => idxP a1 s54 fun x71 => ifP (!(x62 == x71)) (Q false) (next55 (w64 (s54 + 1)))) (Q true)) 0)

def ref09_Same (a0 : Vec) (a1 : Vec) (Q : Bool → Prop) : Prop :=
  ifP (a0.N == a1.N) (ref07_SameItems a0.Items a1.Items fun r16 => Q r16) (Q false)

def policy_Dense (a0 : Held) (Q : Dense → Prop) : Prop :=
  policy_Vec a0 fun r20 => devec_Of r20 fun r31 => Q r31

def policy_Size (a0 : Held) (Q : Int → Prop) : Prop :=
  policy_Vec a0 fun r27 => ifP (a0.Form == 1) (Q (r27.Items.length : Int)) (Q r27.N)

def ref02_Is (a0 : Int) (Q : Bool → Prop) : Prop :=
  ifP (decide (1 ≤ a0)) (Q (decide (a0 ≤ 5))) (Q false)

def ref01_Add (a0 : Wide) (a1 : Wide) (Q : Wide → Prop) : Prop :=
  ifP (decide ((IntKind.wrap .u64 (a0.Lo + a1.Lo)) < a0.Lo)) (Q ({ Hi := w64 ((w64 (a0.Hi + a1.Hi)) + 1), Lo := IntKind.wrap .u64 (a0.Lo + a1.Lo) } : Wide)) (Q ({ Hi := w64 (a0.Hi + a1.Hi), Lo := IntKind.wrap .u64 (a0.Lo + a1.Lo) } : Wide))

def ref01_Compare (a0 : Wide) (a1 : Wide) (Q : Int → Prop) : Prop :=
  joinP (fun (k15 : Unit → Prop) => ifP (decide (a0.Hi < a1.Hi)) (Q (-1)) (ifP (a0.Hi == a1.Hi) (ifP (decide (a0.Lo < a1.Lo)) (Q (-1)) (k15 ())) (k15 ()))) fun _ => ifP (a0 == a1) (Q 0) (Q 1)

def ref02_truth (a0 : Bool) (Q : Wide → Prop) : Prop :=
  ifP a0 (Q ({ Hi := 0, Lo := 1 } : Wide)) (Q ({ Hi := 0, Lo := 0 } : Wide))

def ref02_Add (a0 : Int) (a1 : Wide) (a2 : Wide) (Q : Wide → Prop) : Prop :=
  joinP (fun (k18 : Bool → Prop) => ifP (a0 == 1) (k18 (a0 == 1)) (ifP (a0 == 3) (k18 (a0 == 3)) (k18 (a0 == 4)))) fun s17 => ifP s17 (ref01_Compare a2 a1 fun r25 => ifP (decide (r25 < 0)) (Q a2) (Q a1)) (ifP (a0 == 2) (ifP (!(a1 == ({ Hi := 0, Lo := 0 } : Wide))) (ref02_truth true fun r32 => Q r32) (ref02_truth (!(a2 == ({ Hi := 0, Lo := 0 } : Wide))) fun r36 => Q r36)) (ifP (a0 == 5) (ref01_Add a1 a2 fun r41 => Q r41) (Q ({ Hi := 0, Lo := 0 } : Wide))))

def ref01_Of (a0 : Int) (Q : Wide → Prop) : Prop :=
  ifP (decide (a0 < 0)) (Q ({ Hi := (-1), Lo := IntKind.wrap .u64 (a0) } : Wide)) (Q ({ Hi := 0, Lo := IntKind.wrap .u64 (a0) } : Wide))

def ref05_below (a0 : Edge) (a1 : Edge) (Q : Bool → Prop) : Prop :=
  ifP (decide (a0.From < a1.From)) (Q true) (ifP (a0.From == a1.From) (Q (decide (a0.To < a1.To))) (Q false))

def ref01_Narrow (a0 : Wide) (Q : (Int × Bool) → Prop) : Prop :=
  ifP (a0.Hi == 0) (ifP (decide (0 ≤ (w64 (a0.Lo)))) (Q (w64 (a0.Lo), true)) (ifP (a0.Hi == (-1)) (ifP (decide ((w64 (a0.Lo)) < 0)) (Q (w64 (a0.Lo), true)) (Q (0, false))) (Q (0, false)))) (ifP (a0.Hi == (-1)) (ifP (decide ((w64 (a0.Lo)) < 0)) (Q (w64 (a0.Lo), true)) (Q (0, false))) (Q (0, false)))

def ref05_Combine (a0 : Int) (a1 : List Edge) (Q : ((List Edge) × Int) → Prop) : Prop :=
  ref02_Is a0 fun r12 => ifP (!r12) (Q (([] : List Edge), 8)) (loopP (fun (s : (List Edge) × (List Wide) × Int) (next2700 : ((List Edge) × (List Wide) × Int) → Prop) => match s with | (s2689, s2693, s2697) => ifP (decide (s2697 < (a1.length : Int))) (joinP (fun (k2857 : Int → Prop) => loopP (fun (s2905 : Int) (next2906 : Int → Prop) => ifP (decide (s2905 < (s2689.length : Int))) (idxP s2689 s2905 fun x2915 => idxP a1 s2697 fun x2920 => ref05_below x2915 x2920 fun r2928 => ifP r2928 (next2906 (w64 (s2905 + 1))) (k2857 s2905)) (k2857 s2905)) 0) fun s2856 => idxP a1 s2697 fun x2953 => ref01_Of x2953.W fun r2961 => joinP (fun (k3095 : Bool → Prop) => ifP (decide (s2856 < (s2689.length : Int))) (idxP a1 s2697 fun x3100 => idxP s2689 s2856 fun x3109 => ref05_below x3100 x3109 fun r3113 => k3095 (!r3113)) (k3095 false)) fun s3094 => ifP s3094 (idxP s2693 s2856 fun x3126 => ref02_Add a0 x3126 r2961 fun r3130 => idxP s2693 s2856 fun x3135 => next2700 (s2689, (s2693.set s2856.toNat r3130), w64 (s2697 + 1))) (appP 24 s2689 ([({ From := 0, To := 0, W := 0 } : Edge)]) fun _ => appP 16 s2693 ([({ Hi := 0, Lo := 0 } : Wide)]) fun _ => loopP (fun (s : (List Edge) × (List Wide) × Int) (next3330 : ((List Edge) × (List Wide) × Int) → Prop) => match s with | (s3321, s3325, s3329) => ifP (decide (s2856 < s3329)) (idxP s3321 (w64 (s3329 - 1)) fun x3340 => idxP s3321 s3329 fun x3345 => idxP s3325 (w64 (s3329 - 1)) fun x3348 => idxP s3325 s3329 fun x3353 => next3330 ((s3321.set s3329.toNat x3340), (s3325.set s3329.toNat x3348), w64 (s3329 - 1))) (idxP a1 s2697 fun x3358 => idxP a1 s2697 fun x3367 => idxP s3321 s2856 fun x3376 => idxP s3325 s2856 fun x3381 => next2700 ((s3321.set s2856.toNat ({ From := x3358.From, To := x3367.To, W := 0 } : Edge)), (s3325.set s2856.toNat r2961), w64 (s2697 + 1)))) ((s2689 ++ ([({ From := 0, To := 0, W := 0 } : Edge)])), (s2693 ++ ([({ Hi := 0, Lo := 0 } : Wide)])), w64 (((s2689 ++ ([({ From := 0, To := 0, W := 0 } : Edge)])).length : Int) - 1)))) (loopP (fun (s : (List Edge) × Int) (next3457 : ((List Edge) × Int) → Prop) => match s with | (s3452, s3456) => ifP (decide (s3456 < (s3452.length : Int))) (idxP s2693 s3456 fun x3474 => ref01_Narrow x3474 fun r3478 => ifP (!r3478.2) (Q (([] : List Edge), 12)) (idxP s3452 s3456 fun x3484 => next3457 ((s3452.set s3456.toNat ({ From := x3484.From, To := x3484.To, W := r3478.1 } : Edge)), w64 (s3456 + 1)))) (Q (s3452, 0))) (s2689, 0))) (([] : List Edge), ([] : List Wide), 0))

def ref07_Of (a0 : Int) (a1 : Int) (a2 : Int) (a3 : List Triple) (Q : (Rows × Int) → Prop) : Prop :=
  ref02_Is a0 fun r22 => ifP (!r22) (Q (({ Rows := 0, Cols := 0, Start := ([] : List Int), Col := ([] : List Int), Val := ([] : List Int) } : Rows), 8)) (ifP (decide (a1 < 0)) (Q (({ Rows := 0, Cols := 0, Start := ([] : List Int), Col := ([] : List Int), Val := ([] : List Int) } : Rows), 3)) (ifP (decide (4096 < a1)) (Q (({ Rows := 0, Cols := 0, Start := ([] : List Int), Col := ([] : List Int), Val := ([] : List Int) } : Rows), 3)) (ifP (decide (a2 < 0)) (Q (({ Rows := 0, Cols := 0, Start := ([] : List Int), Col := ([] : List Int), Val := ([] : List Int) } : Rows), 3)) (ifP (decide (4096 < a2)) (Q (({ Rows := 0, Cols := 0, Start := ([] : List Int), Col := ([] : List Int), Val := ([] : List Int) } : Rows), 3)) (ifP (decide (65536 < (a3.length : Int))) (Q (({ Rows := 0, Cols := 0, Start := ([] : List Int), Col := ([] : List Int), Val := ([] : List Int) } : Rows), 5)) (loopP (fun (s : (List Edge) × Int) (next663 : ((List Edge) × Int) → Prop) => match s with | (s657, s661) => ifP (decide (s661 < (a3.length : Int))) (idxP a3 s661 fun x710 => ifP (decide (x710.Row < 0)) (Q (({ Rows := 0, Cols := 0, Start := ([] : List Int), Col := ([] : List Int), Val := ([] : List Int) } : Rows), 3)) (idxP a3 s661 fun x720 => ifP (decide (a1 ≤ x720.Row)) (Q (({ Rows := 0, Cols := 0, Start := ([] : List Int), Col := ([] : List Int), Val := ([] : List Int) } : Rows), 3)) (idxP a3 s661 fun x730 => ifP (decide (x730.Col < 0)) (Q (({ Rows := 0, Cols := 0, Start := ([] : List Int), Col := ([] : List Int), Val := ([] : List Int) } : Rows), 3)) (idxP a3 s661 fun x740 => ifP (decide (a2 ≤ x740.Col)) (Q (({ Rows := 0, Cols := 0, Start := ([] : List Int), Col := ([] : List Int), Val := ([] : List Int) } : Rows), 3)) (idxP a3 s661 fun x751 => idxP a3 s661 fun x760 => idxP a3 s661 fun x769 => appP 24 s657 ([({ From := x751.Row, To := x760.Col, W := x769.Val } : Edge)]) fun _ => next663 ((s657 ++ ([({ From := x751.Row, To := x760.Col, W := x769.Val } : Edge)])), w64 (s661 + 1))))))) (ref05_Combine a0 s657 fun r802 => ifP (r802.2 != 0) (Q (({ Rows := 0, Cols := 0, Start := ([] : List Int), Col := ([] : List Int), Val := ([] : List Int) } : Rows), r802.2)) (loopP (fun (s : (List Triple) × Int) (next908 : ((List Triple) × Int) → Prop) => match s with | (s902, s906) => ifP (decide (s906 < (r802.1.length : Int))) (idxP r802.1 s906 fun x917 => idxP r802.1 s906 fun x926 => idxP r802.1 s906 fun x935 => appP 24 s902 ([({ Row := x917.From, Col := x926.To, Val := x935.W } : Triple)]) fun _ => next908 ((s902 ++ ([({ Row := x917.From, Col := x926.To, Val := x935.W } : Triple)])), w64 (s906 + 1))) (ref07_built a1 a2 s902 fun r954 => Q (r954, 0))) (([] : List Triple), 0)))) (([] : List Edge), 0)))))))

def ref16_Direction (a0 : Int) (a1 : Int) (a2 : Int) (Q : Int → Prop) : Prop :=
  ifP (a0 == 1) (Q a0) (ifP (a0 == 2) (Q a0) (ifP (decide (a1 ≤ (w64 (a2.tdiv 4)))) (Q 1) (Q 2)))

def ref16_Shape (a0 : Int) (a1 : Int) (a2 : Int) (Q : Int → Prop) : Prop :=
  ifP (a0 == 1) (Q a0) (ifP (a0 == 2) (Q a0) (ifP (decide (a1 ≤ (w64 (a2.tdiv 8)))) (Q 1) (Q 2)))

def law13_Right (a0 : Int) (Q : Int → Prop) : Prop :=
  ifP (decide (a0 < 1)) (Q 1) (ifP (decide (5 < a0)) (Q 1) (Q a0))

def law07_Size (a0 : Int) (Q : Int → Prop) : Prop :=
  Q ((w64 (a0)).tmod 40)

def law07_Few (a0 : List Triple) (Q : (List Triple) → Prop) : Prop :=
  ifP (decide (60 < (a0.length : Int))) (slP a0 0 60 fun _ => Q ((a0.take (Int.toNat 60)).drop (Int.toNat 0))) (Q a0)

def law07_Some (a0 : Int × Int) (a1 : List Triple) (Q : Rows → Prop) : Prop :=
  law07_Size a0.1 fun r29 => law07_Size a0.2 fun r33 => law07_Few a1 fun r48 => loopP (fun (s : (List Triple) × Int) (next313 : ((List Triple) × Int) → Prop) => match s with | (s307, s311) => ifP (decide (s311 < (r48.length : Int))) (idxP r48 s311 fun x332 => ifP (decide (x332.Row < 0)) (next313 (s307, w64 (s311 + 1))) (ifP (decide (x332.Col < 0)) (next313 (s307, w64 (s311 + 1))) (ifP (r29 == 0) (next313 (s307, w64 (s311 + 1))) (ifP (r33 == 0) (next313 (s307, w64 (s311 + 1))) (nzP r29 <| nzP r33 <| appP 24 s307 ([({ Row := x332.Row.tmod r29, Col := x332.Col.tmod r33, Val := x332.Val } : Triple)]) fun _ => next313 ((s307 ++ ([({ Row := x332.Row.tmod r29, Col := x332.Col.tmod r33, Val := x332.Val } : Triple)])), w64 (s311 + 1))))))) (ref07_Of 1 r29 r33 s307 fun r389 => ifP (r389.2 != 0) (ref07_Empty r29 r33 fun r410 => Q r410) (Q r389.1))) (([] : List Triple), 0)

def law02_Value (a0 : Int) (a1 : Int) (Q : Int → Prop) : Prop :=
  ifP (a0 == 5) (Q a1) (ifP (a0 == 2) (Q (bnd .i64 a1 1)) (ifP (((bnd .i64 a1 4611686018427387903).tmod 5) == 0) (Q 4611686018427387904) (Q (bnd .i64 a1 4611686018427387903))))

def law02_Factor (a0 : Int) (a1 : Int) (Q : Int → Prop) : Prop :=
  ifP (a0 == 5) (Q (a1.tmod 2147483648)) (law02_Value a0 a1 fun r2 => Q r2)

def law13_Task_Matrix (a0 : Law13_Task) (Q : Rows → Prop) : Prop :=
  law07_Some a0.Size a0.L fun r49 => law13_Right a0.Ring fun r72 => loopP (fun (s : (List Int) × Int) (next140 : ((List Int) × Int) → Prop) => match s with | (s134, s138) => ifP (decide (s138 < (r49.Val.length : Int))) (idxP r49.Val s138 fun x148 => law02_Factor r72 x148 fun r156 => appP 8 s134 ([r156]) fun _ => next140 ((s134 ++ ([r156])), w64 (s138 + 1))) (Q ({ Rows := r49.Rows, Cols := r49.Cols, Start := r49.Start, Col := r49.Col, Val := s134 } : Rows))) (([] : List Int), 0)

def ref09_Of (a0 : Int) (a1 : Int) (a2 : List Item) (Q : (Vec × Int) → Prop) : Prop :=
  ref02_Is a0 fun r16 => ifP (!r16) (Q (({ N := 0, Items := ([] : List Item) } : Vec), 8)) (ifP (decide (a1 < 0)) (Q (({ N := 0, Items := ([] : List Item) } : Vec), 3)) (ifP (decide (4096 < a1)) (Q (({ N := 0, Items := ([] : List Item) } : Vec), 3)) (loopP (fun (s : (List Edge) × Int) (next406 : ((List Edge) × Int) → Prop) => match s with | (s400, s404) => ifP (decide (s404 < (a2.length : Int))) (idxP a2 s404 fun x433 => ifP (decide (x433.At < 0)) (Q (({ N := 0, Items := ([] : List Item) } : Vec), 3)) (idxP a2 s404 fun x443 => ifP (decide (a1 ≤ x443.At)) (Q (({ N := 0, Items := ([] : List Item) } : Vec), 3)) (idxP a2 s404 fun x454 => idxP a2 s404 fun x463 => appP 24 s400 ([({ From := 0, To := x454.At, W := x463.Val } : Edge)]) fun _ => next406 ((s400 ++ ([({ From := 0, To := x454.At, W := x463.Val } : Edge)])), w64 (s404 + 1))))) (ref05_Combine a0 s400 fun r496 => ifP (r496.2 != 0) (Q (({ N := 0, Items := ([] : List Item) } : Vec), r496.2)) (loopP (fun (s : (List Item) × Int) (next588 : ((List Item) × Int) → Prop) => match s with | (s582, s586) => ifP (decide (s586 < (r496.1.length : Int))) (idxP r496.1 s586 fun x597 => idxP r496.1 s586 fun x606 => appP 16 s582 ([({ At := x597.To, Val := x606.W } : Item)]) fun _ => next588 ((s582 ++ ([({ At := x597.To, Val := x606.W } : Item)])), w64 (s586 + 1))) (Q (({ N := a1, Items := s582 } : Vec), 0))) (([] : List Item), 0)))) (([] : List Edge), 0))))

def law09_Some (a0 : Int) (a1 : List Item) (Q : Vec → Prop) : Prop :=
  joinP (fun (k367 : (List Item) → Prop) => loopP (fun (s : (List Item) × Int) (next489 : ((List Item) × Int) → Prop) => match s with | (s483, s487) => ifP (decide (s487 < (a1.length : Int))) (ifP (decide (s487 < 60)) (ifP (decide (0 < ((w64 (a0)).tmod 60))) (idxP a1 s487 fun x509 => ifP (decide (0 ≤ x509.At)) (idxP a1 s487 fun x520 => nzP ((w64 (a0)).tmod 60) <| idxP a1 s487 fun x530 => appP 16 s483 ([({ At := x520.At.tmod ((w64 (a0)).tmod 60), Val := x530.Val } : Item)]) fun _ => next489 ((s483 ++ ([({ At := x520.At.tmod ((w64 (a0)).tmod 60), Val := x530.Val } : Item)])), w64 (s487 + 1))) (next489 (s483, w64 (s487 + 1)))) (k367 s483)) (k367 s483)) (k367 s483)) (([] : List Item), 0)) fun s363 => ref09_Of 1 ((w64 (a0)).tmod 60) s363 fun r551 => Q r551.1

def law13_Task_Vector (a0 : Law13_Task) (a1 : List Item) (Q : Vec → Prop) : Prop :=
  law07_Size a0.Size.2 fun r44 => law09_Some (IntKind.wrap .u8 (r44)) a1 fun r48 => loopP (fun (s : (List Item) × Int) (next152 : ((List Item) × Int) → Prop) => match s with | (s146, s150) => ifP (decide (s150 < (r48.Items.length : Int))) (idxP r48.Items s150 fun x161 => idxP r48.Items s150 fun x170 => law13_Right a0.Ring fun r178 => law02_Value r178 x170.Val fun r182 => appP 16 s146 ([({ At := x161.At, Val := r182 } : Item)]) fun _ => next152 ((s146 ++ ([({ At := x161.At, Val := r182 } : Item)])), w64 (s150 + 1))) (Q ({ N := r48.N, Items := s146 } : Vec))) (([] : List Item), 0)

def ref09_Right (a0 : Vec) (Q : Bool → Prop) : Prop :=
  ifP (decide (a0.N < 0)) (Q false) (ifP (decide (4096 < a0.N)) (Q false) (loopP (fun (s79 : Int) (next80 : Int → Prop) => ifP (decide (s79 < (a0.Items.length : Int))) (idxP a0.Items s79 fun x87 => ifP (decide (x87.At < 0)) (Q false) (idxP a0.Items s79 fun x97 => ifP (decide (a0.N ≤ x97.At)) (Q false) (ifP (decide (0 < s79)) (idxP a0.Items s79 fun x108 => idxP a0.Items (w64 (s79 - 1)) fun x117 => ifP (decide (x108.At ≤ x117.At)) (Q false) (next80 (w64 (s79 + 1)))) (next80 (w64 (s79 + 1)))))) (Q true)) 0))

def ref09_Sure (a0 : Vec) (Q : Vec → Prop) : Prop :=
  ref09_Right a0 fun r15 => ifP r15 (Q a0) (Q ({ N := 0, Items := ([] : List Item) } : Vec))

def ref03_words (a0 : Int) (Q : Int → Prop) : Prop :=
  joinP (fun (k4 : Int → Prop) => ifP (decide (4096 < a0)) (k4 4096) (k4 a0)) fun s3 => ifP (decide (s3 < 1)) (Q 0) (Q (w64 ((w64 (s3 + 63)).tdiv 64)))

def ref03_New (a0 : Int) (Q : (List Int) → Prop) : Prop :=
  ref03_words a0 fun r4 => mkP 8 r4 0 fun _ => Q (List.replicate r4.toNat 0)

def ref10_New (a0 : Int) (Q : Dense → Prop) : Prop :=
  ifP (decide (a0 < 0)) (mkP 8 0 0 fun _ => ref03_New 0 fun r15 => Q ({ N := 0, Has := r15, Vals := (List.replicate (Int.toNat 0) (0 : Int)) } : Dense)) (ifP (decide (4096 < a0)) (mkP 8 0 0 fun _ => ref03_New 0 fun r31 => Q ({ N := 0, Has := r31, Vals := (List.replicate (Int.toNat 0) (0 : Int)) } : Dense)) (mkP 8 a0 0 fun _ => ref03_New a0 fun r46 => Q ({ N := a0, Has := r46, Vals := (List.replicate a0.toNat (0 : Int)) } : Dense)))

def ref03_set (a0 : List Int) (a1 : Int) (a2 : Bool) (Q : (List Int) → Prop) : Prop :=
  appP 8 ([] : List Int) a0 fun _ => ifP (decide (a1 < 0)) (Q (([] : List Int) ++ a0)) (ifP (decide ((a0.length : Int) ≤ (w64 (a1.tdiv 64)))) (Q (([] : List Int) ++ a0)) (nnP (IntKind.wrap .u64 (a1.tmod 64)) <| ifP a2 (idxP (([] : List Int) ++ a0) (w64 (a1.tdiv 64)) fun x33 => idxP (([] : List Int) ++ a0) (w64 (a1.tdiv 64)) fun x38 => Q ((([] : List Int) ++ a0).set ((w64 (a1.tdiv 64)).toNat) (bor .u64 x33 (shl .u64 1 (IntKind.wrap .u64 (a1.tmod 64)))))) (idxP (([] : List Int) ++ a0) (w64 (a1.tdiv 64)) fun x45 => idxP (([] : List Int) ++ a0) (w64 (a1.tdiv 64)) fun x50 => Q ((([] : List Int) ++ a0).set ((w64 (a1.tdiv 64)).toNat) (bandn .u64 x45 (shl .u64 1 (IntKind.wrap .u64 (a1.tmod 64))))))))

def ref03_Put (a0 : List Int) (a1 : Int) (Q : (List Int) → Prop) : Prop :=
  ref03_set a0 a1 true fun r7 => Q r7

def ref03_Of (a0 : Int) (a1 : List Int) (Q : (List Int) → Prop) : Prop :=
  ref03_New a0 fun r18 => loopP (fun (s : (List Int) × Int) (next155 : ((List Int) × Int) → Prop) => match s with | (s150, s154) => ifP (decide (s154 < (a1.length : Int))) (idxP a1 s154 fun x163 => ifP (decide (0 ≤ x163)) (idxP a1 s154 fun x173 => ifP (decide (x173 < a0)) (idxP a1 s154 fun x183 => ifP (decide (x183 < 4096)) (idxP a1 s154 fun x193 => ref03_Put s150 x193 fun r201 => next155 (r201, w64 (s154 + 1))) (next155 (s150, w64 (s154 + 1)))) (next155 (s150, w64 (s154 + 1)))) (next155 (s150, w64 (s154 + 1)))) (Q s150)) (r18, 0)

def ref10_Of (a0 : Vec) (Q : Dense → Prop) : Prop :=
  ref09_Sure a0 fun r29 => ref10_New r29.N fun r57 => loopP (fun (s : (List Int) × (List Int) × Int) (next442 : ((List Int) × (List Int) × Int) → Prop) => match s with | (s432, s436, s440) => ifP (decide (s440 < (r29.Items.length : Int))) (idxP r29.Items s440 fun x465 => appP 8 s436 ([x465.At]) fun _ => idxP r29.Items s440 fun x482 => idxP r29.Items s440 fun x491 => idxP s432 x482.At fun x500 => next442 ((s432.set x482.At.toNat x491.Val), (s436 ++ ([x465.At])), w64 (s440 + 1))) (ref03_Of r29.N s436 fun r509 => Q ({ N := r57.N, Has := r509, Vals := s432 } : Dense))) (r57.Vals, ([] : List Int), 0)

def ref16_Hold (a0 : Int) (a1 : Vec) (Q : Held → Prop) : Prop :=
  ref09_Sure a1 fun r32 => ref16_Shape a0 (r32.Items.length : Int) r32.N fun r43 => ifP (r43 == 1) (Q ({ Form := 1, Vec := r32, Dense := ({ N := 0, Has := ([] : List Int), Vals := ([] : List Int) } : Dense) } : Held)) (ref10_Of r32 fun r48 => Q ({ Form := 2, Vec := ({ N := 0, Items := ([] : List Item) } : Vec), Dense := r48 } : Held))

def ref03_Has (a0 : List Int) (a1 : Int) (Q : Bool → Prop) : Prop :=
  ifP (decide (0 ≤ a1)) (ifP (decide ((w64 (a1.tdiv 64)) < (a0.length : Int))) (idxP a0 (w64 (a1.tdiv 64)) fun x7 => nnP (IntKind.wrap .u64 (a1.tmod 64)) <| Q ((bnd .u64 (shr .u64 x7 (IntKind.wrap .u64 (a1.tmod 64))) 1) == 1)) (Q false)) (Q false)

def ref03_List (a0 : List Int) (Q : (List Int) → Prop) : Prop :=
  loopP (fun (s : (List Int) × Int) (next55 : ((List Int) × Int) → Prop) => match s with | (s49, s53) => ifP (decide (s53 < (w64 (64 * (a0.length : Int))))) (ref03_Has a0 s53 fun r61 => ifP r61 (appP 8 s49 ([s53]) fun _ => next55 ((s49 ++ ([s53])), w64 (s53 + 1))) (next55 (s49, w64 (s53 + 1)))) (Q s49)) (([] : List Int), 0)

def ref03_Right (a0 : List Int) (a1 : Int) (Q : Bool → Prop) : Prop :=
  ifP (decide (a1 < 0)) (Q false) (ifP (decide (4096 < a1)) (Q false) (ref03_words a1 fun r13 => ifP ((a0.length : Int) != r13) (Q false) (ref03_List a0 fun r29 => ifP ((r29.length : Int) == 0) (Q true) (idxP r29 (w64 ((r29.length : Int) - 1)) fun x42 => Q (decide (x42 < a1))))))

def ref10_Right (a0 : Dense) (Q : Bool → Prop) : Prop :=
  ifP (decide (a0.N < 0)) (Q false) (ifP (decide (4096 < a0.N)) (Q false) (ref03_Right a0.Has a0.N fun r21 => ifP (!r21) (Q false) (ifP ((a0.Vals.length : Int) != a0.N) (Q false) (loopP (fun (s64 : Int) (next65 : Int → Prop) => ifP (decide (s64 < a0.N)) (ref03_Has a0.Has s64 fun r71 => ifP (!r71) (idxP a0.Vals s64 fun x77 => ifP (x77 != 0) (Q false) (next65 (w64 (s64 + 1)))) (next65 (w64 (s64 + 1)))) (Q true)) 0))))

def ref10_Back (a0 : Dense) (Q : Vec → Prop) : Prop :=
  ref10_Right a0 fun r23 => ifP (!r23) (Q ({ N := 0, Items := ([] : List Item) } : Vec)) (ref03_List a0.Has fun r43 => loopP (fun (s : (List Item) × Int) (next147 : ((List Item) × Int) → Prop) => match s with | (s141, s145) => ifP (decide (s145 < (r43.length : Int))) (idxP r43 s145 fun x156 => idxP r43 s145 fun x165 => idxP a0.Vals x165 fun x174 => appP 16 s141 ([({ At := x156, Val := x174 } : Item)]) fun _ => next147 ((s141 ++ ([({ At := x156, Val := x174 } : Item)])), w64 (s145 + 1))) (Q ({ N := a0.N, Items := s141 } : Vec))) (([] : List Item), 0))

def ref09_Get (a0 : Vec) (a1 : Int) (Q : (Int × Bool) → Prop) : Prop :=
  ref09_Sure a0 fun r19 => loopP (fun (s93 : Int) (next94 : Int → Prop) => ifP (decide (s93 < (r19.Items.length : Int))) (idxP r19.Items s93 fun x111 => ifP (x111.At == a1) (idxP r19.Items s93 fun x121 => Q (x121.Val, true)) (next94 (w64 (s93 + 1)))) (Q (0, false))) 0

def ref01_Minus (a0 : Wide) (Q : Wide → Prop) : Prop :=
  ref01_Add ({ Hi := bxor .i64 (-1) a0.Hi, Lo := bxor .u64 18446744073709551615 a0.Lo } : Wide) ({ Hi := 0, Lo := 1 } : Wide) fun r9 => Q r9

def ref01_Mul (a0 : Int) (a1 : Int) (Q : Wide → Prop) : Prop :=
  ref01_Of a0 fun r11 => joinP (fun (k20 : Int → Prop) => ifP (decide (a1 < 0)) (k20 (IntKind.wrap .u64 (0 - (IntKind.wrap .u64 (a1))))) (k20 (IntKind.wrap .u64 (a1)))) fun s19 => loopP (fun (s : Int × Int × Int × Int × Int) (next149 : (Int × Int × Int × Int × Int) → Prop) => match s with | (s144, s145, s146, s147, s148) => ifP (decide (0 < s146)) (ifP ((s146.tmod 2) == 1) (ref01_Add ({ Hi := s147, Lo := s148 } : Wide) ({ Hi := s144, Lo := s145 } : Wide) fun r157 => ref01_Add ({ Hi := s144, Lo := s145 } : Wide) ({ Hi := s144, Lo := s145 } : Wide) fun r161 => next149 (r161.Hi, r161.Lo, IntKind.wrap .u64 (s146.tdiv 2), r157.Hi, r157.Lo)) (ref01_Add ({ Hi := s144, Lo := s145 } : Wide) ({ Hi := s144, Lo := s145 } : Wide) fun r165 => next149 (r165.Hi, r165.Lo, IntKind.wrap .u64 (s146.tdiv 2), s147, s148))) (ifP (decide (a1 < 0)) (ref01_Minus ({ Hi := s147, Lo := s148 } : Wide) fun r170 => Q r170) (Q ({ Hi := s147, Lo := s148 } : Wide)))) (r11.Hi, r11.Lo, s19, 0, 0)

def ref02_Mul (a0 : Int) (a1 : Int) (a2 : Int) (Q : Wide → Prop) : Prop :=
  joinP (fun (k8 : Bool → Prop) => ifP (decide (4611686018427387904 ≤ a1)) (k8 true) (k8 (decide (4611686018427387904 ≤ a2)))) fun s7 => ifP (a0 == 1) (ref01_Of a1 fun r28 => ref01_Of a2 fun r32 => ref01_Add r28 r32 fun r36 => ifP s7 (ref01_Of 4611686018427387904 fun r43 => Q r43) (ref01_Of 4611686018427387904 fun r47 => ref01_Compare r36 r47 fun r51 => ifP (decide (0 < r51)) (ref01_Of 4611686018427387904 fun r56 => Q r56) (Q r36))) (ifP (a0 == 3) (ifP s7 (ref01_Of 4611686018427387904 fun r62 => Q r62) (ref01_Of a1 fun r66 => Q r66)) (ifP (a0 == 4) (ifP s7 (ref01_Of 4611686018427387904 fun r72 => Q r72) (ref01_Of a2 fun r76 => Q r76)) (ifP (a0 == 2) (ifP (a1 != 0) (ref02_truth (a2 != 0) fun r82 => Q r82) (ref02_truth false fun r86 => Q r86)) (ifP (a0 == 5) (ref01_Mul a1 a2 fun r91 => Q r91) (Q ({ Hi := 0, Lo := 0 } : Wide))))))

def ref13_Sums (a0 : Int) (a1 : Rows) (a2 : Dense) (a3 : List Int) (a4 : Bool) (Q : ((List Sum) × Int) → Prop) : Prop :=
  ref07_Sure a1 fun r47 => ref10_Back a2 fun r77 => ref02_Is a0 fun r95 => ifP (!r95) (Q (([] : List Sum), 8)) (ifP (r77.N != r47.Cols) (Q (([] : List Sum), 4)) (loopP (fun (s : (List Sum) × Int) (next1314 : ((List Sum) × Int) → Prop) => match s with | (s1308, s1312) => ifP (decide (s1312 < r47.Rows)) (ref03_Has a3 s1312 fun r1326 => ifP (r1326 == a4) (next1314 (s1308, w64 (s1312 + 1))) (idxP r47.Start s1312 fun x1635 => loopP (fun (s : Int × Int × Bool × Int) (next1824 : (Int × Int × Bool × Int) → Prop) => match s with | (s1820, s1821, s1822, s1823) => idxP r47.Start (w64 (s1312 + 1)) fun x1841 => ifP (decide (s1823 < x1841)) (idxP r47.Col s1823 fun x1866 => ref09_Get r77 x1866 fun r1874 => ifP (!r1874.2) (next1824 (s1820, s1821, s1822, w64 (s1823 + 1))) (idxP r47.Val s1823 fun x1896 => ref02_Mul a0 x1896 r1874.1 fun r1904 => ifP s1822 (ref02_Add a0 ({ Hi := s1820, Lo := s1821 } : Wide) r1904 fun r1911 => next1824 (r1911.Hi, r1911.Lo, true, w64 (s1823 + 1))) (next1824 (r1904.Hi, r1904.Lo, true, w64 (s1823 + 1))))) (ifP s1822 (appP 24 s1308 ([({ At := s1312, Val := ({ Hi := s1820, Lo := s1821 } : Wide) } : Sum)]) fun _ => next1314 ((s1308 ++ ([({ At := s1312, Val := ({ Hi := s1820, Lo := s1821 } : Wide) } : Sum)])), w64 (s1312 + 1))) (next1314 (s1308, w64 (s1312 + 1))))) (0, 0, false, x1635))) (Q (s1308, 0))) (([] : List Sum), 0)))

def ref03_Same (a0 : List Int) (a1 : List Int) (Q : Bool → Prop) : Prop :=
  ifP ((a0.length : Int) != (a1.length : Int)) (Q false) (loopP (fun (s54 : Int) (next55 : Int → Prop) => ifP (decide (s54 < (a0.length : Int))) (idxP a0 s54 fun x62 => idxP a1 s54 fun x71 => ifP (x62 != x71) (Q false) (next55 (w64 (s54 + 1)))) (Q true)) 0)

def ref07_SameVals (a0 : List Int) (a1 : List Int) (Q : Bool → Prop) : Prop :=
  ifP ((a0.length : Int) != (a1.length : Int)) (Q false) (loopP (fun (s54 : Int) (next55 : Int → Prop) => ifP (decide (s54 < (a0.length : Int))) (idxP a0 s54 fun x62 => idxP a1 s54 fun x71 => ifP (x62 != x71) (Q false) (next55 (w64 (s54 + 1)))) (Q true)) 0)

def ref10_Same (a0 : Dense) (a1 : Dense) (Q : Bool → Prop) : Prop :=
  ifP (a0.N == a1.N) (ref03_Same a0.Has a1.Has fun r22 => ifP r22 (ref07_SameVals a0.Vals a1.Vals fun r27 => Q r27) (Q false)) (Q false)

def law13_Task_Rows (a0 : Law13_Task) (Q : (List Int) → Prop) : Prop :=
  ifP (decide (2 < (a0.F.length : Int))) (slP a0.F 0 2 fun _ => Q ((a0.F.take (Int.toNat 2)).drop (Int.toNat 0))) (Q a0.F)

def csr_part (a0 : Rows) (a1 : Int) (Q : ((List Int) × (List Int)) → Prop) : Prop :=
  idxP a0.Start a1 fun x39 => idxP a0.Start (w64 (a1 + 1)) fun x48 => slP a0.Col x39 x48 fun _ => slP a0.Val x39 x48 fun _ => Q (((a0.Col.take x48.toNat).drop x39.toNat), ((a0.Val.take x48.toNat).drop x39.toNat))

def csr_Triples (a0 : Rows) (Q : (List Triple) → Prop) : Prop :=
  csr_sure a0 fun r34 => loopP (fun (s : (List Triple) × Int) (next400 : ((List Triple) × Int) → Prop) => match s with | (s394, s398) => ifP (decide (s398 < r34.Rows)) (csr_part r34 s398 fun r422 => loopP (fun (s : (List Triple) × Int) (next527 : ((List Triple) × Int) → Prop) => match s with | (s522, s526) => ifP (decide (s526 < (r422.1.length : Int))) (idxP r422.1 s526 fun x545 => idxP r422.2 s526 fun x554 => appP 24 s522 ([({ Row := s398, Col := x545, Val := x554 } : Triple)]) fun _ => next527 ((s522 ++ ([({ Row := s398, Col := x545, Val := x554 } : Triple)])), w64 (s526 + 1))) (next400 (s522, w64 (s398 + 1)))) (s394, 0)) (Q s394)) (([] : List Triple), 0)

def cmp_Or_int (a0 : List Int) (Q : Int → Prop) : Prop :=
  loopP (fun (s31 : Int) (next32 : Int → Prop) => ifP (decide (s31 < (a0.length : Int))) (idxP a0 s31 fun x39 => ifP (x39 != 0) (Q x39) (next32 (w64 (s31 + 1)))) (Q 0)) 0

def cmp_Compare_int (a0 : Int) (a1 : Int) (Q : Int → Prop) : Prop :=
  cmp_isNaN_int a0 fun r5 => cmp_isNaN_int a1 fun r13 => ifP r5 (ifP r13 (Q 0) (Q (-1))) (ifP r13 (Q 1) (ifP (decide (a0 < a1)) (Q (-1)) (ifP (decide (a1 < a0)) (Q 1) (Q 0))))

def csr_order (a0 : Triple) (a1 : Triple) (Q : Int → Prop) : Prop :=
  cmp_Compare_int a0.Row a1.Row fun r9 => cmp_Compare_int a0.Col a1.Col fun r13 => cmp_Or_int ([r9, r13] : List Int) fun r23 => Q r23

def csr_built (a0 : Int) (a1 : Int) (a2 : List Triple) (Q : Rows → Prop) : Prop :=
  csr_empty a0 a1 fun r39 => loopP (fun (s : (List Int) × (List Int) × (List Int) × Int) (next430 : ((List Int) × (List Int) × (List Int) × Int) → Prop) => match s with | (s417, s421, s425, s429) => ifP (decide (s429 < (a2.length : Int))) (idxP a2 s429 fun x449 => idxP s417 (w64 (x449.Row + 1)) fun x468 => idxP s417 (w64 (x449.Row + 1)) fun x473 => appP 8 s421 ([x449.Col]) fun _ => appP 8 s425 ([x449.Val]) fun _ => next430 ((s417.set ((w64 (x449.Row + 1)).toNat) (w64 (x468 + 1))), (s421 ++ ([x449.Col])), (s425 ++ ([x449.Val])), w64 (s429 + 1))) (loopP (fun (s : (List Int) × Int) (next539 : ((List Int) × Int) → Prop) => match s with | (s534, s538) => ifP (decide (s538 < a0)) (idxP s534 (w64 (s538 + 1)) fun x551 => idxP s534 s538 fun x556 => idxP s534 (w64 (s538 + 1)) fun x559 => next539 ((s534.set ((w64 (s538 + 1)).toNat) (w64 (x551 + x556))), w64 (s538 + 1))) (Q ({ Rows := r39.Rows, Cols := r39.Cols, Start := s534, Col := s421, Val := s425 } : Rows))) (s417, 0))) (r39.Start, r39.Col, r39.Val, 0)

def csr_Turn (a0 : Rows) (Q : Rows → Prop) : Prop :=
  csr_sure a0 fun r44 => csr_Triples r44 fun r73 => loopP (fun (s : (List Triple) × Int) (next233 : ((List Triple) × Int) → Prop) => match s with | (s227, s232) => ifP (decide (s232 < (r73.length : Int))) (idxP s227 s232 fun x248 => idxP s227 s232 fun x255 => next233 ((s227.set s232.toNat ({ Row := x248.Col, Col := x248.Row, Val := x248.Val } : Triple)), w64 (s232 + 1))) (sortP csr_order s227 fun y263 => csr_built r44.Cols r44.Rows y263 fun r272 => Q r272)) (r73, 0)

def dcsc_Of (a0 : Rows) (Q : Columns → Prop) : Prop :=
  dcsc_none  fun r56 => csr_Right a0 fun r87 => ifP (!r87) (Q r56) (csr_Turn a0 fun r137 => csr_Triples r137 fun r154 => loopP (fun (s : (List Int) × (List Int) × (List Int) × (List Int) × Int) (next632 : ((List Int) × (List Int) × (List Int) × (List Int) × Int) → Prop) => match s with | (s615, s619, s623, s627, s631) => ifP (decide (s631 < (r154.length : Int))) (idxP r154 s631 fun x647 => joinP (fun (k761 : ((List Int) × (List Int)) → Prop) => joinP (fun (k783 : Bool → Prop) => ifP ((s615.length : Int) == 0) (k783 true) (idxP s615 (w64 ((s615.length : Int) - 1)) fun x790 => k783 (x790 != x647.Row))) fun s782 => ifP s782 (appP 8 s615 ([x647.Row]) fun _ => appP 8 s619 ([0]) fun _ => k761 ((s615 ++ ([x647.Row])), (s619 ++ ([0])))) (k761 (s615, s619))) fun (s753, s757) => appP 8 s623 ([x647.Col]) fun _ => appP 8 s627 ([x647.Val]) fun _ => idxP s757 (s753.length : Int) fun x836 => next632 (s753, (s757.set ((s753.length : Int).toNat) ((s623 ++ ([x647.Col])).length : Int)), (s623 ++ ([x647.Col])), (s627 ++ ([x647.Val])), w64 (s631 + 1))) (Q ({ Rows := a0.Rows, Cols := a0.Cols, At := s615, Start := s619, Row := s623, Val := s627 } : Columns))) (r56.At, r56.Start, r56.Row, r56.Val, 0))

def ref13_SameSums (a0 : List Sum) (a1 : List Sum) (Q : Bool → Prop) : Prop :=
  ifP ((a0.length : Int) != (a1.length : Int)) (Q false) (loopP (fun (s54 : Int) (next55 : Int → Prop) => ifP (decide (s54 < (a0.length : Int))) (idxP a0 s54 fun x62 => idxP a1 s54 fun x71 => ifP (!(x62 == x71)) (Q false) (next55 (w64 (s54 + 1)))) (Q true)) 0)

def ref08_Right (a0 : Columns) (Q : Bool → Prop) : Prop :=
  ifP (decide (a0.Rows < 0)) (Q false) (ifP (decide (4096 < a0.Rows)) (Q false) (ifP (decide (a0.Cols < 0)) (Q false) (ifP (decide (4096 < a0.Cols)) (Q false) (ifP ((a0.Start.length : Int) != (w64 ((a0.At.length : Int) + 1))) (Q false) (ifP ((a0.Row.length : Int) != (a0.Val.length : Int)) (Q false) (ifP (decide (65536 < (a0.Row.length : Int))) (Q false) (idxP a0.Start 0 fun x52 => ifP (x52 != 0) (Q false) (idxP a0.Start (a0.At.length : Int) fun x62 => ifP (x62 != (a0.Row.length : Int)) (Q false) (loopP (fun (s865 : Int) (next866 : Int → Prop) => ifP (decide (s865 < (a0.At.length : Int))) (joinP (fun (k952 : Unit → Prop) => idxP a0.At s865 fun x954 => ifP (decide (x954 < 0)) (Q false) (idxP a0.At s865 fun x964 => ifP (decide (a0.Cols ≤ x964)) (Q false) (ifP (decide (0 < s865)) (idxP a0.At s865 fun x975 => idxP a0.At (w64 (s865 - 1)) fun x984 => ifP (decide (x975 ≤ x984)) (Q false) (k952 ())) (k952 ())))) fun _ => idxP a0.Start s865 fun x1037 => ifP (decide (x1037 < 0)) (Q false) (idxP a0.Start s865 fun x1047 => idxP a0.Start (w64 (s865 + 1)) fun x1056 => ifP (decide (x1056 ≤ x1047)) (Q false) (idxP a0.Start (w64 (s865 + 1)) fun x1066 => ifP (decide ((a0.Row.length : Int) < x1066)) (Q false) (idxP a0.Start s865 fun x1085 => loopP (fun (s1234 : Int) (next1235 : Int → Prop) => idxP a0.Start (w64 (s865 + 1)) fun x1252 => ifP (decide (s1234 < x1252)) (idxP a0.Row s1234 fun x1262 => ifP (decide (x1262 < 0)) (Q false) (idxP a0.Row s1234 fun x1272 => ifP (decide (a0.Rows ≤ x1272)) (Q false) (idxP a0.Start s865 fun x1282 => ifP (decide (x1282 < s1234)) (idxP a0.Row s1234 fun x1292 => idxP a0.Row (w64 (s1234 - 1)) fun x1301 => ifP (decide (x1292 ≤ x1301)) (Q false) (next1235 (w64 (s1234 + 1)))) (next1235 (w64 (s1234 + 1)))))) (next866 (w64 (s865 + 1)))) x1085)))) (Q true)) 0)))))))))

def ref08_Sure (a0 : Columns) (Q : Columns → Prop) : Prop :=
  ref08_Right a0 fun r33 => ifP r33 (Q a0) (Q ({ Rows := 0, Cols := 0, At := ([] : List Int), Start := ([0] : List Int), Row := ([] : List Int), Val := ([] : List Int) } : Columns))

def ref08_Column (a0 : Columns) (a1 : Int) (Q : (List Item) → Prop) : Prop :=
  ref08_Sure a0 fun r40 => loopP (fun (s : (List Item) × Int) (next566 : ((List Item) × Int) → Prop) => match s with | (s560, s564) => ifP (decide (s564 < (r40.At.length : Int))) (ifP (decide ((w64 (s564 + 1)) < (r40.Start.length : Int))) (idxP r40.Start s564 fun x585 => loopP (fun (s : (List Item) × Int) (next743 : ((List Item) × Int) → Prop) => match s with | (s738, s742) => idxP r40.Start (w64 (s564 + 1)) fun x770 => ifP (decide (s742 < x770)) (idxP r40.At s564 fun x780 => ifP (x780 == a1) (idxP r40.Row s742 fun x791 => idxP r40.Val s742 fun x800 => appP 16 s738 ([({ At := x791, Val := x800 } : Item)]) fun _ => next743 ((s738 ++ ([({ At := x791, Val := x800 } : Item)])), w64 (s742 + 1))) (next566 (s738, w64 (s564 + 1)))) (next566 (s738, w64 (s564 + 1)))) (s560, x585)) (Q s560)) (Q s560)) (([] : List Item), 0)

def ref08_Work (a0 : Columns) (a1 : List Int) (Q : Int → Prop) : Prop :=
  loopP (fun (s : Int × Int) (next72 : (Int × Int) → Prop) => match s with | (s70, s71) => ifP (decide (s71 < (a1.length : Int))) (idxP a1 s71 fun x79 => ref08_Column a0 x79 fun r87 => next72 (w64 (s70 + (r87.length : Int)), w64 (s71 + 1))) (Q s70)) (0, 0)

def ref09_Places (a0 : Vec) (Q : (List Int) → Prop) : Prop :=
  ref09_Sure a0 fun r22 => loopP (fun (s : (List Int) × Int) (next89 : ((List Int) × Int) → Prop) => match s with | (s83, s87) => ifP (decide (s87 < (r22.Items.length : Int))) (idxP r22.Items s87 fun x97 => appP 8 s83 ([x97.At]) fun _ => next89 ((s83 ++ ([x97.At])), w64 (s87 + 1))) (Q s83)) (([] : List Int), 0)

def ref14_Work (a0 : Columns) (a1 : Vec) (Q : Int → Prop) : Prop :=
  ref09_Places a1 fun r20 => ref08_Work a0 r20 fun r31 => Q r31

def push_sure (a0 : Columns) (a1 : Vec) (Q : (Columns × Vec) → Prop) : Prop :=
  joinP (fun (k81 : (Int × Int × (List Int) × (List Int) × (List Int) × (List Int)) → Prop) => dcsc_Right a0 fun r82 => ifP (!r82) (k81 (0, 0, ([] : List Int), ([0] : List Int), ([] : List Int), ([] : List Int))) (k81 (a0.Rows, a0.Cols, a0.At, a0.Start, a0.Row, a0.Val))) fun (s63, s64, s65, s69, s73, s77) => spvec_Right a1 fun r97 => ifP (!r97) (Q (({ Rows := s63, Cols := s64, At := s65, Start := s69, Row := s73, Val := s77 } : Columns), ({ N := 0, Items := ([] : List Item) } : Vec))) (Q (({ Rows := s63, Cols := s64, At := s65, Start := s69, Row := s73, Val := s77 } : Columns), a1))

def ring_Is (a0 : Int) (Q : Bool → Prop) : Prop :=
  ifP (decide (0 < a0)) (Q (decide (a0 < 6))) (Q false)

def wide_Of (a0 : Int) (Q : Wide → Prop) : Prop :=
  Q ({ Hi := shr .i64 a0 63, Lo := IntKind.wrap .u64 (a0) } : Wide)

def ring_truth (a0 : Bool) (Q : Wide → Prop) : Prop :=
  ifP a0 (wide_Of 1 fun r6 => Q r6) (Q ({ Hi := 0, Lo := 0 } : Wide))

def wide_halves (a0 : Int) (Q : (Int × Int) → Prop) : Prop :=
  Q (shr .u64 (shl .u64 a0 32) 32, shr .u64 a0 32)

def wide_product (a0 : Int) (a1 : Int) (Q : Wide → Prop) : Prop :=
  wide_halves a0 fun r17 => wide_halves a1 fun r21 => wide_halves (IntKind.wrap .u64 (r17.1 * r21.1)) fun r40 => wide_halves (IntKind.wrap .u64 ((IntKind.wrap .u64 (r17.2 * r21.1)) + r40.2)) fun r44 => wide_halves (IntKind.wrap .u64 ((IntKind.wrap .u64 (r17.1 * r21.2)) + r44.1)) fun r55 => wide_halves (IntKind.wrap .u64 (r17.1 * r21.1)) fun r61 => Q ({ Hi := w64 (IntKind.wrap .u64 ((IntKind.wrap .u64 ((IntKind.wrap .u64 (r17.2 * r21.2)) + r44.2)) + r55.2)), Lo := bor .u64 (shl .u64 r55.1 32) r61.1 } : Wide)

def wide_size (a0 : Int) (Q : Int → Prop) : Prop :=
  ifP (decide (a0 < 0)) (Q (IntKind.wrap .u64 (0 - (IntKind.wrap .u64 (a0))))) (Q (IntKind.wrap .u64 (a0)))

def wide_carry (a0 : Bool) (Q : Int → Prop) : Prop :=
  ifP a0 (Q 1) (Q 0)

def wide_Sub (a0 : Wide) (a1 : Wide) (Q : Wide → Prop) : Prop :=
  wide_carry (decide (a0.Lo < a1.Lo)) fun r13 => Q ({ Hi := w64 (IntKind.wrap .u64 ((IntKind.wrap .u64 ((IntKind.wrap .u64 (a0.Hi)) - (IntKind.wrap .u64 (a1.Hi)))) - r13)), Lo := IntKind.wrap .u64 (a0.Lo - a1.Lo) } : Wide)

def wide_Mul (a0 : Int) (a1 : Int) (Q : Wide → Prop) : Prop :=
  wide_size a0 fun r19 => wide_size a1 fun r23 => wide_product r19 r23 fun r27 => ifP (!((decide (a0 < 0)) == (decide (a1 < 0)))) (wide_Sub ({ Hi := 0, Lo := 0 } : Wide) r27 fun r34 => Q r34) (Q r27)

def cmp_isNaN_int64 (a0 : Int) (Q : Bool → Prop) : Prop :=
  Q (a0 != a0)

def cmp_Compare_int64 (a0 : Int) (a1 : Int) (Q : Int → Prop) : Prop :=
  cmp_isNaN_int64 a0 fun r5 => cmp_isNaN_int64 a1 fun r13 => ifP r5 (ifP r13 (Q 0) (Q (-1))) (ifP r13 (Q 1) (ifP (decide (a0 < a1)) (Q (-1)) (ifP (decide (a1 < a0)) (Q 1) (Q 0))))

def cmp_isNaN_uint64 (a0 : Int) (Q : Bool → Prop) : Prop :=
  Q (a0 != a0)

def cmp_Compare_uint64 (a0 : Int) (a1 : Int) (Q : Int → Prop) : Prop :=
  cmp_isNaN_uint64 a0 fun r5 => cmp_isNaN_uint64 a1 fun r13 => ifP r5 (ifP r13 (Q 0) (Q (-1))) (ifP r13 (Q 1) (ifP (decide (a0 < a1)) (Q (-1)) (ifP (decide (a1 < a0)) (Q 1) (Q 0))))

def wide_Compare (a0 : Wide) (a1 : Wide) (Q : Int → Prop) : Prop :=
  cmp_Compare_int64 a0.Hi a1.Hi fun r9 => cmp_Compare_uint64 a0.Lo a1.Lo fun r13 => cmp_Or_int ([r9, r13] : List Int) fun r23 => Q r23

def ring_lesser (a0 : Wide) (a1 : Wide) (Q : Wide → Prop) : Prop :=
  wide_Compare a0 a1 fun r13 => ifP (decide (r13 ≤ 0)) (Q a0) (Q a1)

def wide_Add (a0 : Wide) (a1 : Wide) (Q : Wide → Prop) : Prop :=
  wide_carry (decide ((IntKind.wrap .u64 (a0.Lo + a1.Lo)) < a1.Lo)) fun r13 => Q ({ Hi := w64 (IntKind.wrap .u64 ((IntKind.wrap .u64 ((IntKind.wrap .u64 (a0.Hi)) + (IntKind.wrap .u64 (a1.Hi)))) + r13)), Lo := IntKind.wrap .u64 (a0.Lo + a1.Lo) } : Wide)

def ring_Mul (a0 : Int) (a1 : Int) (a2 : Int) (Q : Wide → Prop) : Prop :=
  ifP (a0 == 2) (ifP (a1 != 0) (ring_truth (a2 != 0) fun r22 => Q r22) (ring_truth false fun r26 => Q r26)) (ifP (a0 == 5) (wide_Mul a1 a2 fun r31 => Q r31) (joinP (fun (k55 : Unit → Prop) => ring_Is a0 fun r56 => ifP r56 (ifP (decide (4611686018427387904 ≤ (if a2 > a1 then a2 else a1))) (wide_Of 4611686018427387904 fun r62 => Q r62) (k55 ())) (k55 ())) fun _ => joinP (fun (k91 : (Int × Int) → Prop) => ifP (a0 == 1) (wide_Of a1 fun r94 => k91 (r94.Hi, r94.Lo)) (ifP (a0 == 4) (k91 (0, 0)) (ifP (a0 == 3) (wide_Of a1 fun r100 => Q r100) (Q ({ Hi := 0, Lo := 0 } : Wide))))) fun (s89, s90) => wide_Of 4611686018427387904 fun r108 => wide_Of a2 fun r112 => wide_Add ({ Hi := s89, Lo := s90 } : Wide) r112 fun r116 => ring_lesser r108 r116 fun r120 => Q r120))

def push_column (a0 : Int) (a1 : List Item) (a2 : Int) (a3 : List Int) (a4 : Bool) (Q : (List Sum) → Prop) : Prop :=
  loopP (fun (s : (List Sum) × Int) (next118 : ((List Sum) × Int) → Prop) => match s with | (s112, s116) => ifP (decide (s116 < (a1.length : Int))) (idxP a1 s116 fun x136 => flags_Has a3 x136.At fun r150 => ifP (!(r150 == a4)) (ring_Mul a0 x136.Val a2 fun r155 => appP 24 s112 ([({ At := x136.At, Val := r155 } : Sum)]) fun _ => next118 ((s112 ++ ([({ At := x136.At, Val := r155 } : Sum)])), w64 (s116 + 1))) (next118 (s112, w64 (s116 + 1)))) (Q s112)) (([] : List Sum), 0)

def dcsc_items_9d2 (a0 : Columns) (a1 : Int) (Q : (Columns × Int) → Prop) : Prop :=
  Q (a0, a1)

def dcsc_items_1_1ae (o0 : Nat) (o1 : List Item) (o2 : Columns) (o3 : Int) (Y : Nat → (List Item) → Item → ((Bool × Nat × (List Item)) → Prop) → Prop) (Q : (Nat × (List Item)) → Prop) : Prop :=
  idxP o2.Start o3 fun x42 => loopP (fun (s : (List Item) × Int × Nat) (next184 : ((List Item) × Int × Nat) → Prop) => match s with | (s178, s182, s183) => idxP o2.Start (w64 (o3 + 1)) fun x199 => ifP (decide (s182 < x199)) (idxP o2.Row s182 fun x210 => idxP o2.Val s182 fun x219 => Y s183 s178 ({ At := x210, Val := x219 } : Item) fun r233 => ifP (!r233.1) (Q (r233.2.1, r233.2.2)) (next184 (r233.2.2, w64 (s182 + 1), r233.2.1))) (Q (s183, s178))) (o1, x42, o0)

def slices_AppendSeq_api_Item_api_Item_828 (o0 : Columns) (o1 : Int) (Q : (List Item) → Prop) : Prop :=
  dcsc_items_1_1ae 0 ([] : List Item) o0 o1 (fun (y55 : Nat) (y56 : List Item) (x62 : Item) (Qy : (Bool × Nat × (List Item)) → Prop) => eqP y55 0 (appP 16 y56 ([x62]) fun _ => Qy (true, 0, (y56 ++ ([x62]))))) fun r75 => eqP r75.1 0 (Q r75.2)

def slices_Collect_api_Item_d7d (o0 : Columns) (o1 : Int) (Q : (List Item) → Prop) : Prop :=
  slices_AppendSeq_api_Item_api_Item_828 o0 o1 fun r23 => Q r23

def dcsc_Column (a0 : Columns) (a1 : Int) (Q : (List Item) → Prop) : Prop :=
  dcsc_sure a0 fun r40 => dcsc_place r40 a1 fun r64 => ifP (decide (r64 < 0)) (Q ([] : List Item)) (dcsc_items_9d2 r40 r64 fun r75 => slices_Collect_api_Item_d7d r75.1 r75.2 fun r99 => Q r99)

def push_rises (a0 : List Sum) (Q : Bool → Prop) : Prop :=
  loopP (fun (s31 : Int) (next32 : Int → Prop) => ifP (decide (s31 < (a0.length : Int))) (ifP (decide (0 < s31)) (idxP a0 (w64 (s31 - 1)) fun x40 => idxP a0 s31 fun x49 => ifP (decide (x49.At ≤ x40.At)) (Q false) (next32 (w64 (s31 + 1)))) (next32 (w64 (s31 + 1)))) (Q true)) 0

def push_Merge_1 (a0 : List Sum) (Q : Bool → Prop) : Prop :=
  push_rises a0 fun r4 => Q (!r4)

def push_heads_Len (a0 : List Push_head) (Q : Int → Prop) : Prop :=
  Q (a0.length : Int)

def ring_Add (a0 : Int) (a1 : Wide) (a2 : Wide) (Q : Wide → Prop) : Prop :=
  joinP (fun (k18 : Bool → Prop) => ifP (a0 == 1) (k18 (a0 == 1)) (ifP (a0 == 3) (k18 (a0 == 3)) (k18 (a0 == 4)))) fun s17 => ifP s17 (ring_lesser a1 a2 fun r25 => Q r25) (ifP (a0 == 2) (ifP (!(a1 == a2)) (ring_truth true fun r31 => Q r31) (ring_truth (!(a1 == ({ Hi := 0, Lo := 0 } : Wide))) fun r35 => Q r35)) (ifP (a0 == 5) (wide_Add a1 a2 fun r40 => Q r40) (Q ({ Hi := 0, Lo := 0 } : Wide))))

def push_Merge_1_d96 (a0 : List Sum) (Q : Bool → Prop) : Prop :=
  push_rises a0 fun r4 => Q (!r4)

def slices_IndexFunc_api_Sum_api_Sum_acf (a0 : List (List Sum)) (Q : Int → Prop) : Prop :=
  loopP (fun (s53 : Int) (next54 : Int → Prop) => ifP (decide (s53 < (a0.length : Int))) (idxP a0 s53 fun x61 => push_Merge_1_d96 x61 fun r78 => ifP r78 (Q s53) (next54 (w64 (s53 + 1)))) (Q (-1))) 0

def slices_ContainsFunc_api_Sum_api_Sum_bfd (a0 : List (List Sum)) (Q : Bool → Prop) : Prop :=
  slices_IndexFunc_api_Sum_api_Sum_acf a0 fun r10 => Q (decide (0 ≤ r10))

def push_heads_Push_5fa (o0 : Push_merger) (a0 : Push_head) (Q : Push_merger → Prop) : Prop :=
  appP 32 o0.heads ([a0]) fun _ => Q ({ heads := (o0.heads ++ ([a0])), r := o0.r, out := o0.out } : Push_merger)

def push_heads_Len_66a (o0 : List Push_head) (Q : Int → Prop) : Prop :=
  Q (o0.length : Int)

def push_heads_Less_706 (o0 : List Push_head) (a0 : Int) (a1 : Int) (Q : Bool → Prop) : Prop :=
  idxP o0 a0 fun x8 => idxP x8.l 0 fun x20 => idxP o0 a1 fun x29 => idxP x29.l 0 fun x39 => idxP o0 a0 fun x48 => idxP o0 a1 fun x58 => cmp_Compare_int x20.At x39.At fun r67 => cmp_Compare_int x48.which x58.which fun r71 => cmp_Or_int ([r67, r71] : List Int) fun r81 => Q (decide (r81 < 0))

def push_heads_Swap_c73 (o0 : List Push_head) (a0 : Int) (a1 : Int) (Q : (List Push_head) → Prop) : Prop :=
  idxP o0 a1 fun x8 => idxP o0 a0 fun x20 => idxP o0 a0 fun x30 => idxP (o0.set a0.toNat x8) a1 fun x41 => Q ((o0.set a0.toNat x8).set a1.toNat x20)

def container_heap_up_248 (o0 : Push_merger) (a0 : Int) (Q : Push_merger → Prop) : Prop :=
  loopP (fun (s : (List Push_head) × Int) (next75 : ((List Push_head) × Int) → Prop) => match s with | (s70, s74) => ifP ((w64 ((w64 (s74 - 1)).tdiv 2)) == s74) (Q ({ heads := s70, r := o0.r, out := o0.out } : Push_merger)) (push_heads_Less_706 s70 s74 (w64 ((w64 (s74 - 1)).tdiv 2)) fun r86 => ifP (!r86) (Q ({ heads := s70, r := o0.r, out := o0.out } : Push_merger)) (push_heads_Swap_c73 s70 (w64 ((w64 (s74 - 1)).tdiv 2)) s74 fun r95 => next75 (r95, w64 ((w64 (s74 - 1)).tdiv 2))))) (o0.heads, a0)

def container_heap_Push_f07 (o0 : Push_merger) (a0 : Push_head) (Q : Push_merger → Prop) : Prop :=
  push_heads_Push_5fa o0 a0 fun r20 => push_heads_Len_66a r20.heads fun r38 => container_heap_up_248 r20 (w64 (r38 - 1)) fun r46 => Q r46

def push_merger_put_46e (o0 : Push_merger) (a0 : List Sum) (a1 : Int) (Q : Push_merger → Prop) : Prop :=
  ifP (decide (0 < (a0.length : Int))) (container_heap_Push_f07 o0 ({ l := a0, which := a1 } : Push_head) fun r21 => Q r21) (Q o0)

def container_heap_down_206 (o0 : Push_merger) (a0 : Int) (a1 : Int) (Q : (Bool × Push_merger) → Prop) : Prop :=
  loopP (fun (s : (List Push_head) × Int) (next151 : ((List Push_head) × Int) → Prop) => match s with | (s146, s150) => ifP (decide (a1 ≤ (w64 ((w64 (2 * s150)) + 1)))) (Q (decide (a0 < s150), ({ heads := s146, r := o0.r, out := o0.out } : Push_merger))) (ifP (decide ((w64 ((w64 (2 * s150)) + 1)) < 0)) (Q (decide (a0 < s150), ({ heads := s146, r := o0.r, out := o0.out } : Push_merger))) (joinP (fun (k180 : Int → Prop) => ifP (decide ((w64 ((w64 ((w64 (2 * s150)) + 1)) + 1)) < a1)) (push_heads_Less_706 s146 (w64 ((w64 ((w64 (2 * s150)) + 1)) + 1)) (w64 ((w64 (2 * s150)) + 1)) fun r188 => ifP r188 (k180 (w64 ((w64 ((w64 (2 * s150)) + 1)) + 1))) (k180 (w64 ((w64 (2 * s150)) + 1)))) (k180 (w64 ((w64 (2 * s150)) + 1)))) fun s179 => push_heads_Less_706 s146 s179 s150 fun r202 => ifP (!r202) (Q (decide (a0 < s150), ({ heads := s146, r := o0.r, out := o0.out } : Push_merger))) (push_heads_Swap_c73 s146 s150 s179 fun r212 => next151 (r212, s179))))) (o0.heads, a0)

def push_heads_Pop_df2 (o0 : Push_merger) (Q : (Push_head × Push_merger) → Prop) : Prop :=
  idxP o0.heads (w64 ((o0.heads.length : Int) - 1)) fun x24 => slP o0.heads 0 (w64 ((o0.heads.length : Int) - 1)) fun _ => Q (x24, ({ heads := (o0.heads.take (w64 ((o0.heads.length : Int) - 1)).toNat), r := o0.r, out := o0.out } : Push_merger))

def container_heap_Pop_4c3 (o0 : Push_merger) (Q : (Push_head × Push_merger) → Prop) : Prop :=
  push_heads_Len_66a o0.heads fun r25 => push_heads_Swap_c73 o0.heads 0 (w64 (r25 - 1)) fun r33 => container_heap_down_206 ({ heads := r33, r := o0.r, out := o0.out } : Push_merger) 0 (w64 (r25 - 1)) fun r45 => push_heads_Pop_df2 r45.2 fun r63 => Q (r63.1, r63.2)

def push_merger_next_d58 (o0 : Push_merger) (Q : Push_merger → Prop) : Prop :=
  idxP o0.heads 0 fun x24 => container_heap_Pop_4c3 o0 fun r62 => idxP x24.l 0 fun x89 => slP x24.l 1 (x24.l.length : Int) fun _ => push_merger_put_46e r62.2 ((x24.l.take (x24.l.length : Int).toNat).drop (Int.toNat 1)) x24.which fun r143 => joinP (fun (k217 : Bool → Prop) => ifP (decide (0 < (r143.out.length : Int))) (idxP r143.out (w64 ((r143.out.length : Int) - 1)) fun x222 => k217 (x222.At == x89.At)) (k217 false)) fun s216 => ifP s216 (idxP r143.out (w64 ((r143.out.length : Int) - 1)) fun x234 => ring_Add r143.r x234.Val x89.Val fun r238 => idxP r143.out (w64 ((r143.out.length : Int) - 1)) fun x243 => Q ({ heads := r143.heads, r := r143.r, out := (r143.out.set ((w64 ((r143.out.length : Int) - 1)).toNat) ({ At := x243.At, Val := r238 } : Sum)) } : Push_merger)) (appP 24 r143.out ([x89]) fun _ => Q ({ heads := r143.heads, r := r143.r, out := (r143.out ++ ([x89])) } : Push_merger))

def push_Merge (a0 : Int) (a1 : List (List Sum)) (Q : ((List Sum) × Int) → Prop) : Prop :=
  ring_Is a0 fun r12 => ifP (!r12) (Q (([] : List Sum), 8)) (slices_ContainsFunc_api_Sum_api_Sum_bfd a1 fun r32 => ifP r32 (Q (([] : List Sum), 6)) (loopP (fun (s : (List Push_head) × Int × (List Sum) × Int) (next297 : ((List Push_head) × Int × (List Sum) × Int) → Prop) => match s with | (s285, s289, s290, s294) => ifP (decide (s294 < (a1.length : Int))) (idxP a1 s294 fun x305 => push_merger_put_46e ({ heads := s285, r := s289, out := s290 } : Push_merger) x305 s294 fun r322 => next297 (r322.heads, r322.r, r322.out, w64 (s294 + 1))) (loopP (fun (s : (List Push_head) × Int × (List Sum)) (next421 : ((List Push_head) × Int × (List Sum)) → Prop) => match s with | (s412, s416, s417) => push_heads_Len s412 fun r427 => ifP (decide (0 < r427)) (push_merger_next_d58 ({ heads := s412, r := s416, out := s417 } : Push_merger) fun r438 => next421 (r438.heads, r438.r, r438.out)) (Q (s417, 0))) (s285, s289, s290))) (([] : List Push_head), a0, ([] : List Sum), 0)))

def push_Sums (a0 : Int) (a1 : Columns) (a2 : Vec) (a3 : List Int) (a4 : Bool) (Q : ((List Sum) × Int) → Prop) : Prop :=
  push_sure a1 a2 fun r53 => ring_Is a0 fun r90 => ifP (!r90) (Q (([] : List Sum), 8)) (ifP (r53.2.N != r53.1.Cols) (Q (([] : List Sum), 4)) (loopP (fun (s : (List (List Sum)) × Int) (next226 : ((List (List Sum)) × Int) → Prop) => match s with | (s220, s224) => ifP (decide (s224 < (r53.2.Items.length : Int))) (idxP r53.2.Items s224 fun x245 => dcsc_Column r53.1 x245.At fun r255 => push_column a0 r255 x245.Val a3 a4 fun r267 => appP 24 s220 ([r267]) fun _ => next226 ((s220 ++ ([r267])), w64 (s224 + 1))) (push_Merge a0 s220 fun r290 => Q (r290.1, r290.2))) (([] : List (List Sum)), 0)))

def policy_Task_push (a0 : Policy_Task) (Q : ((List Sum) × Int) → Prop) : Prop :=
  policy_Vec a0.X fun r41 => push_Sums a0.Ring a0.Cols r41 a0.Set a0.Others fun r52 => Q (r52.1, r52.2)

def csr_bounds (a0 : Int × Int) (a1 : Int) (Q : (Int × Int) → Prop) : Prop :=
  ifP (decide ((if a1 < a0.2 then a1 else a0.2) ≤ (if 0 > a0.1 then 0 else a0.1))) (Q ((if 0 > a0.1 then 0 else a0.1), 0)) (Q ((if 0 > a0.1 then 0 else a0.1), w64 ((if a1 < a0.2 then a1 else a0.2) - (if 0 > a0.1 then 0 else a0.1))))

def csr_Row (a0 : Rows) (a1 : Int) (Q : (List Item) → Prop) : Prop :=
  csr_sure a0 fun r34 => csr_within a1 (w64 (r34.Rows - 1)) fun r56 => ifP (!r56) (Q ([] : List Item)) (csr_part r34 a1 fun r75 => loopP (fun (s : (List Item) × Int) (next163 : ((List Item) × Int) → Prop) => match s with | (s157, s161) => ifP (decide (s161 < (r75.1.length : Int))) (idxP r75.1 s161 fun x171 => idxP r75.2 s161 fun x180 => appP 16 s157 ([({ At := x171, Val := x180 } : Item)]) fun _ => next163 ((s157 ++ ([({ At := x171, Val := x180 } : Item)])), w64 (s161 + 1))) (Q s157)) (([] : List Item), 0))

def csr_Cut (a0 : Rows) (a1 : Int × Int) (a2 : Int × Int) (Q : Rows → Prop) : Prop :=
  csr_sure a0 fun r52 => csr_bounds a1 r52.Rows fun r73 => csr_bounds a2 r52.Cols fun r81 => loopP (fun (s : (List Triple) × Int) (next460 : ((List Triple) × Int) → Prop) => match s with | (s454, s458) => ifP (decide (s458 < r73.2)) (csr_Row r52 (w64 (r73.1 + s458)) fun r479 => loopP (fun (s : (List Triple) × Int) (next593 : ((List Triple) × Int) → Prop) => match s with | (s588, s592) => ifP (decide (s592 < (r479.length : Int))) (idxP r479 s592 fun x613 => joinP (fun (k626 : Bool → Prop) => ifP (decide (r81.1 ≤ x613.At)) (k626 (decide ((w64 (x613.At - r81.1)) < r81.2))) (k626 false)) fun s625 => ifP s625 (appP 24 s588 ([({ Row := s458, Col := w64 (x613.At - r81.1), Val := x613.Val } : Triple)]) fun _ => next593 ((s588 ++ ([({ Row := s458, Col := w64 (x613.At - r81.1), Val := x613.Val } : Triple)])), w64 (s592 + 1))) (next593 (s588, w64 (s592 + 1)))) (next460 (s588, w64 (s458 + 1)))) (s454, 0)) (csr_built r73.2 r81.2 s454 fun r646 => Q r646)) (([] : List Triple), 0)

def pull_sure (a0 : Rows) (a1 : Dense) (Q : (Rows × Dense) → Prop) : Prop :=
  joinP (fun (k105 : (Int × Int × (List Int) × (List Int) × (List Int)) → Prop) => csr_Right a0 fun r106 => ifP (!r106) (csr_Cut a0 (0, 0) (0, 0) fun r111 => k105 (r111.Rows, r111.Cols, r111.Start, r111.Col, r111.Val)) (k105 (a0.Rows, a0.Cols, a0.Start, a0.Col, a0.Val))) fun (s91, s92, s93, s97, s101) => devec_Right a1 fun r131 => ifP (!r131) (devec_New 0 fun r136 => Q (({ Rows := s91, Cols := s92, Start := s93, Col := s97, Val := s101 } : Rows), r136)) (Q (({ Rows := s91, Cols := s92, Start := s93, Col := s97, Val := s101 } : Rows), a1))

def pull_adder_6fc (a0 : Int) (Q : (Bool × Int × Wide) → Prop) : Prop :=
  Q (false, a0, ({ Hi := 0, Lo := 0 } : Wide))

def pull_adder_1_b72 (o0 : Bool) (o1 : Int) (o2 : Wide) (a0 : Wide) (Q : (Bool × Wide) → Prop) : Prop :=
  ifP o0 (ring_Add o1 o2 a0 fun r12 => Q (true, r12)) (Q (true, a0))

def pull_adder_2_cdb (o0 : Wide) (o1 : Bool) (Q : (Wide × Bool) → Prop) : Prop :=
  Q (o0, o1)

def pull_row (a0 : Int) (a1 : Rows) (a2 : Int) (a3 : Dense) (Q : (Wide × Bool) → Prop) : Prop :=
  pull_adder_6fc a0 fun r48 => idxP a1.Start a2 fun x66 => loopP (fun (s : Bool × Int × Int × Int) (next254 : (Bool × Int × Int × Int) → Prop) => match s with | (s250, s251, s252, s253) => idxP a1.Start (w64 (a2 + 1)) fun x270 => ifP (decide (s253 < x270)) (idxP a1.Col s253 fun x289 => flags_Has a3.Has x289 fun r301 => ifP r301 (idxP a1.Val s253 fun x307 => idxP a3.Vals x289 fun x316 => ring_Mul a0 x307 x316 fun r324 => pull_adder_1_b72 s250 r48.2.1 ({ Hi := s251, Lo := s252 } : Wide) r324 fun r334 => next254 (r334.1, r334.2.Hi, r334.2.Lo, w64 (s253 + 1))) (next254 (s250, s251, s252, w64 (s253 + 1)))) (pull_adder_2_cdb ({ Hi := s251, Lo := s252 } : Wide) s250 fun r347 => Q (r347.1, r347.2))) (r48.1, r48.2.2.Hi, r48.2.2.Lo, x66)

def pull_asked_064 (a0 : Int) (a1 : List Int) (a2 : Bool) (Q : (Int × (List Int) × Bool) → Prop) : Prop :=
  Q (a0, a1, a2)

def pull_asked_1_839 (o0 : Nat) (o1 : Int) (o2 : Rows) (o3 : Dense) (o4 : List Sum) (o5 : Int) (o6 : List Int) (o7 : Bool) (Y : Nat → Int → Rows → Dense → (List Sum) → Int → ((Bool × Nat × (List Sum)) → Prop) → Prop) (Q : (Nat × (List Sum)) → Prop) : Prop :=
  loopP (fun (s : (List Sum) × Int × Nat) (next137 : ((List Sum) × Int × Nat) → Prop) => match s with | (s131, s135, s136) => ifP (decide (s135 < o5)) (flags_Has o6 s135 fun r143 => ifP (!(r143 == o7)) (Y s136 o1 o2 o3 s131 s135 fun r154 => ifP (!r154.1) (Q (r154.2.1, r154.2.2)) (next137 (r154.2.2, w64 (s135 + 1), r154.2.1))) (next137 (s131, w64 (s135 + 1), s136))) (Q (s136, s131))) (o4, 0, o0)

def pull_Sums (a0 : Int) (a1 : Rows) (a2 : Dense) (a3 : List Int) (a4 : Bool) (Q : ((List Sum) × Int) → Prop) : Prop :=
  pull_sure a1 a2 fun r57 => ring_Is a0 fun r94 => ifP (!r94) (Q (([] : List Sum), 8)) (ifP (r57.2.N != r57.1.Cols) (Q (([] : List Sum), 4)) (pull_asked_064 r57.1.Rows a3 a4 fun r127 => pull_asked_1_839 0 a0 r57.1 r57.2 ([] : List Sum) r127.1 r127.2.1 r127.2.2 (fun (y236 : Nat) (y237 : Int) (y239 : Rows) (y250 : Dense) (y258 : List Sum) (x264 : Int) (Qy : (Bool × Nat × (List Sum)) → Prop) => eqP y236 0 (pull_row y237 y239 x264 y250 fun r271 => ifP r271.2 (appP 24 y258 ([({ At := x264, Val := r271.1 } : Sum)]) fun _ => Qy (true, 0, (y258 ++ ([({ At := x264, Val := r271.1 } : Sum)])))) (Qy (true, 0, y258)))) fun r288 => eqP r288.1 0 (Q (r288.2, 0))))

def policy_Task_pull (a0 : Policy_Task) (Q : ((List Sum) × Int) → Prop) : Prop :=
  policy_Dense a0.X fun r41 => pull_Sums a0.Ring a0.Rows r41 a0.Set a0.Others fun r55 => Q (r55.1, r55.2)

def push_heads_Less (a0 : List Push_head) (a1 : Int) (a2 : Int) (Q : Bool → Prop) : Prop :=
  idxP a0 a1 fun x5 => idxP x5.l 0 fun x17 => idxP a0 a2 fun x26 => idxP x26.l 0 fun x38 => idxP a0 a1 fun x47 => idxP a0 a2 fun x59 => cmp_Compare_int x17.At x38.At fun r70 => cmp_Compare_int x47.which x59.which fun r74 => cmp_Or_int ([r70, r74] : List Int) fun r84 => Q (decide (r84 < 0))

def policy_Task_pull_afb (a0 : Policy_Task) (Q : ((List Sum) × Int) → Prop) : Prop :=
  policy_Dense a0.X fun r38 => pull_Sums a0.Ring a0.Rows r38 a0.Set a0.Others fun r52 => Q (r52.1, r52.2)

def policy_Task_push_e34 (a0 : Policy_Task) (Q : ((List Sum) × Int) → Prop) : Prop :=
  policy_Vec a0.X fun r38 => push_Sums a0.Ring a0.Cols r38 a0.Set a0.Others fun r49 => Q (r49.1, r49.2)

def policy_Sums (a0 : Policy_Task) (Q : ((List Sum) × Int × Int) → Prop) : Prop :=
  policy_Vec a0.X fun r64 => push_Work a0.Cols r64 fun r75 => csr_Count a0.Rows fun r79 => policy_Direction a0.Way r75 r79 fun r83 => ifP (r83 == 2) (policy_Task_pull_afb a0 fun r107 => ifP (r107.2 != 0) (Q (([] : List Sum), 0, r107.2)) (Q (r107.1, r83, r107.2))) (policy_Task_push_e34 a0 fun r130 => ifP (r130.2 != 0) (Q (([] : List Sum), 0, r130.2)) (Q (r130.1, r83, r130.2)))

def law16_live  (Q : Bool → Prop) : Prop :=
  ref07_Of 1 1 8 ([({ Row := 0, Col := 3, Val := 2 } : Triple)] : List Triple) fun r32 => policy_Hold 0 ({ N := 8, Items := ([({ At := 3, Val := 5 } : Item)] : List Item) } : Vec) fun r88 => policy_Hold 2 ({ N := 8, Items := ([({ At := 3, Val := 5 } : Item)] : List Item) } : Vec) fun r126 => ref08_Of r32.1 fun r176 => policy_Sums ({ Ring := 1, Rows := r32.1, Cols := r176, X := r88, Set := ([] : List Int), Others := true, Way := 0 } : Policy_Task) fun r196 => policy_Sums ({ Ring := 0, Rows := ({ Rows := 0, Cols := 0, Start := ([] : List Int), Col := ([] : List Int), Val := ([] : List Int) } : Rows), Cols := ({ Rows := 0, Cols := 0, At := ([] : List Int), Start := ([] : List Int), Row := ([] : List Int), Val := ([] : List Int) } : Columns), X := ({ Form := 0, Vec := ({ N := 0, Items := ([] : List Item) } : Vec), Dense := ({ N := 0, Has := ([] : List Int), Vals := ([] : List Int) } : Dense) } : Held), Set := ([] : List Int), Others := false, Way := 0 } : Policy_Task) fun r218 => policy_Shape 0 1 8 fun r229 => ifP (r229 == 1) (policy_Shape 0 2 8 fun r234 => ifP (r234 == 2) (policy_Direction 0 1 4 fun r239 => ifP (r239 == 1) (policy_Direction 2 0 9 fun r244 => ifP (r244 == 2) (ifP (r88.Form == 1) (policy_Size r88 fun r250 => ifP (r250 == 1) (policy_Size r126 fun r255 => ifP (r255 == 8) (policy_Vec r126 fun r260 => ref09_Same r260 ({ N := 8, Items := ([({ At := 3, Val := 5 } : Item)] : List Item) } : Vec) fun r271 => ifP r271 (policy_Dense r88 fun r276 => ifP (r276.N == 8) (ifP (r196.2.2 == 0) (ifP (r196.2.1 == 2) (ifP ((r196.1.length : Int) == 1) (idxP r196.1 0 fun x295 => ifP (x295.Val == ({ Hi := 0, Lo := 7 } : Wide)) (ifP (r218.2.2 == 8) (Q (r218.2.1 == 0)) (Q false)) (Q false)) (Q false)) (Q false)) (Q false)) (Q false)) (Q false)) (Q false)) (Q false)) (Q false)) (Q false)) (Q false)) (Q false)) (Q false)

def law16_PolicyPicks (a0 : Int) (a1 : Int) (a2 : Int × Int) (Q : Bool → Prop) : Prop :=
  law16_live  fun r5 => ifP r5 (policy_Direction a0 a2.1 a2.2 fun r10 => ref16_Direction a0 a2.1 a2.2 fun r14 => ifP (r10 == r14) (policy_Shape a1 a2.1 a2.2 fun r19 => ref16_Shape a1 a2.1 a2.2 fun r23 => Q (r19 == r23)) (Q false)) (Q false)

def law16_PolicyWrong (a0 : Law13_Task) (a1 : Int) (a2 : Int) (Q : Bool → Prop) : Prop :=
  law13_Task_Matrix a0 fun r51 => law13_Task_Vector a0 a0.X fun r68 => ref09_Sure ({ N := (w64 (r68.N + 1)).tmod 60, Items := r68.Items } : Vec) fun r92 => ref08_Of r51 fun r151 => ref16_Hold 1 r92 fun r171 => policy_Sums ({ Ring := a1, Rows := r51, Cols := r151, X := r171, Set := ([] : List Int), Others := true, Way := a2 } : Policy_Task) fun r188 => ref10_Of r92 fun r224 => ref13_Sums a1 r51 r224 ([] : List Int) true fun r238 => law16_live  fun r249 => ifP r249 (ifP (r188.2.2 == r238.2) (ifP (r188.2.2 == 0) (Q true) (ifP ((r188.1.length : Int) == 0) (Q (r188.2.1 == 0)) (Q false))) (Q false)) (Q false)

def law16_PolicySizes (a0 : Int) (a1 : List Item) (a2 : Int) (Q : Bool → Prop) : Prop :=
  law09_Some a0 a1 fun r17 => policy_Hold a2 r17 fun r70 => policy_Hold 0 r17 fun r87 => law16_live  fun r106 => ifP r106 (policy_Vec r70 fun r111 => ref09_Same r111 r17 fun r122 => ifP r122 (policy_Dense r70 fun r127 => ref10_Of r17 fun r141 => ref10_Same r127 r141 fun r155 => ifP r155 (policy_Size r70 fun r160 => ifP (decide (r160 ≤ r17.N)) (policy_Size r87 fun r165 => Q (decide (r165 ≤ (w64 ((w64 (8 * (r17.Items.length : Int))) + 7))))) (Q false)) (Q false)) (Q false)) (Q false)

def law16_PolicySame (a0 : Law13_Task) (a1 : Int) (a2 : Int) (Q : Bool → Prop) : Prop :=
  law13_Right a0.Ring fun r21 => law13_Task_Matrix a0 fun r70 => law13_Task_Vector a0 a0.X fun r87 => law13_Task_Rows a0 fun r98 => ref10_Of r87 fun r136 => ref13_Sums r21 r70 r136 r98 a0.Others fun r150 => dcsc_Of r70 fun r201 => policy_Hold a2 r87 fun r221 => policy_Sums ({ Ring := r21, Rows := r70, Cols := r201, X := r221, Set := r98, Others := a0.Others, Way := a1 } : Policy_Task) fun r250 => law16_live  fun r261 => ifP r261 (ifP (r150.2 == 0) (ifP (r250.2.2 == 0) (ref13_SameSums r250.1 r150.1 fun r268 => ifP r268 (ref08_Of r70 fun r273 => ref14_Work r273 r87 fun r293 => ref16_Direction a1 r293 (r70.Col.length : Int) fun r297 => Q (r250.2.1 == r297)) (Q false)) (Q false)) (Q false)) (Q false)
end Go.Proofs.YtmidnfbbnmigeaaGreat
