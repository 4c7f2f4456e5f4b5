/- Types, and pure functions as the Go text has them (printed by a program of ours). -/
import Derived.Test.YtjpmbedipdkakaaFwN
namespace Go.Proofs.Ytjpmbedipdkakaa
open Go Go.Fw
set_option linter.unusedVariables false
set_option maxRecDepth 8000
set_option maxHeartbeats 1000000
abbrev eI64 : Elem Int := flat 1 (fun x => [.int .i64 x]) (fun _ => ⟨rfl, rfl⟩)
abbrev eU64 : Elem Int := flat 1 (fun x => [.int .u64 x]) (fun _ => ⟨rfl, rfl⟩)
abbrev eU8 : Elem Int := flat 1 (fun x => [.int .u8 x]) (fun _ => ⟨rfl, rfl⟩)
abbrev eI32 : Elem Int := flat 1 (fun x => [.int .i32 x]) (fun _ => ⟨rfl, rfl⟩)
abbrev eB : Elem Bool := flat 1 (fun x => [.bool x]) (fun _ => ⟨rfl, rfl⟩)
structure Item where
  At : Int
  Val : Int
deriving DecidableEq
def encItem (x : Item) : List Value := [.int .i64 x.At, .int .i64 x.Val]
abbrev eItem : Elem Item := flat 2 encItem (fun _ => ⟨rfl, rfl⟩)
structure Wide where
  Hi : Int
  Lo : Int
deriving DecidableEq
def encWide (x : Wide) : List Value := [.int .i64 x.Hi, .int .u64 x.Lo]
abbrev eWide : Elem Wide := flat 2 encWide (fun _ => ⟨rfl, rfl⟩)
structure Sum where
  At : Int
  Val : Wide
deriving DecidableEq
def encSum (x : Sum) : List Value := [.int .i64 x.At, .int .i64 x.Val.Hi, .int .u64 x.Val.Lo]
abbrev eSum : Elem Sum := flat 3 encSum (fun _ => ⟨rfl, rfl⟩)
structure Triple where
  Row : Int
  Col : Int
  Val : Int
deriving DecidableEq
def encTriple (x : Triple) : List Value := [.int .i64 x.Row, .int .i64 x.Col, .int .i64 x.Val]
abbrev eTriple : Elem Triple := flat 3 encTriple (fun _ => ⟨rfl, rfl⟩)
structure Vec where
  N : Int
  Items : List Item
deriving DecidableEq
def eVec : Elem Vec where
  sz := 2
  rep I cs x := ∃ a1 c1, cs = [.int .i64 x.N, .slice a1 x.Items.length c1] ∧ RepSl eItem I a1 c1 x.Items
  mono hle := fun ⟨a1, c1, e, h0⟩ => ⟨a1, c1, e, h0.mono hle⟩
  len := fun ⟨a1, c1, e, _⟩ => by rw [e]; rfl
  one := fun ⟨a1, c1, e, _⟩ => by rw [e]; rfl
structure Frame where
  Kind : Int
  From : Int
  To : Int
  Seq : Int
  Round : Int
  Vec : Vec
  Sums : List Sum
  Triples : List Triple
  N : Int
  Over : Bool
deriving DecidableEq
def eFrame : Elem Frame where
  sz := 11
  rep I cs x := ∃ a6 c6 a7 c7 a8 c8, cs = [.int .i64 x.Kind, .int .i64 x.From, .int .i64 x.To, .int .i64 x.Seq, .int .i64 x.Round, .int .i64 x.Vec.N, .slice a6 x.Vec.Items.length c6, .slice a7 x.Sums.length c7, .slice a8 x.Triples.length c8, .int .i64 x.N, .bool x.Over] ∧ RepSl eItem I a6 c6 x.Vec.Items ∧ RepSl eSum I a7 c7 x.Sums ∧ RepSl eTriple I a8 c8 x.Triples
  mono hle := fun ⟨a6, c6, a7, c7, a8, c8, e, h0, h1, h2⟩ => ⟨a6, c6, a7, c7, a8, c8, e, h0.mono hle, h1.mono hle, h2.mono hle⟩
  len := fun ⟨a6, c6, a7, c7, a8, c8, e, _, _, _⟩ => by rw [e]; rfl
  one := fun ⟨a6, c6, a7, c7, a8, c8, e, _, _, _⟩ => by rw [e]; rfl
structure Post_Box where
  room : Int
  row : List Int
  by_ : List (Int × Frame)
  often : List (Int × Int)
  sent : Int
  taken : Int
deriving DecidableEq
structure Law20_Act where
  Kind : Int
  K : Int
  N : Int
deriving DecidableEq
def encLaw20_Act (x : Law20_Act) : List Value := [.int .i64 x.Kind, .int .i64 x.K, .int .i64 x.N]
abbrev eLaw20_Act : Elem Law20_Act := flat 3 encLaw20_Act (fun _ => ⟨rfl, rfl⟩)
structure Ref20_Box where
  Many : Int
  Out : Int
  In : Int
  L : List Frame
deriving DecidableEq
def eRef20_Box : Elem Ref20_Box where
  sz := 4
  rep I cs x := ∃ a3 c3, cs = [.int .i64 x.Many, .int .i64 x.Out, .int .i64 x.In, .slice a3 x.L.length c3] ∧ RepSl eFrame I a3 c3 x.L
  mono hle := fun ⟨a3, c3, e, h0⟩ => ⟨a3, c3, e, h0.mono hle⟩
  len := fun ⟨a3, c3, e, _⟩ => by rw [e]; rfl
  one := fun ⟨a3, c3, e, _⟩ => by rw [e]; rfl

def slices_Clone_api_Item_api_Item (a0 : List Item) (Q : (List Item) → Prop) : Prop :=
  nilP a0 (Q ([] : List Item)) (appP 16 ([] : List Item) a0 fun _ => Q (([] : List Item) ++ a0))

def slices_Clone_api_Sum_api_Sum (a0 : List Sum) (Q : (List Sum) → Prop) : Prop :=
  nilP a0 (Q ([] : List Sum)) (appP 24 ([] : List Sum) a0 fun _ => Q (([] : List Sum) ++ a0))

def slices_Clone_api_Triple_api_Triple (a0 : List Triple) (Q : (List Triple) → Prop) : Prop :=
  nilP a0 (Q ([] : List Triple)) (appP 24 ([] : List Triple) a0 fun _ => Q (([] : List Triple) ++ a0))

def post_own (a0 : Frame) (Q : Frame → Prop) : Prop :=
  slices_Clone_api_Item_api_Item a0.Vec.Items fun r38 => slices_Clone_api_Sum_api_Sum a0.Sums fun r49 => slices_Clone_api_Triple_api_Triple a0.Triples fun r60 => Q ({ Kind := a0.Kind, From := a0.From, To := a0.To, Seq := a0.Seq, Round := a0.Round, Vec := ({ N := a0.Vec.N, Items := r38 } : Vec), Sums := r49, Triples := r60, N := a0.N, Over := a0.Over } : Frame)

def slices_Min_int_int (a0 : List Int) (Q : Int → Prop) : Prop :=
  ifP (decide ((a0.length : Int) < 1)) (False) (idxP a0 0 fun x16 => loopP (fun (s : Int × Int) (next54 : (Int × Int) → Prop) => match s with | (s52, s53) => ifP (decide (s53 < (a0.length : Int))) (idxP a0 s53 fun x61 => next54 ((if x61 < s52 then x61 else s52), w64 (s53 + 1))) (Q s52)) (x16, 1))

def post_New_i0  (Q : (Int × Post_Box) → Prop) : Prop :=
  Q (0, ({ room := 2, row := ([] : List Int), by_ := ([] : List (Int × Frame)), often := ([] : List (Int × Int)), sent := 0, taken := 0 } : Post_Box))

def post_New_i1  (Q : Int → Prop) : Prop :=
  Q 3

def post_Box_full_i3 (o0 : Post_Box) (Q : Bool → Prop) : Prop :=
  Q (decide (o0.room ≤ (o0.row.length : Int)))

def post_Box_put_i4 (o0 : Post_Box) (a0 : Int) (Q : Post_Box → Prop) : Prop :=
  appP 8 o0.row ([a0]) fun _ => lkP o0.often a0 0 fun r17 => Q ({ room := o0.room, row := (o0.row ++ ([a0])), by_ := o0.by_, often := (mput a0 (w64 (r17 + 1)) o0.often), sent := o0.sent, taken := o0.taken } : Post_Box)

def post_Box_Send_i2 (o0 : Post_Box) (a0 : Frame) (Q : (Int × Post_Box) → Prop) : Prop :=
  post_Box_full_i3 o0 fun r39 => ifP r39 (Q (9, o0)) (post_own a0 fun r59 => post_Box_put_i4 ({ room := o0.room, row := o0.row, by_ := (mput o0.sent ({ Kind := r59.Kind, From := r59.From, To := r59.To, Seq := o0.sent, Round := r59.Round, Vec := r59.Vec, Sums := r59.Sums, Triples := r59.Triples, N := r59.N, Over := r59.Over } : Frame) o0.by_), often := o0.often, sent := o0.sent, taken := o0.taken } : Post_Box) o0.sent fun r100 => Q (0, ({ room := r100.room, row := r100.row, by_ := r100.by_, often := r100.often, sent := w64 (r100.sent + 1), taken := r100.taken } : Post_Box)))

def post_Box_at_i6 (o0 : Post_Box) (a0 : Int) (Q : Int → Prop) : Prop :=
  ifP (decide (a0 < 0)) (Q 3) (ifP (decide ((o0.row.length : Int) ≤ a0)) (Q 3) (Q 0))

def slices_Delete_int_int_i8 (o0 : List Int) (a0 : Int) (a1 : Int) (Q : (List Int) → Prop) : Prop :=
  slP o0 a0 a1 fun _ => ifP (a0 == a1) (Q o0) (slP o0 0 a0 fun _ => slP o0 a1 (o0.length : Int) fun _ => Q (o0.take a0.toNat ++ o0.drop a1.toNat))

def post_Box_out_i7 (o0 : Post_Box) (a0 : Int) (Q : (Frame × Post_Box) → Prop) : Prop :=
  idxP o0.row a0 fun x21 => lkP o0.by_ x21 ({ Kind := 0, From := 0, To := 0, Seq := 0, Round := 0, Vec := ({ N := 0, Items := ([] : List Item) } : Vec), Sums := ([] : List Sum), Triples := ([] : List Triple), N := 0, Over := false } : Frame) fun r42 => slices_Delete_int_int_i8 o0.row a0 (w64 (a0 + 1)) fun r76 => lkP o0.often x21 0 fun r87 => lkP (mput x21 (w64 (r87 - 1)) o0.often) x21 0 fun r99 => ifP (r99 == 0) (Q (r42, ({ room := o0.room, row := r76, by_ := (mdel x21 o0.by_), often := (mdel x21 (mput x21 (w64 (r87 - 1)) o0.often)), sent := o0.sent, taken := o0.taken } : Post_Box))) (Q (r42, ({ room := o0.room, row := r76, by_ := o0.by_, often := (mput x21 (w64 (r87 - 1)) o0.often), sent := o0.sent, taken := o0.taken } : Post_Box)))

def post_Box_Take_i5 (o0 : Post_Box) (a0 : Int) (Q : (Frame × Bool × Int × Post_Box) → Prop) : Prop :=
  post_Box_at_i6 o0 a0 fun r53 => ifP (r53 != 0) (Q (({ Kind := 0, From := 0, To := 0, Seq := 0, Round := 0, Vec := ({ N := 0, Items := ([] : List Item) } : Vec), Sums := ([] : List Sum), Triples := ([] : List Triple), N := 0, Over := false } : Frame), false, r53, o0)) (idxP o0.row a0 fun x58 => ifP (decide (o0.taken < x58)) (Q (({ Kind := 0, From := 0, To := 0, Seq := 0, Round := 0, Vec := ({ N := 0, Items := ([] : List Item) } : Vec), Sums := ([] : List Sum), Triples := ([] : List Triple), N := 0, Over := false } : Frame), false, r53, o0)) (post_Box_out_i7 o0 a0 fun r98 => ifP (decide (r98.1.Seq < r98.2.taken)) (Q (({ Kind := 0, From := 0, To := 0, Seq := 0, Round := 0, Vec := ({ N := 0, Items := ([] : List Item) } : Vec), Sums := ([] : List Sum), Triples := ([] : List Triple), N := 0, Over := false } : Frame), false, 0, r98.2)) (post_own r98.1 fun r123 => Q (r123, true, 0, ({ room := r98.2.room, row := r98.2.row, by_ := r98.2.by_, often := r98.2.often, sent := r98.2.sent, taken := w64 (r98.2.taken + 1) } : Post_Box)))))

def post_Box_Len_i10 (o0 : Post_Box) (Q : Int → Prop) : Prop :=
  Q (o0.row.length : Int)

def post_Box_Oldest_1_i12 (o0 : Int) (a0 : Int) (Q : Bool → Prop) : Prop :=
  Q (a0 == o0)

def slices_IndexFunc_int_int_i11 (o0 : List Int) (o1 : Int) (Q : Int → Prop) : Prop :=
  loopP (fun (s41 : Int) (next42 : Int → Prop) => ifP (decide (s41 < (o0.length : Int))) (idxP o0 s41 fun x49 => post_Box_Oldest_1_i12 o1 x49 fun r59 => ifP r59 (Q s41) (next42 (w64 (s41 + 1)))) (Q (-1))) 0

def post_Box_Oldest_i9 (o0 : Post_Box) (Q : Int → Prop) : Prop :=
  post_Box_Len_i10 o0 fun r26 => ifP (r26 == 0) (Q (-1)) (slices_Min_int_int o0.row fun r29 => slices_IndexFunc_int_int_i11 o0.row r29 fun r41 => Q r41)

def post_Box_Room_i13 (o0 : Post_Box) (Q : Int → Prop) : Prop :=
  Q o0.room

def post_Box_Sent_i14 (o0 : Post_Box) (Q : Int → Prop) : Prop :=
  Q o0.sent

def post_Box_Taken_i15 (o0 : Post_Box) (Q : Int → Prop) : Prop :=
  Q o0.taken

def post_Box_Frames_i16 (o0 : Post_Box) (Q : (List Frame) → Prop) : Prop :=
  loopP (fun (s : (List Frame) × Int) (next133 : ((List Frame) × Int) → Prop) => match s with | (s127, s131) => ifP (decide (s131 < (o0.row.length : Int))) (idxP o0.row s131 fun x145 => lkP o0.by_ x145 ({ Kind := 0, From := 0, To := 0, Seq := 0, Round := 0, Vec := ({ N := 0, Items := ([] : List Item) } : Vec), Sums := ([] : List Sum), Triples := ([] : List Triple), N := 0, Over := false } : Frame) fun r149 => post_own r149 fun r164 => appP 136 s127 ([r164]) fun _ => next133 ((s127 ++ ([r164])), w64 (s131 + 1))) (Q s127)) (([] : List Frame), 0)

def law20_live  (Q : Bool → Prop) : Prop :=
  post_New_i0  fun r25 => post_New_i1  fun r51 => post_Box_Send_i2 r25.2 ({ Kind := 0, From := 0, To := 0, Seq := 0, Round := 0, Vec := ({ N := 0, Items := ([] : List Item) } : Vec), Sums := ([] : List Sum), Triples := ([] : List Triple), N := 7, Over := false } : Frame) fun r95 => post_Box_Send_i2 r95.2 ({ Kind := 0, From := 0, To := 0, Seq := 0, Round := 0, Vec := ({ N := 0, Items := ([] : List Item) } : Vec), Sums := ([] : List Sum), Triples := ([] : List Triple), N := 8, Over := false } : Frame) fun r113 => post_Box_Send_i2 r113.2 ({ Kind := 0, From := 0, To := 0, Seq := 0, Round := 0, Vec := ({ N := 0, Items := ([] : List Item) } : Vec), Sums := ([] : List Sum), Triples := ([] : List Triple), N := 9, Over := false } : Frame) fun r149 => post_Box_Take_i5 r149.2 1 fun r196 => post_Box_Take_i5 r196.2.2.2 0 fun r254 => post_Box_Take_i5 r254.2.2.2 5 fun r312 => post_Box_Oldest_i9 r312.2.2.2 fun r378 => post_Box_Take_i5 r312.2.2.2 r378 fun r386 => ifP (r25.1 == 0) (ifP (r51 == 3) (ifP (r95.1 == 0) (ifP (r113.1 == 0) (ifP (r149.1 == 9) (ifP (!r196.2.1) (ifP r254.2.1 (ifP (r254.2.2.1 == 0) (ifP (r254.1.N == 7) (ifP r386.2.1 (ifP (r386.1.N == 8) (ifP (r386.1.Seq == 1) (ifP (r312.2.2.1 == 3) (post_Box_Len_i10 r386.2.2.2 fun r428 => ifP (r428 == 0) (post_Box_Room_i13 r386.2.2.2 fun r437 => ifP (r437 == 2) (post_Box_Sent_i14 r386.2.2.2 fun r446 => ifP (r446 == 2) (post_Box_Taken_i15 r386.2.2.2 fun r455 => ifP (r455 == 2) (post_Box_Oldest_i9 r386.2.2.2 fun r464 => ifP (r464 == (-1)) (post_Box_Frames_i16 r386.2.2.2 fun r473 => Q ((r473.length : Int) == 0)) (Q false)) (Q false)) (Q false)) (Q false)) (Q false)) (Q false)) (Q false)) (Q false)) (Q false)) (Q false)) (Q false)) (Q false)) (Q false)) (Q false)) (Q false)) (Q false)) (Q false)) (Q false)

def post_New_i17 (a0 : Int) (Q0 : Int → Prop) (Q1 : (Int × Post_Box) → Prop) : Prop :=
  ifP (decide (a0 < 1)) (Q0 3) (ifP (decide (64 < a0)) (Q0 3) (Q1 (0, ({ room := a0, row := ([] : List Int), by_ := ([] : List (Int × Frame)), often := ([] : List (Int × Int)), sent := 0, taken := 0 } : Post_Box))))

def post_Box_Double_i18 (o0 : Post_Box) (a0 : Int) (Q : (Int × Post_Box) → Prop) : Prop :=
  post_Box_at_i6 o0 a0 fun r26 => ifP (r26 != 0) (Q (r26, o0)) (post_Box_full_i3 o0 fun r44 => ifP r44 (Q (9, o0)) (idxP o0.row a0 fun x48 => post_Box_put_i4 o0 x48 fun r58 => Q (0, r58)))

def law20_PostFull (a0 : Int) (Q : Bool → Prop) : Prop :=
  post_New_i17 (w64 (((w64 (a0)).tmod 64) + 1)) (fun r47 => Q false) (fun r48 => post_Box_Send_i2 r48.2 ({ Kind := 0, From := 0, To := 0, Seq := 0, Round := 0, Vec := ({ N := 0, Items := ([] : List Item) } : Vec), Sums := ([] : List Sum), Triples := ([] : List Triple), N := 5, Over := false } : Frame) fun r86 => ifP (r86.1 != 0) (Q false) (loopP (fun (s : Int × (List Int) × (List (Int × Frame)) × (List (Int × Int)) × Int × Int × Int) (next294 : (Int × (List Int) × (List (Int × Frame)) × (List (Int × Int)) × Int × Int × Int) → Prop) => match s with | (s284, s285, s289, s290, s291, s292, s293) => ifP (decide (s293 < (w64 (((w64 (a0)).tmod 64) + 1)))) (post_Box_Double_i18 ({ room := s284, row := s285, by_ := s289, often := s290, sent := s291, taken := s292 } : Post_Box) 0 fun r307 => ifP (r307.1 != 0) (Q false) (next294 (r307.2.room, r307.2.row, r307.2.by_, r307.2.often, r307.2.sent, r307.2.taken, w64 (s293 + 1)))) (post_Box_Double_i18 ({ room := s284, row := s285, by_ := s289, often := s290, sent := s291, taken := s292 } : Post_Box) 0 fun r367 => ifP (r367.1 != 9) (Q false) (post_Box_Send_i2 r367.2 ({ Kind := 0, From := 0, To := 0, Seq := 0, Round := 0, Vec := ({ N := 0, Items := ([] : List Item) } : Vec), Sums := ([] : List Sum), Triples := ([] : List Triple), N := 0, Over := false } : Frame) fun r387 => ifP (r387.1 != 9) (Q false) (loopP (fun (s : Int × (List Int) × (List (Int × Frame)) × (List (Int × Int)) × Int × Int × Int × Int) (next715 : (Int × (List Int) × (List (Int × Frame)) × (List (Int × Int)) × Int × Int × Int × Int) → Prop) => match s with | (s704, s705, s709, s710, s711, s712, s713, s714) => ifP (decide (s714 < (w64 (((w64 (a0)).tmod 64) + 1)))) (post_Box_Oldest_i9 ({ room := s704, row := s705, by_ := s709, often := s710, sent := s711, taken := s712 } : Post_Box) fun r729 => post_Box_Take_i5 ({ room := s704, row := s705, by_ := s709, often := s710, sent := s711, taken := s712 } : Post_Box) r729 fun r739 => ifP r739.2.1 (next715 (r739.2.2.2.room, r739.2.2.2.row, r739.2.2.2.by_, r739.2.2.2.often, r739.2.2.2.sent, r739.2.2.2.taken, w64 (s713 + 1), w64 (s714 + 1))) (next715 (r739.2.2.2.room, r739.2.2.2.row, r739.2.2.2.by_, r739.2.2.2.often, r739.2.2.2.sent, r739.2.2.2.taken, s713, w64 (s714 + 1)))) (law20_live  fun r765 => ifP r765 (ifP (s713 == 1) (post_Box_Len_i10 ({ room := s704, row := s705, by_ := s709, often := s710, sent := s711, taken := s712 } : Post_Box) fun r783 => ifP (r783 == 0) (post_Box_Sent_i14 ({ room := s704, row := s705, by_ := s709, often := s710, sent := s711, taken := s712 } : Post_Box) fun r794 => Q (r794 == 1)) (Q false)) (Q false)) (Q false))) (r387.2.room, r387.2.row, r387.2.by_, r387.2.often, r387.2.sent, r387.2.taken, 0, 0))))) (r86.2.room, r86.2.row, r86.2.by_, r86.2.often, r86.2.sent, r86.2.taken, 1)))

def law20_Near (a0 : Int) (a1 : Int) (Q : Int → Prop) : Prop :=
  ifP (decide (a0 < 0)) (Q a0) (ifP (decide (a1 < 1)) (Q a0) (ifP ((a0.tmod 7) == 6) (Q a0) (nzP a1 <| Q (a0.tmod a1))))

def ref20_own (a0 : Frame) (Q : Frame → Prop) : Prop :=
  appP 16 ([] : List Item) a0.Vec.Items fun _ => appP 24 ([] : List Sum) a0.Sums fun _ => appP 24 ([] : List Triple) a0.Triples fun _ => Q ({ Kind := a0.Kind, From := a0.From, To := a0.To, Seq := a0.Seq, Round := a0.Round, Vec := ({ N := a0.Vec.N, Items := (([] : List Item) ++ a0.Vec.Items) } : Vec), Sums := (([] : List Sum) ++ a0.Sums), Triples := (([] : List Triple) ++ a0.Triples), N := a0.N, Over := a0.Over } : Frame)

def ref07_SameItems (a0 : List Item) (a1 : List Item) (Q : Bool → Prop) : Prop :=
  ifP ((a0.length : Int) != (a1.length : Int)) (Q false) (loopP (fun (s54 : Int) (next55 : Int → Prop) => ifP (decide (s54 < (a0.length : Int))) (idxP a0 s54 fun x62 => idxP a1 s54 fun x71 => ifP (!(x62 == x71)) (Q false) (next55 (w64 (s54 + 1)))) (Q true)) 0)

def ref09_Same (a0 : Vec) (a1 : Vec) (Q : Bool → Prop) : Prop :=
  ifP (a0.N == a1.N) (ref07_SameItems a0.Items a1.Items fun r16 => Q r16) (Q false)

def ref13_SameSums (a0 : List Sum) (a1 : List Sum) (Q : Bool → Prop) : Prop :=
  ifP ((a0.length : Int) != (a1.length : Int)) (Q false) (loopP (fun (s54 : Int) (next55 : Int → Prop) => ifP (decide (s54 < (a0.length : Int))) (idxP a0 s54 fun x62 => idxP a1 s54 fun x71 => ifP (!(x62 == x71)) (Q false) (next55 (w64 (s54 + 1)))) (Q true)) 0)

def ref06_SameTriples (a0 : List Triple) (a1 : List Triple) (Q : Bool → Prop) : Prop :=
  ifP ((a0.length : Int) != (a1.length : Int)) (Q false) (loopP (fun (s54 : Int) (next55 : Int → Prop) => ifP (decide (s54 < (a0.length : Int))) (idxP a0 s54 fun x62 => idxP a1 s54 fun x71 => ifP (!(x62 == x71)) (Q false) (next55 (w64 (s54 + 1)))) (Q true)) 0)

def ref19_Same (a0 : Frame) (a1 : Frame) (Q : Bool → Prop) : Prop :=
  ifP (a0.Kind == a1.Kind) (ifP (a0.From == a1.From) (ifP (a0.To == a1.To) (ifP (a0.Seq == a1.Seq) (ifP (a0.Round == a1.Round) (ref09_Same a0.Vec a1.Vec fun r32 => ifP r32 (ref13_SameSums a0.Sums a1.Sums fun r41 => ifP r41 (ref06_SameTriples a0.Triples a1.Triples fun r50 => ifP r50 (ifP (a0.N == a1.N) (Q (a0.Over == a1.Over)) (Q false)) (Q false)) (Q false)) (Q false)) (Q false)) (Q false)) (Q false)) (Q false)) (Q false)

def ref19_SameFrames (a0 : List Frame) (a1 : List Frame) (Q : Bool → Prop) : Prop :=
  ifP ((a0.length : Int) != (a1.length : Int)) (Q false) (loopP (fun (s106 : Int) (next107 : Int → Prop) => ifP (decide (s106 < (a0.length : Int))) (idxP a0 s106 fun x114 => idxP a1 s106 fun x132 => ref19_Same x114 x132 fun r149 => ifP (!r149) (Q false) (next107 (w64 (s106 + 1)))) (Q true)) 0)

def ref20_New_i19 (a0 : Int) (Q0 : Int → Prop) (Q1 : (Int × Ref20_Box) → Prop) : Prop :=
  ifP (decide (a0 < 1)) (Q0 3) (ifP (decide (64 < a0)) (Q0 3) (Q1 (0, ({ Many := a0, Out := 0, In := 0, L := ([] : List Frame) } : Ref20_Box))))

def post_Box_Send_i20 (a0 : Frame) (Q : Int → Prop) : Prop :=
  Q 10

def post_Box_at_i22 (a0 : Int) (Q : Int → Prop) : Prop :=
  Q 10

def post_Box_Double_i21 (a0 : Int) (Q : Int → Prop) : Prop :=
  post_Box_at_i22 a0 fun r16 => ifP (r16 != 0) (Q r16) (False)

def post_Box_Move_i23 (a0 : Int) (Q : Int → Prop) : Prop :=
  post_Box_at_i22 a0 fun r16 => ifP (r16 != 0) (Q r16) (False)

def post_Box_Len_i25  (Q : Int → Prop) : Prop :=
  Q 0

def post_Box_Oldest_i24  (Q : Int → Prop) : Prop :=
  post_Box_Len_i25  fun r16 => ifP (r16 == 0) (Q (-1)) (False)

def post_Box_Room_i26  (Q : Int → Prop) : Prop :=
  Q 0

def post_Box_Sent_i27  (Q : Int → Prop) : Prop :=
  Q 0

def post_Box_Taken_i28  (Q : Int → Prop) : Prop :=
  Q 0

def post_Box_Frames_i29  (Q : (List Frame) → Prop) : Prop :=
  Q ([] : List Frame)

def ref20_Box_Len_i31 (o0 : Ref20_Box) (Q : Int → Prop) : Prop :=
  Q (o0.L.length : Int)

def ref20_Box_Send_i32 (o0 : Ref20_Box) (a0 : Frame) (Q : (Int × Ref20_Box) → Prop) : Prop :=
  ifP (decide (o0.Many ≤ (o0.L.length : Int))) (Q (9, o0)) (ref20_own a0 fun r39 => appP 136 o0.L ([({ Kind := r39.Kind, From := r39.From, To := r39.To, Seq := o0.Out, Round := r39.Round, Vec := r39.Vec, Sums := r39.Sums, Triples := r39.Triples, N := r39.N, Over := r39.Over } : Frame)]) fun _ => Q (0, ({ Many := o0.Many, Out := w64 (o0.Out + 1), In := o0.In, L := (o0.L ++ ([({ Kind := r39.Kind, From := r39.From, To := r39.To, Seq := o0.Out, Round := r39.Round, Vec := r39.Vec, Sums := r39.Sums, Triples := r39.Triples, N := r39.N, Over := r39.Over } : Frame)])) } : Ref20_Box)))

def ref20_Box_has_i34 (o0 : Ref20_Box) (a0 : Int) (Q : Int → Prop) : Prop :=
  ifP (decide (a0 < 0)) (Q 3) (ifP (decide ((o0.L.length : Int) ≤ a0)) (Q 3) (Q 0))

def ref20_Box_Double_i33 (o0 : Ref20_Box) (a0 : Int) (Q : (Int × Ref20_Box) → Prop) : Prop :=
  ref20_Box_has_i34 o0 a0 fun r22 => ifP (r22 != 0) (Q (r22, o0)) (ifP (decide (o0.Many ≤ (o0.L.length : Int))) (Q (9, o0)) (idxP o0.L a0 fun x29 => ref20_own x29 fun r44 => appP 136 o0.L ([r44]) fun _ => Q (0, ({ Many := o0.Many, Out := o0.Out, In := o0.In, L := (o0.L ++ ([r44])) } : Ref20_Box))))

def post_Box_Move_i35 (o0 : Post_Box) (a0 : Int) (Q : (Int × Post_Box) → Prop) : Prop :=
  post_Box_at_i6 o0 a0 fun r26 => ifP (r26 != 0) (Q (r26, o0)) (idxP o0.row a0 fun x35 => slices_Delete_int_int_i8 o0.row a0 (w64 (a0 + 1)) fun r45 => appP 8 r45 ([x35]) fun _ => Q (0, ({ room := o0.room, row := (r45 ++ ([x35])), by_ := o0.by_, often := o0.often, sent := o0.sent, taken := o0.taken } : Post_Box)))

def ref20_Box_remove_i37 (o0 : Ref20_Box) (a0 : Int) (Q : (Frame × Ref20_Box) → Prop) : Prop :=
  idxP o0.L a0 fun x30 => slP o0.L 0 a0 fun _ => appP 136 ([] : List Frame) ((o0.L.take a0.toNat).drop (Int.toNat 0)) fun _ => slP o0.L (w64 (a0 + 1)) (o0.L.length : Int) fun _ => appP 136 (([] : List Frame) ++ ((o0.L.take a0.toNat).drop (Int.toNat 0))) ((o0.L.take (o0.L.length : Int).toNat).drop (w64 (a0 + 1)).toNat) fun _ => Q (x30, ({ Many := o0.Many, Out := o0.Out, In := o0.In, L := ((([] : List Frame) ++ ((o0.L.take a0.toNat).drop (Int.toNat 0))) ++ ((o0.L.take (o0.L.length : Int).toNat).drop (w64 (a0 + 1)).toNat)) } : Ref20_Box))

def ref20_Box_Move_i36 (o0 : Ref20_Box) (a0 : Int) (Q : (Int × Ref20_Box) → Prop) : Prop :=
  ref20_Box_has_i34 o0 a0 fun r22 => ifP (r22 != 0) (Q (r22, o0)) (ref20_Box_remove_i37 o0 a0 fun r56 => appP 136 r56.2.L ([r56.1]) fun _ => Q (0, ({ Many := r56.2.Many, Out := r56.2.Out, In := r56.2.In, L := (r56.2.L ++ ([r56.1])) } : Ref20_Box)))

def ref20_Box_Oldest_i38 (o0 : Ref20_Box) (Q : Int → Prop) : Prop :=
  loopP (fun (s : Int × Int) (next49 : (Int × Int) → Prop) => match s with | (s47, s48) => ifP (decide (s48 < (o0.L.length : Int))) (ifP (decide (s47 < 0)) (next49 (s48, w64 (s48 + 1))) (idxP o0.L s48 fun x58 => idxP o0.L s47 fun x72 => ifP (decide (x58.Seq < x72.Seq)) (next49 (s48, w64 (s48 + 1))) (next49 (s47, w64 (s48 + 1))))) (Q s47)) ((-1), 0)

def ref20_Box_Take_i39 (o0 : Ref20_Box) (a0 : Int) (Q : (Frame × Bool × Int × Ref20_Box) → Prop) : Prop :=
  ref20_Box_has_i34 o0 a0 fun r42 => ifP (r42 != 0) (Q (({ Kind := 0, From := 0, To := 0, Seq := 0, Round := 0, Vec := ({ N := 0, Items := ([] : List Item) } : Vec), Sums := ([] : List Sum), Triples := ([] : List Triple), N := 0, Over := false } : Frame), false, r42, o0)) (idxP o0.L a0 fun x63 => ifP (decide (o0.In < x63.Seq)) (Q (({ Kind := 0, From := 0, To := 0, Seq := 0, Round := 0, Vec := ({ N := 0, Items := ([] : List Item) } : Vec), Sums := ([] : List Sum), Triples := ([] : List Triple), N := 0, Over := false } : Frame), false, 0, o0)) (ref20_Box_remove_i37 o0 a0 fun r108 => ifP (decide (r108.1.Seq < r108.2.In)) (Q (({ Kind := 0, From := 0, To := 0, Seq := 0, Round := 0, Vec := ({ N := 0, Items := ([] : List Item) } : Vec), Sums := ([] : List Sum), Triples := ([] : List Triple), N := 0, Over := false } : Frame), false, 0, r108.2)) (Q (r108.1, true, 0, ({ Many := r108.2.Many, Out := r108.2.Out, In := w64 (r108.2.In + 1), L := r108.2.L } : Ref20_Box)))))

def law20_both_do_i30 (o0 : Post_Box) (o1 : Ref20_Box) (a0 : Law20_Act) (Q : (Bool × Post_Box × Ref20_Box) → Prop) : Prop :=
  ref20_Box_Len_i31 o1 fun r47 => law20_Near a0.K r47 fun r49 => joinP (fun (k292 : Int → Prop) => ifP (a0.Kind == 0) (post_Box_Send_i2 o0 ({ Kind := 4, From := 0, To := 0, Seq := 0, Round := 0, Vec := ({ N := 9, Items := ([({ At := 3, Val := a0.N } : Item)] : List Item) } : Vec), Sums := ([] : List Sum), Triples := ([] : List Triple), N := a0.N, Over := false } : Frame) fun r305 => ref20_Box_Send_i32 o1 ({ Kind := 4, From := 0, To := 0, Seq := 0, Round := 0, Vec := ({ N := 9, Items := ([({ At := 3, Val := a0.N } : Item)] : List Item) } : Vec), Sums := ([] : List Sum), Triples := ([] : List Triple), N := a0.N, Over := false } : Frame) fun r324 => Q (r305.1 == r324.1, r305.2, r324.2)) (ifP (a0.Kind == 1) (post_Box_Double_i18 o0 r49 fun r340 => ref20_Box_Double_i33 o1 r49 fun r359 => Q (r340.1 == r359.1, r340.2, r359.2)) (ifP (a0.Kind == 2) (post_Box_Move_i35 o0 r49 fun r375 => ref20_Box_Move_i36 o1 r49 fun r394 => Q (r375.1 == r394.1, r375.2, r394.2)) (ifP (a0.Kind == 3) (k292 r49) (ref20_Box_Oldest_i38 o1 fun r410 => k292 r410))))) fun s291 => post_Box_Take_i5 o0 s291 fun r451 => ref20_Box_Take_i39 o1 s291 fun r505 => ref19_Same r451.1 r505.1 fun r525 => ifP r525 (ifP (r451.2.1 == r505.2.1) (Q (r451.2.2.1 == r505.2.2.1, r451.2.2.2, r505.2.2.2)) (Q (false, r451.2.2.2, r505.2.2.2))) (Q (false, r451.2.2.2, r505.2.2.2))

def ref20_Box_Frames_i41 (o0 : Ref20_Box) (Q : (List Frame) → Prop) : Prop :=
  loopP (fun (s : (List Frame) × Int) (next111 : ((List Frame) × Int) → Prop) => match s with | (s105, s109) => ifP (decide (s109 < (o0.L.length : Int))) (idxP o0.L s109 fun x118 => ref20_own x118 fun r133 => appP 136 s105 ([r133]) fun _ => next111 ((s105 ++ ([r133])), w64 (s109 + 1))) (Q s105)) (([] : List Frame), 0)

def law20_both_same_i40 (o0 : Post_Box) (o1 : Ref20_Box) (Q : Bool → Prop) : Prop :=
  post_Box_Len_i10 o0 fun r27 => ref20_Box_Len_i31 o1 fun r35 => ifP (r27 == r35) (post_Box_Oldest_i9 o0 fun r44 => ref20_Box_Oldest_i38 o1 fun r52 => ifP (r44 == r52) (post_Box_Sent_i14 o0 fun r61 => ifP (r61 == o1.Out) (post_Box_Taken_i15 o0 fun r70 => ifP (r70 == o1.In) (post_Box_Frames_i16 o0 fun r79 => ref20_Box_Frames_i41 o1 fun r90 => ref19_SameFrames r79 r90 fun r95 => Q r95) (Q false)) (Q false)) (Q false)) (Q false)

def law20_PostPlays (a0 : Int) (a1 : List Law20_Act) (Q : Bool → Prop) : Prop :=
  post_New_i17 a0 (fun r50 => ref20_New_i19 a0 (fun r101 => ifP (r50 != r101) (Q false) (law20_live  fun r204 => ifP r204 (post_Box_Send_i20 ({ Kind := 0, From := 0, To := 0, Seq := 0, Round := 0, Vec := ({ N := 0, Items := ([] : List Item) } : Vec), Sums := ([] : List Sum), Triples := ([] : List Triple), N := 0, Over := false } : Frame) fun r219 => ifP (r219 == 10) (post_Box_Double_i21 0 fun r228 => ifP (r228 == 10) (post_Box_Move_i23 0 fun r237 => ifP (r237 == 10) (post_Box_Oldest_i24  fun r246 => ifP (r246 == (-1)) (post_Box_Len_i25  fun r255 => ifP (r255 == 0) (post_Box_Room_i26  fun r264 => ifP (r264 == 0) (post_Box_Sent_i27  fun r273 => ifP (r273 == 0) (post_Box_Taken_i28  fun r282 => ifP (r282 == 0) (post_Box_Frames_i29  fun r291 => Q ((r291.length : Int) == 0)) (Q false)) (Q false)) (Q false)) (Q false)) (Q false)) (Q false)) (Q false)) (Q false)) (Q false))) (fun r102 => ifP (r50 != r102.1) (Q false) (Q false))) (fun r51 => ref20_New_i19 a0 (fun r338 => ifP (r51.1 != r338) (Q false) (Q false)) (fun r339 => ifP (r51.1 != r339.1) (Q false) (loopP (fun (s : Int × (List Int) × (List (Int × Frame)) × (List (Int × Int)) × Int × Int × Int × Int × Int × (List Frame) × Int) (next524 : (Int × (List Int) × (List (Int × Frame)) × (List (Int × Int)) × Int × Int × Int × Int × Int × (List Frame) × Int) → Prop) => match s with | (s507, s508, s512, s513, s514, s515, s516, s517, s518, s519, s523) => ifP (decide (s523 < (a1.length : Int))) (ifP (decide (s523 < 80)) (idxP a1 s523 fun x536 => law20_both_do_i30 ({ room := s507, row := s508, by_ := s512, often := s513, sent := s514, taken := s515 } : Post_Box) ({ Many := s516, Out := s517, In := s518, L := s519 } : Ref20_Box) x536 fun r550 => ifP (!r550.1) (Q false) (law20_both_same_i40 r550.2.1 r550.2.2 fun r576 => ifP (!r576) (Q false) (next524 (r550.2.1.room, r550.2.1.row, r550.2.1.by_, r550.2.1.often, r550.2.1.sent, r550.2.1.taken, r550.2.2.Many, r550.2.2.Out, r550.2.2.In, r550.2.2.L, w64 (s523 + 1))))) (law20_live  fun r580 => ifP r580 (post_Box_Room_i13 ({ room := s507, row := s508, by_ := s512, often := s513, sent := s514, taken := s515 } : Post_Box) fun r596 => Q (r596 == a0)) (Q false))) (law20_live  fun r599 => ifP r599 (post_Box_Room_i13 ({ room := s507, row := s508, by_ := s512, often := s513, sent := s514, taken := s515 } : Post_Box) fun r615 => Q (r615 == a0)) (Q false))) (r51.2.room, r51.2.row, r51.2.by_, r51.2.often, r51.2.sent, r51.2.taken, r339.2.Many, r339.2.Out, r339.2.In, r339.2.L, 0))))

def law20_PostOrder (a0 : Int) (a1 : List Law20_Act) (Q : Bool → Prop) : Prop :=
  post_New_i17 (w64 (((w64 (a0)).tmod 64) + 1)) (fun r50 => Q false) (fun r51 => ifP (r51.1 != 0) (Q false) (joinP (fun (k2732 : (Int × (List Int) × (List (Int × Frame)) × (List (Int × Int)) × Int × Int × (List Int) × Int) → Prop) => loopP (fun (s : Int × (List Int) × (List (Int × Frame)) × (List (Int × Int)) × Int × Int × (List Int) × Int × Int) (next3741 : (Int × (List Int) × (List (Int × Frame)) × (List (Int × Int)) × Int × Int × (List Int) × Int × Int) → Prop) => match s with | (s3725, s3726, s3730, s3731, s3732, s3733, s3734, s3738, s3739) => ifP (decide (s3739 < (a1.length : Int))) (ifP (decide (s3739 < 80)) (idxP a1 s3739 fun x3762 => post_Box_Len_i10 ({ room := s3725, row := s3726, by_ := s3730, often := s3731, sent := s3732, taken := s3733 } : Post_Box) fun r3796 => law20_Near x3762.K r3796 fun r3799 => ifP (x3762.Kind == 0) (post_Box_Len_i10 ({ room := s3725, row := s3726, by_ := s3730, often := s3731, sent := s3732, taken := s3733 } : Post_Box) fun r3824 => post_Box_Send_i2 ({ room := s3725, row := s3726, by_ := s3730, often := s3731, sent := s3732, taken := s3733 } : Post_Box) ({ Kind := 0, From := 0, To := 0, Seq := 0, Round := 0, Vec := ({ N := 0, Items := ([] : List Item) } : Vec), Sums := ([] : List Sum), Triples := ([] : List Triple), N := x3762.N, Over := false } : Frame) fun r3852 => joinP (fun (k3870 : Bool → Prop) => ifP (!((r3852.1 == 9) == (r3824 == (w64 (((w64 (a0)).tmod 64) + 1))))) (k3870 true) (ifP (r3852.1 == 0) (k3870 (r3824 == (w64 (((w64 (a0)).tmod 64) + 1)))) (k3870 false))) fun s3869 => ifP s3869 (Q false) (ifP (r3852.1 == 0) (appP 8 s3734 ([x3762.N]) fun _ => post_Box_Len_i10 r3852.2 fun r3892 => ifP (decide ((w64 (((w64 (a0)).tmod 64) + 1)) < r3892)) (Q false) (next3741 (r3852.2.room, r3852.2.row, r3852.2.by_, r3852.2.often, r3852.2.sent, r3852.2.taken, (s3734 ++ ([x3762.N])), s3738, w64 (s3739 + 1)))) (post_Box_Len_i10 r3852.2 fun r3903 => ifP (decide ((w64 (((w64 (a0)).tmod 64) + 1)) < r3903)) (Q false) (next3741 (r3852.2.room, r3852.2.row, r3852.2.by_, r3852.2.often, r3852.2.sent, r3852.2.taken, s3734, s3738, w64 (s3739 + 1)))))) (ifP (x3762.Kind == 1) (post_Box_Double_i18 ({ room := s3725, row := s3726, by_ := s3730, often := s3731, sent := s3732, taken := s3733 } : Post_Box) r3799 fun r3915 => post_Box_Len_i10 r3915.2 fun r3934 => ifP (decide ((w64 (((w64 (a0)).tmod 64) + 1)) < r3934)) (Q false) (next3741 (r3915.2.room, r3915.2.row, r3915.2.by_, r3915.2.often, r3915.2.sent, r3915.2.taken, s3734, s3738, w64 (s3739 + 1)))) (ifP (x3762.Kind == 2) (post_Box_Move_i35 ({ room := s3725, row := s3726, by_ := s3730, often := s3731, sent := s3732, taken := s3733 } : Post_Box) r3799 fun r3945 => post_Box_Len_i10 r3945.2 fun r3964 => ifP (decide ((w64 (((w64 (a0)).tmod 64) + 1)) < r3964)) (Q false) (next3741 (r3945.2.room, r3945.2.row, r3945.2.by_, r3945.2.often, r3945.2.sent, r3945.2.taken, s3734, s3738, w64 (s3739 + 1)))) (post_Box_Take_i5 ({ room := s3725, row := s3726, by_ := s3730, often := s3731, sent := s3732, taken := s3733 } : Post_Box) r3799 fun r4004 => ifP r4004.2.1 (ifP (decide ((s3734.length : Int) ≤ s3738)) (Q false) (idxP s3734 s3738 fun x4033 => ifP (r4004.1.N != x4033) (Q false) (ifP (r4004.1.Seq != s3738) (Q false) (post_Box_Len_i10 r4004.2.2.2 fun r4045 => ifP (decide ((w64 (((w64 (a0)).tmod 64) + 1)) < r4045)) (Q false) (next3741 (r4004.2.2.2.room, r4004.2.2.2.row, r4004.2.2.2.by_, r4004.2.2.2.often, r4004.2.2.2.sent, r4004.2.2.2.taken, s3734, w64 (s3738 + 1), w64 (s3739 + 1))))))) (post_Box_Len_i10 r4004.2.2.2 fun r4055 => ifP (decide ((w64 (((w64 (a0)).tmod 64) + 1)) < r4055)) (Q false) (next3741 (r4004.2.2.2.room, r4004.2.2.2.row, r4004.2.2.2.by_, r4004.2.2.2.often, r4004.2.2.2.sent, r4004.2.2.2.taken, s3734, s3738, w64 (s3739 + 1)))))))) (k2732 (s3725, s3726, s3730, s3731, s3732, s3733, s3734, s3738))) (k2732 (s3725, s3726, s3730, s3731, s3732, s3733, s3734, s3738))) (r51.2.room, r51.2.row, r51.2.by_, r51.2.often, r51.2.sent, r51.2.taken, ([] : List Int), 0, 0)) fun (s2718, s2719, s2723, s2724, s2725, s2726, s2727, s2731) => loopP (fun (s : Int × (List Int) × (List (Int × Frame)) × (List (Int × Int)) × Int × Int × Int) (next4419 : (Int × (List Int) × (List (Int × Frame)) × (List (Int × Int)) × Int × Int × Int) → Prop) => match s with | (s4409, s4410, s4414, s4415, s4416, s4417, s4418) => post_Box_Len_i10 ({ room := s4409, row := s4410, by_ := s4414, often := s4415, sent := s4416, taken := s4417 } : Post_Box) fun r4442 => ifP (decide (0 < r4442)) (post_Box_Len_i10 ({ room := s4409, row := s4410, by_ := s4414, often := s4415, sent := s4416, taken := s4417 } : Post_Box) fun r4463 => post_Box_Oldest_i9 ({ room := s4409, row := s4410, by_ := s4414, often := s4415, sent := s4416, taken := s4417 } : Post_Box) fun r4514 => post_Box_Take_i5 ({ room := s4409, row := s4410, by_ := s4414, often := s4415, sent := s4416, taken := s4417 } : Post_Box) r4514 fun r4524 => ifP r4524.2.1 (ifP (decide ((s2727.length : Int) ≤ s4418)) (Q false) (idxP s2727 s4418 fun x4554 => ifP (r4524.1.N != x4554) (Q false) (ifP (r4524.2.2.1 != 0) (Q false) (post_Box_Len_i10 r4524.2.2.2 fun r4566 => ifP (decide (r4463 ≤ r4566)) (Q false) (next4419 (r4524.2.2.2.room, r4524.2.2.2.row, r4524.2.2.2.by_, r4524.2.2.2.often, r4524.2.2.2.sent, r4524.2.2.2.taken, w64 (s4418 + 1))))))) (ifP (r4524.2.2.1 != 0) (Q false) (post_Box_Len_i10 r4524.2.2.2 fun r4578 => ifP (decide (r4463 ≤ r4578)) (Q false) (next4419 (r4524.2.2.2.room, r4524.2.2.2.row, r4524.2.2.2.by_, r4524.2.2.2.often, r4524.2.2.2.sent, r4524.2.2.2.taken, s4418))))) (law20_live  fun r4583 => ifP r4583 (Q (s4418 == (s2727.length : Int))) (Q false))) (s2718, s2719, s2723, s2724, s2725, s2726, s2731)))
end Go.Proofs.Ytjpmbedipdkakaa
