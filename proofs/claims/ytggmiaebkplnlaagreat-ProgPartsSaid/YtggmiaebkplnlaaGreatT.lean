/- Types, and pure functions as the Go text has them (printed by a program of ours). -/
import Derived.Test.YtggmiaebkplnlaaGreatFwS
import Derived.Test.YtggmiaebkplnlaaGreatFwV
namespace Go.Proofs.YtggmiaebkplnlaaGreat
open Go Go.Fw
set_option linter.unusedVariables false
set_option linter.unusedSimpArgs false
set_option maxRecDepth 8000
set_option maxHeartbeats 1000000
abbrev eI64 : Elem Int := flat 1 (fun x => [.int .i64 x]) (fun _ => ⟨rfl, rfl⟩)
abbrev eU64 : Elem Int := flat 1 (fun x => [.int .u64 x]) (fun _ => ⟨rfl, rfl⟩)
abbrev eU8 : Elem Int := flat 1 (fun x => [.int .u8 x]) (fun _ => ⟨rfl, rfl⟩)
abbrev eI32 : Elem Int := flat 1 (fun x => [.int .i32 x]) (fun _ => ⟨rfl, rfl⟩)
abbrev eB : Elem Bool := flat 1 (fun x => [.bool x]) (fun _ => ⟨rfl, rfl⟩)
structure Plan where
  Kind : Int
  N : Int
  Source : Int
  Length : Int
  Draws : List Int
deriving DecidableEq, Inhabited
def ePlan : Elem Plan where
  sz := 5
  rep I cs x := ∃ a4 c4, cs = [.int .i64 x.Kind, .int .i64 x.N, .int .i64 x.Source, .int .i64 x.Length, .slice a4 x.Draws.length c4] ∧ RepSl eI64 I a4 c4 x.Draws
  mono hle := fun ⟨a4, c4, e, h0⟩ => ⟨a4, c4, e, h0.mono hle⟩
  len := fun ⟨a4, c4, e, _⟩ => by rw [e]; rfl
  one := fun ⟨a4, c4, e, _⟩ => by rw [e]; rfl
structure Edge where
  From : Int
  To : Int
  W : Int
deriving DecidableEq, Inhabited
def encEdge (x : Edge) : List Value := [.int .i64 x.From, .int .i64 x.To, .int .i64 x.W]
abbrev eEdge : Elem Edge := flat 3 encEdge (fun _ => ⟨rfl, rfl⟩)
structure Graph where
  N : Int
  Edges : List Edge
deriving DecidableEq, Inhabited
def eGraph : Elem Graph where
  sz := 2
  rep I cs x := ∃ a1 c1, cs = [.int .i64 x.N, .slice a1 x.Edges.length c1] ∧ RepSl eEdge I a1 c1 x.Edges
  mono hle := fun ⟨a1, c1, e, h0⟩ => ⟨a1, c1, e, h0.mono hle⟩
  len := fun ⟨a1, c1, e, _⟩ => by rw [e]; rfl
  one := fun ⟨a1, c1, e, _⟩ => by rw [e]; rfl
structure Wide where
  Hi : Int
  Lo : Int
deriving DecidableEq, Inhabited
def encWide (x : Wide) : List Value := [.int .i64 x.Hi, .int .u64 x.Lo]
abbrev eWide : Elem Wide := flat 2 encWide (fun _ => ⟨rfl, rfl⟩)
structure Rows where
  Rows : Int
  Cols : Int
  Start : List Int
  Col : List Int
  Val : List Int
deriving DecidableEq, Inhabited
def eRows : Elem Rows where
  sz := 5
  rep I cs x := ∃ a2 c2 a3 c3 a4 c4, cs = [.int .i64 x.Rows, .int .i64 x.Cols, .slice a2 x.Start.length c2, .slice a3 x.Col.length c3, .slice a4 x.Val.length c4] ∧ RepSl eI64 I a2 c2 x.Start ∧ RepSl eI64 I a3 c3 x.Col ∧ RepSl eI64 I a4 c4 x.Val
  mono hle := fun ⟨a2, c2, a3, c3, a4, c4, e, h0, h1, h2⟩ => ⟨a2, c2, a3, c3, a4, c4, e, h0.mono hle, h1.mono hle, h2.mono hle⟩
  len := fun ⟨a2, c2, a3, c3, a4, c4, e, _, _, _⟩ => by rw [e]; rfl
  one := fun ⟨a2, c2, a3, c3, a4, c4, e, _, _, _⟩ => by rw [e]; rfl
structure Triple where
  Row : Int
  Col : Int
  Val : Int
deriving DecidableEq, Inhabited
def encTriple (x : Triple) : List Value := [.int .i64 x.Row, .int .i64 x.Col, .int .i64 x.Val]
abbrev eTriple : Elem Triple := flat 3 encTriple (fun _ => ⟨rfl, rfl⟩)
structure State where
  Low : Int
  High : Int
  A : List Int
  B : List Int
  On : List Int
deriving DecidableEq, Inhabited
def eState : Elem State where
  sz := 5
  rep I cs x := ∃ a2 c2 a3 c3 a4 c4, cs = [.int .i64 x.Low, .int .i64 x.High, .slice a2 x.A.length c2, .slice a3 x.B.length c3, .slice a4 x.On.length c4] ∧ RepSl eI64 I a2 c2 x.A ∧ RepSl eI64 I a3 c3 x.B ∧ RepSl eU64 I a4 c4 x.On
  mono hle := fun ⟨a2, c2, a3, c3, a4, c4, e, h0, h1, h2⟩ => ⟨a2, c2, a3, c3, a4, c4, e, h0.mono hle, h1.mono hle, h2.mono hle⟩
  len := fun ⟨a2, c2, a3, c3, a4, c4, e, _, _, _⟩ => by rw [e]; rfl
  one := fun ⟨a2, c2, a3, c3, a4, c4, e, _, _, _⟩ => by rw [e]; rfl
structure Item where
  At : Int
  Val : Int
deriving DecidableEq, Inhabited
def encItem (x : Item) : List Value := [.int .i64 x.At, .int .i64 x.Val]
abbrev eItem : Elem Item := flat 2 encItem (fun _ => ⟨rfl, rfl⟩)
structure Vec where
  N : Int
  Items : List Item
deriving DecidableEq, Inhabited
def eVec : Elem Vec where
  sz := 2
  rep I cs x := ∃ a1 c1, cs = [.int .i64 x.N, .slice a1 x.Items.length c1] ∧ RepSl eItem I a1 c1 x.Items
  mono hle := fun ⟨a1, c1, e, h0⟩ => ⟨a1, c1, e, h0.mono hle⟩
  len := fun ⟨a1, c1, e, _⟩ => by rw [e]; rfl
  one := fun ⟨a1, c1, e, _⟩ => by rw [e]; rfl

def prog_within (a0 : Int) (a1 : Int) (Q : Bool → Prop) : Prop :=
  ifP (decide (0 ≤ a0)) (Q (decide (a0 ≤ a1))) (Q false)

def prog_Right_1 (a0 : Int) (Q : Bool → Prop) : Prop :=
  ifP (decide (a0 < 0)) (Q true) (Q (decide (2147483647 < a0)))

def prog_Right_1_a45 (a0 : Int) (Q : Bool → Prop) : Prop :=
  ifP (decide (a0 < 0)) (Q true) (Q (decide (2147483647 < a0)))

def slices_IndexFunc_int64_int64_135 (a0 : List Int) (Q : Int → Prop) : Prop :=
  loopP (fun (s45 : Int) (next46 : Int → Prop) => ifP (decide (s45 < (a0.length : Int))) (idxP a0 s45 fun x52 => prog_Right_1_a45 x52 fun r66 => ifP r66 (Q s45) (next46 (w64 (s45 + 1)))) (Q (-1))) 0

def slices_ContainsFunc_int64_int64_80a (a0 : List Int) (Q : Bool → Prop) : Prop :=
  slices_IndexFunc_int64_int64_135 a0 fun r10 => Q (decide (0 ≤ r10))

def prog_Right (a0 : Plan) (Q : Int → Prop) : Prop :=
  ifP (decide (a0.Kind ≤ 0)) (Q 8) (ifP (decide (5 < a0.Kind)) (Q 8) (prog_within a0.N 4096 fun r17 => ifP (!r17) (Q 3) (joinP (fun (k92 : Unit → Prop) => joinP (fun (k111 : Unit → Prop) => ifP (a0.Kind == 4) (prog_within a0.Length 8192 fun r114 => ifP (!r114) (Q 3) (k111 ())) (ifP (a0.Kind == 1) (k111 ()) (ifP (a0.Kind == 2) (k111 ()) (k92 ())))) fun _ => prog_within a0.Source (w64 (a0.N - 1)) fun r123 => ifP (!r123) (Q 3) (k92 ())) fun _ => ifP (decide (65536 < (a0.Draws.length : Int))) (Q 5) (slices_ContainsFunc_int64_int64_80a a0.Draws fun r137 => ifP r137 (Q 7) (Q 0)))))

def edges_Right_3 (a0 : Edge) (Q : Bool → Prop) : Prop :=
  ifP (decide (a0.W < 0)) (Q true) (Q (decide (2147483647 < a0.W)))

def edges_Right_1_b08 (o0 : Graph) (a0 : Int) (Q : Bool → Prop) : Prop :=
  ifP (decide (a0 < 0)) (Q true) (Q (decide (o0.N ≤ a0)))

def edges_Right_2_f7d (o1 : Graph) (a0 : Edge) (Q : Bool → Prop) : Prop :=
  edges_Right_1_b08 o1 a0.From fun r18 => ifP r18 (Q true) (edges_Right_1_b08 o1 a0.To fun r26 => Q r26)

def slices_IndexFunc_api_Edge_api_Edge_a86 (o1 : Graph) (a0 : List Edge) (Q : Int → Prop) : Prop :=
  loopP (fun (s52 : Int) (next53 : Int → Prop) => ifP (decide (s52 < (a0.length : Int))) (idxP a0 s52 fun x59 => edges_Right_2_f7d o1 x59 fun r73 => ifP r73 (Q s52) (next53 (w64 (s52 + 1)))) (Q (-1))) 0

def slices_ContainsFunc_api_Edge_api_Edge_87a (o1 : Graph) (a0 : List Edge) (Q : Bool → Prop) : Prop :=
  slices_IndexFunc_api_Edge_api_Edge_a86 o1 a0 fun r17 => Q (decide (0 ≤ r17))

def edges_Right_3_b50 (a0 : Edge) (Q : Bool → Prop) : Prop :=
  ifP (decide (a0.W < 0)) (Q true) (Q (decide (2147483647 < a0.W)))

def slices_IndexFunc_api_Edge_api_Edge_122 (a0 : List Edge) (Q : Int → Prop) : Prop :=
  loopP (fun (s45 : Int) (next46 : Int → Prop) => ifP (decide (s45 < (a0.length : Int))) (idxP a0 s45 fun x52 => edges_Right_3_b50 x52 fun r66 => ifP r66 (Q s45) (next46 (w64 (s45 + 1)))) (Q (-1))) 0

def slices_ContainsFunc_api_Edge_api_Edge_126 (a0 : List Edge) (Q : Bool → Prop) : Prop :=
  slices_IndexFunc_api_Edge_api_Edge_122 a0 fun r10 => Q (decide (0 ≤ r10))

def edges_Right (a0 : Graph) (Q : Int → Prop) : Prop :=
  ifP (decide (a0.N < 0)) (Q 3) (joinP (fun (k16 : Bool → Prop) => ifP (decide (4096 < a0.N)) (k16 (decide (4096 < a0.N))) (k16 (decide (65536 < (a0.Edges.length : Int))))) fun s15 => ifP s15 (Q 5) (slices_ContainsFunc_api_Edge_api_Edge_87a a0 a0.Edges fun r35 => ifP r35 (Q 3) (slices_ContainsFunc_api_Edge_api_Edge_126 a0.Edges fun r44 => ifP r44 (Q 7) (Q 0))))

def ring_Is (a0 : Int) (Q : Bool → Prop) : Prop :=
  ifP (decide (0 < a0)) (Q (decide (a0 < 6))) (Q false)

def wide_Of (a0 : Int) (Q : Wide → Prop) : Prop :=
  Q ({ Hi := shr .i64 a0 63, Lo := IntKind.wrap .u64 (a0) } : Wide)

def cmp_Or_int (a0 : List Int) (Q : Int → Prop) : Prop :=
  loopP (fun (s31 : Int) (next32 : Int → Prop) => ifP (decide (s31 < (a0.length : Int))) (idxP a0 s31 fun x38 => ifP (x38 != 0) (Q x38) (next32 (w64 (s31 + 1)))) (Q 0)) 0

def cmp_isNaN_int64 (a0 : Int) (Q : Bool → Prop) : Prop :=
  Q (a0 != a0)

def cmp_Compare_int64 (a0 : Int) (a1 : Int) (Q : Int → Prop) : Prop :=
  cmp_isNaN_int64 a0 fun r5 => cmp_isNaN_int64 a1 fun r13 => ifP r5 (ifP r13 (Q 0) (Q (-1))) (ifP r13 (Q 1) (ifP (decide (a0 < a1)) (Q (-1)) (ifP (decide (a1 < a0)) (Q 1) (Q 0))))

def cmp_isNaN_uint64 (a0 : Int) (Q : Bool → Prop) : Prop :=
  Q (a0 != a0)

def cmp_Compare_uint64 (a0 : Int) (a1 : Int) (Q : Int → Prop) : Prop :=
  cmp_isNaN_uint64 a0 fun r5 => cmp_isNaN_uint64 a1 fun r13 => ifP r5 (ifP r13 (Q 0) (Q (-1))) (ifP r13 (Q 1) (ifP (decide (a0 < a1)) (Q (-1)) (ifP (decide (a1 < a0)) (Q 1) (Q 0))))

def wide_Compare (a0 : Wide) (a1 : Wide) (Q : Int → Prop) : Prop :=
  cmp_Compare_int64 a0.Hi a1.Hi fun r9 => cmp_Compare_uint64 a0.Lo a1.Lo fun r13 => cmp_Or_int ([r9, r13] : List Int) fun r22 => Q r22

def ring_lesser (a0 : Wide) (a1 : Wide) (Q : Wide → Prop) : Prop :=
  wide_Compare a0 a1 fun r13 => ifP (decide (r13 ≤ 0)) (Q a0) (Q a1)

def ring_truth (a0 : Bool) (Q : Wide → Prop) : Prop :=
  ifP a0 (wide_Of 1 fun r6 => Q r6) (Q ({ Hi := 0, Lo := 0 } : Wide))

def wide_carry (a0 : Bool) (Q : Int → Prop) : Prop :=
  ifP a0 (Q 1) (Q 0)

def wide_Add (a0 : Wide) (a1 : Wide) (Q : Wide → Prop) : Prop :=
  wide_carry (decide ((IntKind.wrap .u64 (a0.Lo + a1.Lo)) < a1.Lo)) fun r13 => Q ({ Hi := w64 (IntKind.wrap .u64 ((IntKind.wrap .u64 ((IntKind.wrap .u64 (a0.Hi)) + (IntKind.wrap .u64 (a1.Hi)))) + r13)), Lo := IntKind.wrap .u64 (a0.Lo + a1.Lo) } : Wide)

def ring_Add (a0 : Int) (a1 : Wide) (a2 : Wide) (Q : Wide → Prop) : Prop :=
  joinP (fun (k18 : Bool → Prop) => ifP (a0 == 1) (k18 (a0 == 1)) (ifP (a0 == 3) (k18 (a0 == 3)) (k18 (a0 == 4)))) fun s17 => ifP s17 (ring_lesser a1 a2 fun r24 => Q r24) (ifP (a0 == 2) (ifP (!(a1 == a2)) (ring_truth true fun r30 => Q r30) (ring_truth (!(a1 == ({ Hi := 0, Lo := 0 } : Wide))) fun r34 => Q r34)) (ifP (a0 == 5) (wide_Add a1 a2 fun r39 => Q r39) (Q ({ Hi := 0, Lo := 0 } : Wide))))

def wide_Narrow (a0 : Wide) (Q : (Int × Bool) → Prop) : Prop :=
  wide_Of (w64 (a0.Lo)) fun r5 => ifP (!(r5 == a0)) (Q (0, false)) (Q (w64 (a0.Lo), true))

def ring_Narrow (a0 : Int) (a1 : Wide) (Q : (Int × Bool) → Prop) : Prop :=
  wide_Narrow a1 fun r3 => Q (r3.1, r3.2)

def cmp_isNaN_int (a0 : Int) (Q : Bool → Prop) : Prop :=
  Q (a0 != a0)

def cmp_Compare_int (a0 : Int) (a1 : Int) (Q : Int → Prop) : Prop :=
  cmp_isNaN_int a0 fun r5 => cmp_isNaN_int a1 fun r13 => ifP r5 (ifP r13 (Q 0) (Q (-1))) (ifP r13 (Q 1) (ifP (decide (a0 < a1)) (Q (-1)) (ifP (decide (a1 < a0)) (Q 1) (Q 0))))

def edges_ends (a0 : Edge) (a1 : Edge) (Q : Int → Prop) : Prop :=
  cmp_Compare_int a0.From a1.From fun r9 => cmp_Compare_int a0.To a1.To fun r13 => cmp_Or_int ([r9, r13] : List Int) fun r22 => Q r22

def edges_order (a0 : Edge) (a1 : Edge) (Q : Int → Prop) : Prop :=
  edges_ends a0 a1 fun r9 => cmp_Compare_int64 a0.W a1.W fun r13 => cmp_Or_int ([r9, r13] : List Int) fun r22 => Q r22

def edges_Combine (a0 : Int) (a1 : List Edge) (Q : ((List Edge) × Int) → Prop) : Prop :=
  ring_Is a0 fun r12 => ifP (!r12) (Q (([] : List Edge), 8)) (loopP (fun (s : (List ((Int × Int) × Wide)) × Int) (next305 : ((List ((Int × Int) × Wide)) × Int) → Prop) => match s with | (s303, s304) => ifP (decide (s304 < (a1.length : Int))) (idxP a1 s304 fun x322 => wide_Of x322.W fun r342 => lk2P s303 (x322.From, x322.To) ({ Hi := 0, Lo := 0 } : Wide) fun r348 t353 => ifP t353 (ring_Add a0 r348 r342 fun r357 => next305 ((mput (x322.From, x322.To) r357 s303), w64 (s304 + 1))) (next305 ((mput (x322.From, x322.To) r342 s303), w64 (s304 + 1)))) (loopP (fun (s : (List Edge) × (List ((Int × Int) × Wide))) (next473 : ((List Edge) × (List ((Int × Int) × Wide))) → Prop) => match s with | (s467, s471) => nextP s471 (sortP edges_order s467 fun y504 => Q (y504, 0)) (fun p491 l492 => ring_Narrow a0 p491.2 fun r525 => ifP (!r525.2) (Q (([] : List Edge), 12)) (appP 24 s467 ([({ From := p491.1.1, To := p491.1.2, W := r525.1 } : Edge)]) fun _ => next473 ((s467 ++ ([({ From := p491.1.1, To := p491.1.2, W := r525.1 } : Edge)])), l492)))) (([] : List Edge), s303))) (([] : List ((Int × Int) × Wide)), 0))

def edges_Canon (a0 : Graph) (Q : Graph → Prop) : Prop :=
  edges_Combine 1 a0.Edges fun r15 => Q ({ N := a0.N, Edges := r15.1 } : Graph)

def edges_Simple_1 (a0 : Edge) (Q : (Edge × Bool) → Prop) : Prop :=
  Q (a0, a0.From != a0.To)

def edges_Simple_1_100 (a0 : Edge) (Q : (Edge × Bool) → Prop) : Prop :=
  Q (a0, a0.From != a0.To)

def edges_made_71c (a0 : Graph) (Q : Graph → Prop) : Prop :=
  loopP (fun (s : (List Edge) × Int) (next114 : ((List Edge) × Int) → Prop) => match s with | (s108, s112) => ifP (decide (s112 < (a0.Edges.length : Int))) (idxP a0.Edges s112 fun x131 => edges_Simple_1_100 x131 fun r147 => ifP r147.2 (appP 24 s108 ([r147.1]) fun _ => next114 ((s108 ++ ([r147.1])), w64 (s112 + 1))) (next114 (s108, w64 (s112 + 1)))) (edges_Canon ({ N := a0.N, Edges := s108 } : Graph) fun r162 => Q r162)) (([] : List Edge), 0)

def edges_Simple (a0 : Graph) (Q : Graph → Prop) : Prop :=
  edges_made_71c a0 fun r17 => Q r17

def slices_Grow_api_Edge_api_Edge (a1 : Int) (Q : (List Edge) → Prop) : Prop :=
  ifP (decide (a1 < 0)) (False) (ifP (decide (0 < (w64 (a1 - (w64 (0 - 0)))))) (grP 24 (w64 (a1 - (w64 (0 - 0)))) <| Q ([] : List Edge)) (Q ([] : List Edge)))

def slices_Concat_api_Edge_api_Edge (a0 : List (List Edge)) (Q : (List Edge) → Prop) : Prop :=
  loopP (fun (s : Int × Int) (next161 : (Int × Int) → Prop) => match s with | (s159, s160) => ifP (decide (s160 < (a0.length : Int))) (idxP a0 s160 fun x179 => ifP (decide ((w64 (s159 + (x179.length : Int))) < 0)) (False) (next161 (w64 (s159 + (x179.length : Int)), w64 (s160 + 1)))) (slices_Grow_api_Edge_api_Edge s159 fun r203 => loopP (fun (s : (List Edge) × Int) (next271 : ((List Edge) × Int) → Prop) => match s with | (s266, s270) => ifP (decide (s270 < (a0.length : Int))) (idxP a0 s270 fun x278 => appP 24 s266 x278 fun _ => next271 ((s266 ++ x278), w64 (s270 + 1))) (Q s266)) (r203, 0))) (0, 0)

def edges_turned (a0 : Edge) (Q : (Edge × Bool) → Prop) : Prop :=
  Q (({ From := a0.To, To := a0.From, W := a0.W } : Edge), true)

def edges_turned_87e (a0 : Edge) (Q : (Edge × Bool) → Prop) : Prop :=
  Q (({ From := a0.To, To := a0.From, W := a0.W } : Edge), true)

def edges_made_7c5 (a0 : Graph) (Q : Graph → Prop) : Prop :=
  loopP (fun (s : (List Edge) × Int) (next114 : ((List Edge) × Int) → Prop) => match s with | (s108, s112) => ifP (decide (s112 < (a0.Edges.length : Int))) (idxP a0.Edges s112 fun x131 => edges_turned_87e x131 fun r147 => ifP r147.2 (appP 24 s108 ([r147.1]) fun _ => next114 ((s108 ++ ([r147.1])), w64 (s112 + 1))) (next114 (s108, w64 (s112 + 1)))) (edges_Canon ({ N := a0.N, Edges := s108 } : Graph) fun r162 => Q r162)) (([] : List Edge), 0)

def edges_Turn (a0 : Graph) (Q : Graph → Prop) : Prop :=
  edges_made_7c5 a0 fun r17 => Q r17

def edges_Both (a0 : Graph) (Q : Graph → Prop) : Prop :=
  edges_Turn a0 fun r15 => slices_Concat_api_Edge_api_Edge ([a0.Edges, r15.Edges] : List (List Edge)) fun r31 => edges_Canon ({ N := a0.N, Edges := r31 } : Graph) fun r42 => Q r42

def edges_Plain_1 (a0 : Edge) (Q : (Edge × Bool) → Prop) : Prop :=
  Q (({ From := a0.From, To := a0.To, W := 1 } : Edge), true)

def edges_Plain_1_3d5 (a0 : Edge) (Q : (Edge × Bool) → Prop) : Prop :=
  Q (({ From := a0.From, To := a0.To, W := 1 } : Edge), true)

def edges_made_56f (a0 : Graph) (Q : Graph → Prop) : Prop :=
  loopP (fun (s : (List Edge) × Int) (next114 : ((List Edge) × Int) → Prop) => match s with | (s108, s112) => ifP (decide (s112 < (a0.Edges.length : Int))) (idxP a0.Edges s112 fun x131 => edges_Plain_1_3d5 x131 fun r147 => ifP r147.2 (appP 24 s108 ([r147.1]) fun _ => next114 ((s108 ++ ([r147.1])), w64 (s112 + 1))) (next114 (s108, w64 (s112 + 1)))) (edges_Canon ({ N := a0.N, Edges := s108 } : Graph) fun r162 => Q r162)) (([] : List Edge), 0)

def edges_Plain (a0 : Graph) (Q : Graph → Prop) : Prop :=
  edges_made_56f a0 fun r17 => Q r17

def csr_empty (a0 : Int) (a1 : Int) (Q : Rows → Prop) : Prop :=
  mkP 8 (w64 (a0 + 1)) 0 fun _ => Q ({ Rows := a0, Cols := a1, Start := (List.replicate (w64 (a0 + 1)).toNat 0), Col := ([] : List Int), Val := ([] : List Int) } : Rows)

def csr_built (a0 : Int) (a1 : Int) (a2 : List Triple) (Q : Rows → Prop) : Prop :=
  csr_empty a0 a1 fun r38 => loopP (fun (s : (List Int) × (List Int) × (List Int) × Int) (next427 : ((List Int) × (List Int) × (List Int) × Int) → Prop) => match s with | (s414, s418, s422, s426) => ifP (decide (s426 < (a2.length : Int))) (idxP a2 s426 fun x445 => idxP s414 (w64 (x445.Row + 1)) fun x464 => idxP s414 (w64 (x445.Row + 1)) fun x469 => appP 8 s418 ([x445.Col]) fun _ => appP 8 s422 ([x445.Val]) fun _ => next427 ((s414.set ((w64 (x445.Row + 1)).toNat) (w64 (x464 + 1))), (s418 ++ ([x445.Col])), (s422 ++ ([x445.Val])), w64 (s426 + 1))) (loopP (fun (s : (List Int) × Int) (next535 : ((List Int) × Int) → Prop) => match s with | (s530, s534) => ifP (decide (s534 < a0)) (idxP s530 (w64 (s534 + 1)) fun x546 => idxP s530 s534 fun x551 => idxP s530 (w64 (s534 + 1)) fun x554 => next535 ((s530.set ((w64 (s534 + 1)).toNat) (w64 (x546 + x551))), w64 (s534 + 1))) (Q ({ Rows := r38.Rows, Cols := r38.Cols, Start := s530, Col := s418, Val := s422 } : Rows))) (s414, 0))) (r38.Start, r38.Col, r38.Val, 0)

def csr_Graph (a0 : Graph) (Q : (Rows × Int) → Prop) : Prop :=
  edges_Right a0 fun r34 => ifP (r34 != 0) (Q (({ Rows := 0, Cols := 0, Start := ([] : List Int), Col := ([] : List Int), Val := ([] : List Int) } : Rows), r34)) (edges_Turn a0 fun r49 => loopP (fun (s : (List Triple) × Int) (next141 : ((List Triple) × Int) → Prop) => match s with | (s135, s139) => ifP (decide (s139 < (r49.Edges.length : Int))) (idxP r49.Edges s139 fun x159 => appP 24 s135 ([({ Row := x159.From, Col := x159.To, Val := x159.W } : Triple)]) fun _ => next141 ((s135 ++ ([({ Row := x159.From, Col := x159.To, Val := x159.W } : Triple)])), w64 (s139 + 1))) (csr_built a0.N a0.N s135 fun r180 => Q (r180, 0))) (([] : List Triple), 0))

def prog_Matrix (a0 : Plan) (a1 : Graph) (Q : (Rows × Int) → Prop) : Prop :=
  prog_Right a0 fun r41 => ifP (r41 != 0) (Q (({ Rows := 0, Cols := 0, Start := ([] : List Int), Col := ([] : List Int), Val := ([] : List Int) } : Rows), r41)) (ifP (a1.N != a0.N) (Q (({ Rows := 0, Cols := 0, Start := ([] : List Int), Col := ([] : List Int), Val := ([] : List Int) } : Rows), 4)) (edges_Right a1 fun r61 => ifP (r61 != 0) (Q (({ Rows := 0, Cols := 0, Start := ([] : List Int), Col := ([] : List Int), Val := ([] : List Int) } : Rows), r61)) (ifP (a0.Kind == 5) (edges_Simple a1 fun r68 => edges_Both r68 fun r78 => edges_Plain r78 fun r89 => csr_Graph r89 fun r100 => Q (r100.1, r100.2)) (ifP (a0.Kind == 3) (edges_Both a1 fun r118 => edges_Plain r118 fun r128 => csr_Graph r128 fun r139 => Q (r139.1, r139.2)) (ifP (a0.Kind == 1) (edges_Plain a1 fun r157 => csr_Graph r157 fun r167 => Q (r167.1, r167.2)) (csr_Graph a1 fun r184 => Q (r184.1, r184.2)))))))

def prog_Ring (a0 : Int) (a1 : Int) (Q : Int → Prop) : Prop :=
  ifP (a0 == 2) (Q 1) (ifP (a0 == 4) (Q 5) (ifP (a0 == 5) (ifP ((bnd .i64 a1 1) == 0) (Q 2) (Q 4)) (ifP (a0 == 1) (Q 4) (ifP (a0 == 3) (Q 4) (Q 0)))))

def prog_number (a0 : Plan) (a1 : Int) (a2 : Int) (Q : Int → Prop) : Prop :=
  prog_within a1 8192 fun r18 => ifP (!r18) (Q 0) (prog_within a2 (w64 (a0.N - 1)) fun r23 => ifP (!r23) (Q 0) (ifP (decide (0 < (a0.Draws.length : Int))) (nzP (a0.Draws.length : Int) <| idxP a0.Draws ((w64 ((w64 (a1 * a0.N)) + a2)).tmod (a0.Draws.length : Int)) fun x31 => Q (bor .i64 (shl .i64 x31 12) a2)) (Q (bor .i64 (shl .i64 0 12) a2))))

def prog_Draw (a0 : Plan) (a1 : Int) (a2 : Int) (Q : Int → Prop) : Prop :=
  prog_Right a0 fun r8 => ifP (r8 != 0) (Q 0) (prog_number a0 a1 a2 fun r13 => Q r13)

def flags_words (a0 : Int) (Q : Int → Prop) : Prop :=
  Q (shr .i64 (w64 ((if 4096 < (if 0 > a0 then 0 else a0) then 4096 else (if 0 > a0 then 0 else a0)) + 63)) 6)

def flags_New (a0 : Int) (Q : (List Int) → Prop) : Prop :=
  flags_words a0 fun r4 => mkP 8 r4 0 fun _ => Q (List.replicate r4.toNat 0)

def flags_within (a0 : List Int) (a1 : Int) (Q : Bool → Prop) : Prop :=
  ifP (decide (0 ≤ a1)) (Q (decide ((shr .i64 a1 6) < (a0.length : Int)))) (Q false)

def flags_bit (a0 : Int) (Q : Int → Prop) : Prop :=
  nnP (bnd .u64 (IntKind.wrap .u64 (a0)) 63) <| Q (shl .u64 1 (bnd .u64 (IntKind.wrap .u64 (a0)) 63))

def flags_Of (a0 : Int) (a1 : List Int) (Q : (List Int) → Prop) : Prop :=
  flags_New a0 fun r18 => loopP (fun (s : (List Int) × Int) (next157 : ((List Int) × Int) → Prop) => match s with | (s152, s156) => ifP (decide (s156 < (a1.length : Int))) (idxP a1 s156 fun x173 => joinP (fun (k192 : Bool → Prop) => ifP (decide (x173 < a0)) (flags_within s152 x173 fun r194 => k192 r194) (k192 false)) fun s191 => ifP s191 (idxP s152 (shr .i64 x173 6) fun x205 => flags_bit x173 fun r209 => idxP s152 (shr .i64 x173 6) fun x214 => next157 ((s152.set ((shr .i64 x173 6).toNat) (bor .u64 x205 r209)), w64 (s156 + 1))) (next157 (s152, w64 (s156 + 1)))) (Q s152)) (r18, 0)

def flags_each_555 (a0 : List Int) (Q : (List Int) → Prop) : Prop :=
  Q a0

def flags_each_1_6c7 (o0 : Nat) (o1 : Int) (o2 : Int) (o3 : List Int) (Y : Nat → Int → Int → Int → ((Bool × Nat × Int) → Prop) → Prop) (Q : (Nat × Int) → Prop) : Prop :=
  loopP (fun (s : Int × Int × Nat) (next193 : (Int × Int × Nat) → Prop) => match s with | (s190, s191, s192) => ifP (decide (s191 < (o3.length : Int))) (idxP o3 s191 fun x208 => loopP (fun (s : Int × Int × Int × Nat) (next262 : (Int × Int × Int × Nat) → Prop) => match s with | (s258, s259, s260, s261) => ifP (s259 != 0) (ifP ((bnd .u64 s259 1) == 1) (Y s261 o1 s258 s260 fun r275 => ifP (!r275.1) (Q (r275.2.1, r275.2.2)) (next262 (r275.2.2, shr .u64 s259 1, w64 (s260 + 1), r275.2.1))) (next262 (s258, shr .u64 s259 1, w64 (s260 + 1), s261))) (next193 (s258, w64 (s191 + 1), s261))) (s190, x208, shl .i64 s191 6, s192)) (Q (s192, s190))) (o2, 0, o0)

def flags_Next (a0 : List Int) (a1 : Int) (Q : Int → Prop) : Prop :=
  flags_each_555 a0 fun r30 => flags_each_1_6c7 0 a1 0 r30 (fun (y51 : Nat) (y52 : Int) (y54 : Int) (x56 : Int) (Qy : (Bool × Nat × Int) → Prop) => eqP y51 0 (ifP (decide (y52 ≤ x56)) (Qy (false, 1, x56)) (Qy (true, 0, y54)))) fun r62 => ifP (decide (r62.1 = 0)) (Q (-1)) (eqP r62.1 1 (Q r62.2))

def flags_Right (a0 : List Int) (a1 : Int) (Q : Bool → Prop) : Prop :=
  ifP (decide (0 ≤ a1)) (ifP (decide (a1 ≤ 4096)) (flags_words a1 fun r6 => ifP ((a0.length : Int) == r6) (flags_Next a0 a1 fun r11 => Q (decide (r11 < 0))) (Q false)) (Q false)) (Q false)

def prog_can (a0 : Plan) (a1 : State) (Q : Bool → Prop) : Prop :=
  prog_Right a0 fun r29 => ifP (r29 != 0) (Q false) (ifP (decide (a1.Low < 0)) (Q false) (ifP (decide (a1.High < a1.Low)) (Q false) (ifP (decide (a0.N < a1.High)) (Q false) (ifP ((a1.A.length : Int) == (w64 (a1.High - a1.Low))) (ifP ((a1.B.length : Int) == (w64 (a1.High - a1.Low))) (flags_Right a1.On (w64 (a1.High - a1.Low)) fun r39 => Q r39) (Q false)) (Q false)))))

def prog_sure (a0 : Plan) (a1 : State) (Q : State → Prop) : Prop :=
  prog_can a0 a1 fun r34 => ifP r34 (Q a1) (Q ({ Low := 0, High := 0, A := ([] : List Int), B := ([] : List Int), On := ([] : List Int) } : State))

def spvec_within (a0 : Int) (a1 : Int) (Q : Bool → Prop) : Prop :=
  ifP (decide (0 ≤ a0)) (Q (decide (a0 ≤ a1))) (Q false)

def spvec_Right_1_81a (o0 : Int) (o1 : Vec) (a0 : Item) (Q : (Bool × Int) → Prop) : Prop :=
  ifP (decide (a0.At ≤ o0)) (Q (true, a0.At)) (Q (decide (o1.N ≤ a0.At), a0.At))

def slices_IndexFunc_api_Item_api_Item_a3e (o0 : Int) (o1 : Vec) (a0 : List Item) (Q : (Int × Int) → Prop) : Prop :=
  loopP (fun (s : Int × Int) (next61 : (Int × Int) → Prop) => match s with | (s59, s60) => ifP (decide (s60 < (a0.length : Int))) (idxP a0 s60 fun x67 => spvec_Right_1_81a s59 o1 x67 fun r81 => ifP r81.1 (Q (s60, r81.2)) (next61 (r81.2, w64 (s60 + 1)))) (Q ((-1), s59))) (o0, 0)

def slices_ContainsFunc_api_Item_api_Item_cd0 (o0 : Int) (o1 : Vec) (a0 : List Item) (Q : (Bool × Int) → Prop) : Prop :=
  slices_IndexFunc_api_Item_api_Item_a3e o0 o1 a0 fun r17 => Q (decide (0 ≤ r17.1), r17.2)

def spvec_Right (a0 : Vec) (Q : Bool → Prop) : Prop :=
  spvec_within a0.N 4096 fun r13 => ifP (!r13) (Q false) (slices_ContainsFunc_api_Item_api_Item_cd0 (-1) a0 a0.Items fun r26 => Q (!r26.1))

def slices_Clone_int64_int64 (a0 : List Int) (Q : (List Int) → Prop) : Prop :=
  nilP a0 (Q ([] : List Int)) (appP 8 ([] : List Int) a0 fun _ => Q (([] : List Int) ++ a0))

def slices_Clone_uint64_uint64 (a0 : List Int) (Q : (List Int) → Prop) : Prop :=
  nilP a0 (Q ([] : List Int)) (appP 8 ([] : List Int) a0 fun _ => Q (([] : List Int) ++ a0))

def prog_draw (a0 : Int) (Q : Int → Prop) : Prop :=
  Q (shr .i64 (w64 (a0 - 1)) 1)

def flags_Has (a0 : List Int) (a1 : Int) (Q : Bool → Prop) : Prop :=
  flags_within a0 a1 fun r4 => ifP r4 (idxP a0 (shr .i64 a1 6) fun x10 => flags_bit a1 fun r18 => Q ((bnd .u64 x10 r18) != 0)) (Q false)

def prog_tells (a0 : Plan) (a1 : State) (a2 : Int) (a3 : Int) (Q : (Int × Bool) → Prop) : Prop :=
  flags_Has a1.On a3 fun r25 => ifP (a0.Kind == 1) (Q (w64 (a1.Low + a3), r25)) (ifP (a0.Kind == 5) (ifP ((bnd .i64 a2 1) == 0) (Q (1, r25)) (idxP a1.A a3 fun x34 => prog_draw a2 fun r42 => prog_number a0 r42 (w64 (a1.Low + a3)) fun r46 => Q (r46, x34 == 0))) (idxP a1.A a3 fun x51 => Q (x51, r25)))

def prog_Out (a0 : Plan) (a1 : State) (a2 : Int) (Q : Vec → Prop) : Prop :=
  prog_sure a0 a1 fun r44 => loopP (fun (s : (List Item) × Int) (next120 : ((List Item) × Int) → Prop) => match s with | (s114, s118) => ifP (decide (s118 < (w64 (r44.High - r44.Low)))) (prog_tells a0 r44 a2 s118 fun r130 => ifP r130.2 (appP 16 s114 ([({ At := s118, Val := r130.1 } : Item)]) fun _ => next120 ((s114 ++ ([({ At := s118, Val := r130.1 } : Item)])), w64 (s118 + 1))) (next120 (s114, w64 (s118 + 1)))) (Q ({ N := w64 (r44.High - r44.Low), Items := s114 } : Vec))) (([] : List Item), 0)

def flags_ones (a0 : Int) (Q : Int → Prop) : Prop :=
  loopP (fun (s : Int × Int) (next11 : (Int × Int) → Prop) => match s with | (s9, s10) => ifP (s9 == 0) (Q s10) (next11 (bnd .u64 s9 (IntKind.wrap .u64 (s9 - 1)), w64 (s10 + 1)))) (a0, 0)

def flags_Count (a0 : List Int) (Q : Int → Prop) : Prop :=
  loopP (fun (s : Int × Int) (next42 : (Int × Int) → Prop) => match s with | (s40, s41) => ifP (decide (s41 < (a0.length : Int))) (idxP a0 s41 fun x48 => flags_ones x48 fun r56 => next42 (w64 (s40 + r56), w64 (s41 + 1))) (Q s40)) (0, 0)

def prog_Live (a0 : Plan) (a1 : State) (a2 : Int) (Q : Int → Prop) : Prop :=
  prog_sure a0 a1 fun r37 => ifP (a0.Kind == 4) (ifP (decide (a0.Length ≤ a2)) (Q 0) (flags_Count r37.On fun r55 => Q r55)) (ifP (a0.Kind == 5) (loopP (fun (s : Int × Int) (next92 : (Int × Int) → Prop) => match s with | (s90, s91) => ifP (decide (s91 < (r37.A.length : Int))) (idxP r37.A s91 fun x99 => ifP (x99 == 0) (next92 (w64 (s90 + 1), w64 (s91 + 1))) (next92 (s90, w64 (s91 + 1)))) (Q s90)) (0, 0)) (flags_Count r37.On fun r108 => Q r108))

def slices_Equal_int64_int64 (a0 : List Int) (a1 : List Int) (Q : Bool → Prop) : Prop :=
  ifP ((a0.length : Int) != (a1.length : Int)) (Q false) (loopP (fun (s54 : Int) (next55 : Int → Prop) => ifP (decide (s54 < (a0.length : Int))) (idxP a0 s54 fun x61 => idxP a1 s54 fun x70 => ifP (x61 != x70) (Q false) (next55 (w64 (s54 + 1)))) (Q true)) 0)

def slices_Equal_uint64_uint64 (a0 : List Int) (a1 : List Int) (Q : Bool → Prop) : Prop :=
  ifP ((a0.length : Int) != (a1.length : Int)) (Q false) (loopP (fun (s54 : Int) (next55 : Int → Prop) => ifP (decide (s54 < (a0.length : Int))) (idxP a0 s54 fun x61 => idxP a1 s54 fun x70 => ifP (x61 != x70) (Q false) (next55 (w64 (s54 + 1)))) (Q true)) 0)

def prog_Same (a0 : State) (a1 : State) (Q : Bool → Prop) : Prop :=
  ifP (a0.Low == a1.Low) (ifP (a0.High == a1.High) (slices_Equal_int64_int64 a0.A a1.A fun r29 => ifP r29 (slices_Equal_int64_int64 a0.B a1.B fun r34 => ifP r34 (slices_Equal_uint64_uint64 a0.On a1.On fun r39 => Q r39) (Q false)) (Q false)) (Q false)) (Q false)

def prog_Asked (a0 : Plan) (a1 : State) (a2 : Int) (Q : ((List Int) × Bool) → Prop) : Prop :=
  prog_sure a0 a1 fun r40 => joinP (fun (k61 : Int → Prop) => ifP (a0.Kind == 1) (k61 (-1)) (ifP (a0.Kind == 5) (k61 0) (Q (([] : List Int), true)))) fun s60 => loopP (fun (s : (List Int) × Int) (next251 : ((List Int) × Int) → Prop) => match s with | (s245, s249) => ifP (decide (s249 < (r40.A.length : Int))) (idxP r40.A s249 fun x268 => ifP (x268 == s60) (appP 8 s245 ([s249]) fun _ => next251 ((s245 ++ ([s249])), w64 (s249 + 1))) (next251 (s245, w64 (s249 + 1)))) (flags_Of (w64 (r40.High - r40.Low)) s245 fun r289 => Q (r289, false))) (([] : List Int), 0)

def ref07_SameVals (a0 : List Int) (a1 : List Int) (Q : Bool → Prop) : Prop :=
  ifP ((a0.length : Int) != (a1.length : Int)) (Q false) (loopP (fun (s54 : Int) (next55 : Int → Prop) => ifP (decide (s54 < (a0.length : Int))) (idxP a0 s54 fun x61 => idxP a1 s54 fun x70 => ifP (x61 != x70) (Q false) (next55 (w64 (s54 + 1)))) (Q true)) 0)

def ref03_SameInts (a0 : List Int) (a1 : List Int) (Q : Bool → Prop) : Prop :=
  ifP ((a0.length : Int) != (a1.length : Int)) (Q false) (loopP (fun (s54 : Int) (next55 : Int → Prop) => ifP (decide (s54 < (a0.length : Int))) (idxP a0 s54 fun x61 => idxP a1 s54 fun x70 => ifP (x61 != x70) (Q false) (next55 (w64 (s54 + 1)))) (Q true)) 0)

def ref03_Has (a0 : List Int) (a1 : Int) (Q : Bool → Prop) : Prop :=
  ifP (decide (0 ≤ a1)) (ifP (decide ((w64 (a1.tdiv 64)) < (a0.length : Int))) (idxP a0 (w64 (a1.tdiv 64)) fun x7 => nnP (IntKind.wrap .u64 (a1.tmod 64)) <| Q ((bnd .u64 (shr .u64 x7 (IntKind.wrap .u64 (a1.tmod 64))) 1) == 1)) (Q false)) (Q false)

def ref03_List (a0 : List Int) (Q : (List Int) → Prop) : Prop :=
  loopP (fun (s : (List Int) × Int) (next55 : ((List Int) × Int) → Prop) => match s with | (s49, s53) => ifP (decide (s53 < (w64 (64 * (a0.length : Int))))) (ref03_Has a0 s53 fun r60 => ifP r60 (appP 8 s49 ([s53]) fun _ => next55 ((s49 ++ ([s53])), w64 (s53 + 1))) (next55 (s49, w64 (s53 + 1)))) (Q s49)) (([] : List Int), 0)

def ref21_from (a0 : Int) (Q : Bool → Prop) : Prop :=
  ifP (a0 == 1) (Q true) (ifP (a0 == 2) (Q true) (Q (a0 == 4)))

def ref21_Right (a0 : Plan) (Q : Int → Prop) : Prop :=
  ifP (decide (a0.Kind < 1)) (Q 8) (ifP (decide (5 < a0.Kind)) (Q 8) (joinP (fun (k42 : Unit → Prop) => ifP (decide (a0.N < 0)) (Q 3) (ifP (decide (4096 < a0.N)) (Q 3) (ref21_from a0.Kind fun r45 => ifP r45 (ifP (decide (a0.Source < 0)) (Q 3) (ifP (decide (a0.N ≤ a0.Source)) (Q 3) (ifP (a0.Kind == 4) (ifP (decide (a0.Length < 0)) (Q 3) (ifP (decide (8192 < a0.Length)) (Q 3) (k42 ()))) (k42 ())))) (ifP (a0.Kind == 4) (ifP (decide (a0.Length < 0)) (Q 3) (ifP (decide (8192 < a0.Length)) (Q 3) (k42 ()))) (k42 ()))))) fun _ => ifP (decide (65536 < (a0.Draws.length : Int))) (Q 5) (loopP (fun (s109 : Int) (next110 : Int → Prop) => ifP (decide (s109 < (a0.Draws.length : Int))) (idxP a0.Draws s109 fun x117 => ifP (decide (x117 < 0)) (Q 7) (idxP a0.Draws s109 fun x127 => ifP (decide (2147483647 < x127)) (Q 7) (next110 (w64 (s109 + 1))))) (Q 0)) 0)))

def ref05_Right (a0 : Graph) (Q : Int → Prop) : Prop :=
  ifP (decide (a0.N < 0)) (Q 3) (ifP (decide (4096 < a0.N)) (Q 5) (ifP (decide (65536 < (a0.Edges.length : Int))) (Q 5) (loopP (fun (s164 : Int) (next165 : Int → Prop) => ifP (decide (s164 < (a0.Edges.length : Int))) (idxP a0.Edges s164 fun x182 => ifP (decide (x182.From < 0)) (Q 3) (ifP (decide (a0.N ≤ x182.From)) (Q 3) (ifP (decide (x182.To < 0)) (Q 3) (ifP (decide (a0.N ≤ x182.To)) (Q 3) (next165 (w64 (s164 + 1))))))) (loopP (fun (s243 : Int) (next244 : Int → Prop) => ifP (decide (s243 < (a0.Edges.length : Int))) (idxP a0.Edges s243 fun x251 => ifP (decide (x251.W < 0)) (Q 7) (idxP a0.Edges s243 fun x261 => ifP (decide (2147483647 < x261.W)) (Q 7) (next244 (w64 (s243 + 1))))) (Q 0)) 0)) 0)))

def ref02_Is (a0 : Int) (Q : Bool → Prop) : Prop :=
  ifP (decide (1 ≤ a0)) (Q (decide (a0 ≤ 5))) (Q false)

def ref05_below (a0 : Edge) (a1 : Edge) (Q : Bool → Prop) : Prop :=
  ifP (decide (a0.From < a1.From)) (Q true) (ifP (a0.From == a1.From) (Q (decide (a0.To < a1.To))) (Q false))

def ref01_Of (a0 : Int) (Q : Wide → Prop) : Prop :=
  ifP (decide (a0 < 0)) (Q ({ Hi := (-1), Lo := IntKind.wrap .u64 (a0) } : Wide)) (Q ({ Hi := 0, Lo := IntKind.wrap .u64 (a0) } : Wide))

def ref01_Compare (a0 : Wide) (a1 : Wide) (Q : Int → Prop) : Prop :=
  joinP (fun (k15 : Unit → Prop) => ifP (decide (a0.Hi < a1.Hi)) (Q (-1)) (ifP (a0.Hi == a1.Hi) (ifP (decide (a0.Lo < a1.Lo)) (Q (-1)) (k15 ())) (k15 ()))) fun _ => ifP (a0 == a1) (Q 0) (Q 1)

def ref02_truth (a0 : Bool) (Q : Wide → Prop) : Prop :=
  ifP a0 (Q ({ Hi := 0, Lo := 1 } : Wide)) (Q ({ Hi := 0, Lo := 0 } : Wide))

def ref01_Add (a0 : Wide) (a1 : Wide) (Q : Wide → Prop) : Prop :=
  ifP (decide ((IntKind.wrap .u64 (a0.Lo + a1.Lo)) < a0.Lo)) (Q ({ Hi := w64 ((w64 (a0.Hi + a1.Hi)) + 1), Lo := IntKind.wrap .u64 (a0.Lo + a1.Lo) } : Wide)) (Q ({ Hi := w64 (a0.Hi + a1.Hi), Lo := IntKind.wrap .u64 (a0.Lo + a1.Lo) } : Wide))

def ref02_Add (a0 : Int) (a1 : Wide) (a2 : Wide) (Q : Wide → Prop) : Prop :=
  joinP (fun (k18 : Bool → Prop) => ifP (a0 == 1) (k18 (a0 == 1)) (ifP (a0 == 3) (k18 (a0 == 3)) (k18 (a0 == 4)))) fun s17 => ifP s17 (ref01_Compare a2 a1 fun r24 => ifP (decide (r24 < 0)) (Q a2) (Q a1)) (ifP (a0 == 2) (ifP (!(a1 == ({ Hi := 0, Lo := 0 } : Wide))) (ref02_truth true fun r31 => Q r31) (ref02_truth (!(a2 == ({ Hi := 0, Lo := 0 } : Wide))) fun r35 => Q r35)) (ifP (a0 == 5) (ref01_Add a1 a2 fun r40 => Q r40) (Q ({ Hi := 0, Lo := 0 } : Wide))))

def ref01_Narrow (a0 : Wide) (Q : (Int × Bool) → Prop) : Prop :=
  ifP (a0.Hi == 0) (ifP (decide (0 ≤ (w64 (a0.Lo)))) (Q (w64 (a0.Lo), true)) (ifP (a0.Hi == (-1)) (ifP (decide ((w64 (a0.Lo)) < 0)) (Q (w64 (a0.Lo), true)) (Q (0, false))) (Q (0, false)))) (ifP (a0.Hi == (-1)) (ifP (decide ((w64 (a0.Lo)) < 0)) (Q (w64 (a0.Lo), true)) (Q (0, false))) (Q (0, false)))

def ref05_Combine (a0 : Int) (a1 : List Edge) (Q : ((List Edge) × Int) → Prop) : Prop :=
  ref02_Is a0 fun r12 => ifP (!r12) (Q (([] : List Edge), 8)) (loopP (fun (s : (List Edge) × (List Wide) × Int) (next2668 : ((List Edge) × (List Wide) × Int) → Prop) => match s with | (s2657, s2661, s2665) => ifP (decide (s2665 < (a1.length : Int))) (joinP (fun (k2822 : Int → Prop) => loopP (fun (s2870 : Int) (next2871 : Int → Prop) => ifP (decide (s2870 < (s2657.length : Int))) (idxP s2657 s2870 fun x2879 => idxP a1 s2665 fun x2884 => ref05_below x2879 x2884 fun r2892 => ifP r2892 (next2871 (w64 (s2870 + 1))) (k2822 s2870)) (k2822 s2870)) 0) fun s2821 => idxP a1 s2665 fun x2916 => ref01_Of x2916.W fun r2924 => joinP (fun (k3057 : Bool → Prop) => ifP (decide (s2821 < (s2657.length : Int))) (idxP a1 s2665 fun x3062 => idxP s2657 s2821 fun x3071 => ref05_below x3062 x3071 fun r3075 => k3057 (!r3075)) (k3057 false)) fun s3056 => ifP s3056 (idxP s2661 s2821 fun x3087 => ref02_Add a0 x3087 r2924 fun r3091 => idxP s2661 s2821 fun x3096 => next2668 (s2657, (s2661.set s2821.toNat r3091), w64 (s2665 + 1))) (appP 24 s2657 ([({ From := 0, To := 0, W := 0 } : Edge)]) fun _ => appP 16 s2661 ([({ Hi := 0, Lo := 0 } : Wide)]) fun _ => loopP (fun (s : (List Edge) × (List Wide) × Int) (next3290 : ((List Edge) × (List Wide) × Int) → Prop) => match s with | (s3281, s3285, s3289) => ifP (decide (s2821 < s3289)) (idxP s3281 (w64 (s3289 - 1)) fun x3299 => idxP s3281 s3289 fun x3304 => idxP s3285 (w64 (s3289 - 1)) fun x3307 => idxP s3285 s3289 fun x3312 => next3290 ((s3281.set s3289.toNat x3299), (s3285.set s3289.toNat x3307), w64 (s3289 - 1))) (idxP a1 s2665 fun x3317 => idxP a1 s2665 fun x3326 => idxP s3281 s2821 fun x3335 => idxP s3285 s2821 fun x3340 => next2668 ((s3281.set s2821.toNat ({ From := x3317.From, To := x3326.To, W := 0 } : Edge)), (s3285.set s2821.toNat r2924), w64 (s2665 + 1)))) ((s2657 ++ ([({ From := 0, To := 0, W := 0 } : Edge)])), (s2661 ++ ([({ Hi := 0, Lo := 0 } : Wide)])), w64 (((s2657 ++ ([({ From := 0, To := 0, W := 0 } : Edge)])).length : Int) - 1)))) (loopP (fun (s : (List Edge) × Int) (next3416 : ((List Edge) × Int) → Prop) => match s with | (s3411, s3415) => ifP (decide (s3415 < (s3411.length : Int))) (idxP s2661 s3415 fun x3432 => ref01_Narrow x3432 fun r3436 => ifP (!r3436.2) (Q (([] : List Edge), 12)) (idxP s3411 s3415 fun x3443 => next3416 ((s3411.set s3415.toNat ({ From := x3443.From, To := x3443.To, W := r3436.1 } : Edge)), w64 (s3415 + 1)))) (Q (s3411, 0))) (s2657, 0))) (([] : List Edge), ([] : List Wide), 0))

def ref05_Canon (a0 : Graph) (Q : Graph → Prop) : Prop :=
  ref05_Combine 1 a0.Edges fun r15 => Q ({ N := a0.N, Edges := r15.1 } : Graph)

def ref05_Plain (a0 : Graph) (Q : Graph → Prop) : Prop :=
  loopP (fun (s : (List Edge) × Int) (next94 : ((List Edge) × Int) → Prop) => match s with | (s88, s92) => ifP (decide (s92 < (a0.Edges.length : Int))) (idxP a0.Edges s92 fun x101 => idxP a0.Edges s92 fun x110 => appP 24 s88 ([({ From := x101.From, To := x110.To, W := 1 } : Edge)]) fun _ => next94 ((s88 ++ ([({ From := x101.From, To := x110.To, W := 1 } : Edge)])), w64 (s92 + 1))) (ref05_Canon ({ N := a0.N, Edges := s88 } : Graph) fun r128 => Q r128)) (([] : List Edge), 0)

def ref05_Turn (a0 : Graph) (Q : Graph → Prop) : Prop :=
  loopP (fun (s : (List Edge) × Int) (next101 : ((List Edge) × Int) → Prop) => match s with | (s95, s99) => ifP (decide (s99 < (a0.Edges.length : Int))) (idxP a0.Edges s99 fun x118 => appP 24 s95 ([({ From := x118.To, To := x118.From, W := x118.W } : Edge)]) fun _ => next101 ((s95 ++ ([({ From := x118.To, To := x118.From, W := x118.W } : Edge)])), w64 (s99 + 1))) (ref05_Canon ({ N := a0.N, Edges := s95 } : Graph) fun r138 => Q r138)) (([] : List Edge), 0)

def ref05_Both (a0 : Graph) (Q : Graph → Prop) : Prop :=
  ref05_Turn a0 fun r28 => appP 24 r28.Edges a0.Edges fun _ => ref05_Canon ({ N := r28.N, Edges := (r28.Edges ++ a0.Edges) } : Graph) fun r49 => Q r49

def ref05_Simple (a0 : Graph) (Q : Graph → Prop) : Prop :=
  loopP (fun (s : (List Edge) × Int) (next152 : ((List Edge) × Int) → Prop) => match s with | (s146, s150) => ifP (decide (s150 < (a0.Edges.length : Int))) (idxP a0.Edges s150 fun x178 => idxP a0.Edges s150 fun x187 => ifP (x178.From != x187.To) (idxP a0.Edges s150 fun x198 => appP 24 s146 ([x198]) fun _ => next152 ((s146 ++ ([x198])), w64 (s150 + 1))) (next152 (s146, w64 (s150 + 1)))) (ref05_Canon ({ N := a0.N, Edges := s146 } : Graph) fun r216 => Q r216)) (([] : List Edge), 0)

def ref07_Empty (a0 : Int) (a1 : Int) (Q : Rows → Prop) : Prop :=
  mkP 8 (w64 (a0 + 1)) 0 fun _ => Q ({ Rows := a0, Cols := a1, Start := (List.replicate (w64 (a0 + 1)).toNat 0), Col := ([] : List Int), Val := ([] : List Int) } : Rows)

def ref07_built (a0 : Int) (a1 : Int) (a2 : List Triple) (Q : Rows → Prop) : Prop :=
  ref07_Empty a0 a1 fun r38 => loopP (fun (s : (List Int) × (List Int) × (List Int) × Int) (next403 : ((List Int) × (List Int) × (List Int) × Int) → Prop) => match s with | (s390, s394, s398, s402) => ifP (decide (s402 < (a2.length : Int))) (idxP a2 s402 fun x431 => appP 8 s394 ([x431.Col]) fun _ => idxP a2 s402 fun x467 => appP 8 s398 ([x467.Val]) fun _ => idxP a2 s402 fun x491 => loopP (fun (s : (List Int) × Int) (next539 : ((List Int) × Int) → Prop) => match s with | (s534, s538) => ifP (decide (s538 ≤ a0)) (idxP s534 s538 fun x547 => idxP s534 s538 fun x552 => next539 ((s534.set s538.toNat (w64 (x547 + 1))), w64 (s538 + 1))) (next403 (s534, (s394 ++ ([x431.Col])), (s398 ++ ([x467.Val])), w64 (s402 + 1)))) (s390, w64 (x491.Row + 1))) (Q ({ Rows := r38.Rows, Cols := r38.Cols, Start := s390, Col := s394, Val := s398 } : Rows))) (r38.Start, r38.Col, r38.Val, 0)

def ref07_Graph (a0 : Graph) (Q : (Rows × Int) → Prop) : Prop :=
  ref05_Right a0 fun r34 => ifP (r34 != 0) (Q (({ Rows := 0, Cols := 0, Start := ([] : List Int), Col := ([] : List Int), Val := ([] : List Int) } : Rows), r34)) (ref05_Turn a0 fun r52 => loopP (fun (s : (List Triple) × Int) (next128 : ((List Triple) × Int) → Prop) => match s with | (s122, s126) => ifP (decide (s126 < (r52.Edges.length : Int))) (idxP r52.Edges s126 fun x137 => idxP r52.Edges s126 fun x142 => idxP r52.Edges s126 fun x145 => appP 24 s122 ([({ Row := x137.From, Col := x142.To, Val := x145.W } : Triple)]) fun _ => next128 ((s122 ++ ([({ Row := x137.From, Col := x142.To, Val := x145.W } : Triple)])), w64 (s126 + 1))) (ref07_built a0.N a0.N s122 fun r158 => Q (r158, 0))) (([] : List Triple), 0))

def ref21_Matrix (a0 : Plan) (a1 : Graph) (Q : (Rows × Int) → Prop) : Prop :=
  ref21_Right a0 fun r41 => ifP (r41 != 0) (Q (({ Rows := 0, Cols := 0, Start := ([] : List Int), Col := ([] : List Int), Val := ([] : List Int) } : Rows), r41)) (ifP (a1.N != a0.N) (Q (({ Rows := 0, Cols := 0, Start := ([] : List Int), Col := ([] : List Int), Val := ([] : List Int) } : Rows), 4)) (ref05_Right a1 fun r61 => ifP (r61 != 0) (Q (({ Rows := 0, Cols := 0, Start := ([] : List Int), Col := ([] : List Int), Val := ([] : List Int) } : Rows), r61)) (ifP (a0.Kind == 1) (ref05_Plain a1 fun r67 => ref07_Graph r67 fun r77 => Q (r77.1, r77.2)) (ifP (a0.Kind == 3) (ref05_Both a1 fun r95 => ref05_Plain r95 fun r105 => ref07_Graph r105 fun r116 => Q (r116.1, r116.2)) (ifP (a0.Kind == 5) (ref05_Simple a1 fun r134 => ref05_Both r134 fun r144 => ref05_Plain r144 fun r155 => ref07_Graph r155 fun r166 => Q (r166.1, r166.2)) (ref07_Graph a1 fun r183 => Q (r183.1, r183.2)))))))

def ref21_Ring (a0 : Int) (a1 : Int) (Q : Int → Prop) : Prop :=
  joinP (fun (k4 : Bool → Prop) => ifP (a0 == 1) (k4 (a0 == 1)) (k4 (a0 == 3))) fun s3 => ifP s3 (Q 4) (ifP (a0 == 2) (Q 1) (ifP (a0 == 4) (Q 5) (ifP (a0 == 5) (ifP ((a1.tmod 2) == 0) (Q 2) (Q 4)) (Q 0))))

def ref21_Draw (a0 : Plan) (a1 : Int) (a2 : Int) (Q : Int → Prop) : Prop :=
  ref21_Right a0 fun r17 => ifP (r17 != 0) (Q 0) (ifP (decide (a1 < 0)) (Q 0) (ifP (decide (8192 < a1)) (Q 0) (ifP (decide (a2 < 0)) (Q 0) (ifP (decide (a0.N ≤ a2)) (Q 0) (ifP (decide (0 < (a0.Draws.length : Int))) (nzP (a0.Draws.length : Int) <| idxP a0.Draws ((w64 ((w64 (a1 * a0.N)) + a2)).tmod (a0.Draws.length : Int)) fun x29 => Q (w64 ((w64 (x29 * 4096)) + a2))) (Q (w64 ((w64 (0 * 4096)) + a2))))))))

def ref07_Same (a0 : Rows) (a1 : Rows) (Q : Bool → Prop) : Prop :=
  ifP (a0.Rows == a1.Rows) (ifP (a0.Cols == a1.Cols) (ref03_SameInts a0.Start a1.Start fun r29 => ifP r29 (ref03_SameInts a0.Col a1.Col fun r34 => ifP r34 (ref07_SameVals a0.Val a1.Val fun r39 => Q r39) (Q false)) (Q false)) (Q false)) (Q false)

def law21_Within (a0 : Int) (a1 : Int) (Q : Int → Prop) : Prop :=
  ifP (decide (a1 < 1)) (Q 0) (ifP (decide (a0 < 0)) (Q 0) (nzP a1 <| Q (a0.tmod a1)))

def law21_Plan (a0 : Plan) (a1 : Int) (Q : Plan → Prop) : Prop :=
  joinP (fun (k20 : Int → Prop) => ifP (decide (a0.Kind < 1)) (k20 3) (ifP (decide (5 < a0.Kind)) (k20 3) (k20 a0.Kind))) fun s19 => law21_Within a0.Source a1 fun r29 => law21_Within a0.Length 12 fun r37 => joinP (fun (k207 : (List Int) → Prop) => loopP (fun (s : (List Int) × Int) (next266 : ((List Int) × Int) → Prop) => match s with | (s260, s264) => ifP (decide (s264 < (a0.Draws.length : Int))) (ifP (decide (s264 < 40)) (idxP a0.Draws s264 fun x275 => appP 8 s260 ([bnd .i64 x275 2147483647]) fun _ => next266 ((s260 ++ ([bnd .i64 x275 2147483647])), w64 (s264 + 1))) (k207 s260)) (k207 s260)) (([] : List Int), 0)) fun s203 => ifP (a1 == 0) (ifP (s19 != 5) (Q ({ Kind := 3, N := a1, Source := r29, Length := r37, Draws := s203 } : Plan)) (Q ({ Kind := s19, N := a1, Source := r29, Length := r37, Draws := s203 } : Plan))) (Q ({ Kind := s19, N := a1, Source := r29, Length := r37, Draws := s203 } : Plan))

def ref03_Same (a0 : List Int) (a1 : List Int) (Q : Bool → Prop) : Prop :=
  ifP ((a0.length : Int) != (a1.length : Int)) (Q false) (loopP (fun (s54 : Int) (next55 : Int → Prop) => ifP (decide (s54 < (a0.length : Int))) (idxP a0 s54 fun x61 => idxP a1 s54 fun x70 => ifP (x61 != x70) (Q false) (next55 (w64 (s54 + 1)))) (Q true)) 0)

def ref21_Same (a0 : State) (a1 : State) (Q : Bool → Prop) : Prop :=
  ifP (a0.Low == a1.Low) (ifP (a0.High == a1.High) (ref07_SameVals a0.A a1.A fun r29 => ifP r29 (ref07_SameVals a0.B a1.B fun r34 => ifP r34 (ref03_Same a0.On a1.On fun r39 => Q r39) (Q false)) (Q false)) (Q false)) (Q false)

def ref21_none  (Q : State → Prop) : Prop :=
  Q ({ Low := 0, High := 0, A := ([] : List Int), B := ([] : List Int), On := ([] : List Int) } : State)

def ref03_words (a0 : Int) (Q : Int → Prop) : Prop :=
  joinP (fun (k4 : Int → Prop) => ifP (decide (4096 < a0)) (k4 4096) (k4 a0)) fun s3 => ifP (decide (s3 < 1)) (Q 0) (Q (w64 ((w64 (s3 + 63)).tdiv 64)))

def ref03_New (a0 : Int) (Q : (List Int) → Prop) : Prop :=
  ref03_words a0 fun r4 => mkP 8 r4 0 fun _ => Q (List.replicate r4.toNat 0)

def ref03_set (a0 : List Int) (a1 : Int) (a2 : Bool) (Q : (List Int) → Prop) : Prop :=
  appP 8 ([] : List Int) a0 fun _ => ifP (decide (a1 < 0)) (Q (([] : List Int) ++ a0)) (ifP (decide ((a0.length : Int) ≤ (w64 (a1.tdiv 64)))) (Q (([] : List Int) ++ a0)) (nnP (IntKind.wrap .u64 (a1.tmod 64)) <| ifP a2 (idxP (([] : List Int) ++ a0) (w64 (a1.tdiv 64)) fun x31 => idxP (([] : List Int) ++ a0) (w64 (a1.tdiv 64)) fun x36 => Q ((([] : List Int) ++ a0).set ((w64 (a1.tdiv 64)).toNat) (bor .u64 x31 (shl .u64 1 (IntKind.wrap .u64 (a1.tmod 64)))))) (idxP (([] : List Int) ++ a0) (w64 (a1.tdiv 64)) fun x42 => idxP (([] : List Int) ++ a0) (w64 (a1.tdiv 64)) fun x47 => Q ((([] : List Int) ++ a0).set ((w64 (a1.tdiv 64)).toNat) (bandn .u64 x42 (shl .u64 1 (IntKind.wrap .u64 (a1.tmod 64))))))))

def ref03_Put (a0 : List Int) (a1 : Int) (Q : (List Int) → Prop) : Prop :=
  ref03_set a0 a1 true fun r7 => Q r7

def ref03_Of (a0 : Int) (a1 : List Int) (Q : (List Int) → Prop) : Prop :=
  ref03_New a0 fun r17 => loopP (fun (s : (List Int) × Int) (next151 : ((List Int) × Int) → Prop) => match s with | (s146, s150) => ifP (decide (s150 < (a1.length : Int))) (idxP a1 s150 fun x158 => ifP (decide (0 ≤ x158)) (idxP a1 s150 fun x168 => ifP (decide (x168 < a0)) (idxP a1 s150 fun x178 => ifP (decide (x178 < 4096)) (idxP a1 s150 fun x188 => ref03_Put s146 x188 fun r196 => next151 (r196, w64 (s150 + 1))) (next151 (s146, w64 (s150 + 1)))) (next151 (s146, w64 (s150 + 1)))) (next151 (s146, w64 (s150 + 1)))) (Q s146)) (r17, 0)

def ref21_Begin (a0 : Plan) (a1 : Int) (a2 : Int) (Q : State → Prop) : Prop :=
  ref21_Right a0 fun r93 => ifP (r93 != 0) (ref21_none  fun r98 => Q r98) (ifP (decide (a1 < 0)) (ref21_none  fun r115 => Q r115) (ifP (decide (a2 < a1)) (ref21_none  fun r132 => Q r132) (ifP (decide (a0.N < a2)) (ref21_none  fun r149 => Q r149) (loopP (fun (s : (List Int) × (List Int) × (List Int) × Int) (next1081 : ((List Int) × (List Int) × (List Int) × Int) → Prop) => match s with | (s1065, s1069, s1073, s1077) => ifP (decide (s1077 < a2)) (joinP (fun (k1099 : Bool → Prop) => ref21_from a0.Kind fun r1100 => ifP r1100 (ifP (s1077 == a0.Source) (k1099 true) (k1099 (a0.Kind == 3))) (k1099 (a0.Kind == 3))) fun s1098 => joinP (fun (k1116 : Int → Prop) => ifP (a0.Kind == 1) (k1116 (-1)) (ifP (a0.Kind == 2) (k1116 4611686018427387904) (ifP (a0.Kind == 3) (k1116 s1077) (k1116 0)))) fun s1115 => joinP (fun (k1173 : Int → Prop) => joinP (fun (k1185 : Bool → Prop) => ref21_from a0.Kind fun r1186 => ifP r1186 (k1185 (s1077 == a0.Source)) (k1185 false)) fun s1184 => ifP s1184 (ifP (a0.Kind == 4) (k1173 1) (k1173 0)) (k1173 s1115)) fun s1172 => joinP (fun (k1221 : (List Int) → Prop) => ifP s1098 (appP 8 s1073 ([w64 (s1077 - a1)]) fun _ => k1221 (s1073 ++ ([w64 (s1077 - a1)]))) (k1221 s1073)) fun s1217 => appP 8 s1065 ([s1172]) fun _ => appP 8 s1069 ([(-1)]) fun _ => next1081 ((s1065 ++ ([s1172])), (s1069 ++ ([(-1)])), s1217, w64 (s1077 + 1))) (ref03_Of (w64 (a2 - a1)) s1073 fun r1251 => Q ({ Low := a1, High := a2, A := s1065, B := s1069, On := r1251 } : State))) (([] : List Int), ([] : List Int), ([] : List Int), a1)))))

def ref09_Of (a0 : Int) (a1 : Int) (a2 : List Item) (Q : (Vec × Int) → Prop) : Prop :=
  ref02_Is a0 fun r16 => ifP (!r16) (Q (({ N := 0, Items := ([] : List Item) } : Vec), 8)) (ifP (decide (a1 < 0)) (Q (({ N := 0, Items := ([] : List Item) } : Vec), 3)) (ifP (decide (4096 < a1)) (Q (({ N := 0, Items := ([] : List Item) } : Vec), 3)) (loopP (fun (s : (List Edge) × Int) (next405 : ((List Edge) × Int) → Prop) => match s with | (s399, s403) => ifP (decide (s403 < (a2.length : Int))) (idxP a2 s403 fun x431 => ifP (decide (x431.At < 0)) (Q (({ N := 0, Items := ([] : List Item) } : Vec), 3)) (idxP a2 s403 fun x441 => ifP (decide (a1 ≤ x441.At)) (Q (({ N := 0, Items := ([] : List Item) } : Vec), 3)) (idxP a2 s403 fun x452 => idxP a2 s403 fun x461 => appP 24 s399 ([({ From := 0, To := x452.At, W := x461.Val } : Edge)]) fun _ => next405 ((s399 ++ ([({ From := 0, To := x452.At, W := x461.Val } : Edge)])), w64 (s403 + 1))))) (ref05_Combine a0 s399 fun r495 => ifP (r495.2 != 0) (Q (({ N := 0, Items := ([] : List Item) } : Vec), r495.2)) (loopP (fun (s : (List Item) × Int) (next570 : ((List Item) × Int) → Prop) => match s with | (s564, s568) => ifP (decide (s568 < (r495.1.length : Int))) (idxP r495.1 s568 fun x579 => idxP r495.1 s568 fun x584 => appP 16 s564 ([({ At := x579.To, Val := x584.W } : Item)]) fun _ => next570 ((s564 ++ ([({ At := x579.To, Val := x584.W } : Item)])), w64 (s568 + 1))) (Q (({ N := a1, Items := s564 } : Vec), 0))) (([] : List Item), 0)))) (([] : List Edge), 0))))

def law09_Some (a0 : Int) (a1 : List Item) (Q : Vec → Prop) : Prop :=
  joinP (fun (k365 : (List Item) → Prop) => loopP (fun (s : (List Item) × Int) (next487 : ((List Item) × Int) → Prop) => match s with | (s481, s485) => ifP (decide (s485 < (a1.length : Int))) (ifP (decide (s485 < 60)) (ifP (decide (0 < ((w64 (a0)).tmod 60))) (idxP a1 s485 fun x506 => ifP (decide (0 ≤ x506.At)) (idxP a1 s485 fun x517 => nzP ((w64 (a0)).tmod 60) <| idxP a1 s485 fun x527 => appP 16 s481 ([({ At := x517.At.tmod ((w64 (a0)).tmod 60), Val := x527.Val } : Item)]) fun _ => next487 ((s481 ++ ([({ At := x517.At.tmod ((w64 (a0)).tmod 60), Val := x527.Val } : Item)])), w64 (s485 + 1))) (next487 (s481, w64 (s485 + 1)))) (k365 s481)) (k365 s481)) (k365 s481)) (([] : List Item), 0)) fun s361 => ref09_Of 1 ((w64 (a0)).tmod 60) s361 fun r547 => Q r547.1

def law21_got (a0 : Plan) (a1 : List Item) (Q : Vec → Prop) : Prop :=
  law09_Some (IntKind.wrap .u8 (a0.N)) a1 fun r30 => loopP (fun (s : (List Item) × Int) (next121 : ((List Item) × Int) → Prop) => match s with | (s115, s119) => ifP (decide (s119 < (r30.Items.length : Int))) (idxP r30.Items s119 fun x129 => idxP r30.Items s119 fun x138 => appP 16 s115 ([({ At := x129.At, Val := bnd .i64 x138.Val 255 } : Item)]) fun _ => next121 ((s115 ++ ([({ At := x129.At, Val := bnd .i64 x138.Val 255 } : Item)])), w64 (s119 + 1))) (Q ({ N := r30.N, Items := s115 } : Vec))) (([] : List Item), 0)

def ref07_SameItems (a0 : List Item) (a1 : List Item) (Q : Bool → Prop) : Prop :=
  ifP ((a0.length : Int) != (a1.length : Int)) (Q false) (loopP (fun (s54 : Int) (next55 : Int → Prop) => ifP (decide (s54 < (a0.length : Int))) (idxP a0 s54 fun x61 => idxP a1 s54 fun x70 => ifP (!(x61 == x70)) (Q false) (next55 (w64 (s54 + 1)))) (Q true)) 0)

def ref09_Same (a0 : Vec) (a1 : Vec) (Q : Bool → Prop) : Prop :=
  ifP (a0.N == a1.N) (ref07_SameItems a0.Items a1.Items fun r16 => Q r16) (Q false)

def ref03_Right (a0 : List Int) (a1 : Int) (Q : Bool → Prop) : Prop :=
  ifP (decide (a1 < 0)) (Q false) (ifP (decide (4096 < a1)) (Q false) (ref03_words a1 fun r13 => ifP ((a0.length : Int) != r13) (Q false) (ref03_List a0 fun r28 => ifP ((r28.length : Int) == 0) (Q true) (idxP r28 (w64 ((r28.length : Int) - 1)) fun x40 => Q (decide (x40 < a1))))))

def ref21_Sure (a0 : Plan) (a1 : State) (Q : State → Prop) : Prop :=
  ref21_Right a0 fun r34 => ifP (r34 != 0) (ref21_none  fun r39 => Q r39) (ifP (decide (a1.Low < 0)) (ref21_none  fun r56 => Q r56) (ifP (decide (a1.High < a1.Low)) (ref21_none  fun r73 => Q r73) (ifP (decide (a0.N < a1.High)) (ref21_none  fun r90 => Q r90) (ifP ((a1.A.length : Int) != (w64 (a1.High - a1.Low))) (ref21_none  fun r107 => Q r107) (ifP ((a1.B.length : Int) != (w64 (a1.High - a1.Low))) (ref21_none  fun r124 => Q r124) (ref03_Right a1.On (w64 (a1.High - a1.Low)) fun r140 => ifP (!r140) (ref21_none  fun r145 => Q r145) (Q a1)))))))

def ref21_draw (a0 : Int) (Q : Int → Prop) : Prop :=
  ifP (decide (a0 < 1)) (Q (-1)) (Q (w64 ((w64 (a0 - 1)).tdiv 2)))

def ref21_tells (a0 : Plan) (a1 : State) (a2 : Int) (a3 : Int) (Q : (Int × Bool) → Prop) : Prop :=
  ref03_Has a1.On a3 fun r25 => ifP (a0.Kind == 1) (Q (w64 (a1.Low + a3), r25)) (joinP (fun (k33 : Bool → Prop) => ifP (a0.Kind == 5) (k33 ((a2.tmod 2) != 0)) (k33 false)) fun s32 => ifP s32 (idxP a1.A a3 fun x39 => ref21_draw a2 fun r47 => ref21_Draw a0 r47 (w64 (a1.Low + a3)) fun r51 => Q (r51, x39 == 0)) (ifP (a0.Kind == 5) (Q (1, r25)) (idxP a1.A a3 fun x57 => Q (x57, r25))))

def ref21_Out (a0 : Plan) (a1 : State) (a2 : Int) (Q : Vec → Prop) : Prop :=
  ref21_Sure a0 a1 fun r44 => loopP (fun (s : (List Item) × Int) (next120 : ((List Item) × Int) → Prop) => match s with | (s114, s118) => ifP (decide (s118 < (w64 (r44.High - r44.Low)))) (ref21_tells a0 r44 a2 s118 fun r130 => ifP r130.2 (appP 16 s114 ([({ At := s118, Val := r130.1 } : Item)]) fun _ => next120 ((s114 ++ ([({ At := s118, Val := r130.1 } : Item)])), w64 (s118 + 1))) (next120 (s114, w64 (s118 + 1)))) (Q ({ N := w64 (r44.High - r44.Low), Items := s114 } : Vec))) (([] : List Item), 0)

def ref09_Right (a0 : Vec) (Q : Bool → Prop) : Prop :=
  ifP (decide (a0.N < 0)) (Q false) (ifP (decide (4096 < a0.N)) (Q false) (loopP (fun (s79 : Int) (next80 : Int → Prop) => ifP (decide (s79 < (a0.Items.length : Int))) (idxP a0.Items s79 fun x86 => ifP (decide (x86.At < 0)) (Q false) (idxP a0.Items s79 fun x96 => ifP (decide (a0.N ≤ x96.At)) (Q false) (ifP (decide (0 < s79)) (idxP a0.Items s79 fun x107 => idxP a0.Items (w64 (s79 - 1)) fun x116 => ifP (decide (x107.At ≤ x116.At)) (Q false) (next80 (w64 (s79 + 1)))) (next80 (w64 (s79 + 1)))))) (Q true)) 0))

def ref09_Sure (a0 : Vec) (Q : Vec → Prop) : Prop :=
  ref09_Right a0 fun r15 => ifP r15 (Q a0) (Q ({ N := 0, Items := ([] : List Item) } : Vec))

def ref09_Get (a0 : Vec) (a1 : Int) (Q : (Int × Bool) → Prop) : Prop :=
  ref09_Sure a0 fun r18 => loopP (fun (s91 : Int) (next92 : Int → Prop) => ifP (decide (s91 < (r18.Items.length : Int))) (idxP r18.Items s91 fun x108 => ifP (x108.At == a1) (idxP r18.Items s91 fun x118 => Q (x118.Val, true)) (next92 (w64 (s91 + 1)))) (Q (0, false))) 0

def ref21_Update (a0 : Plan) (a1 : State) (a2 : Int) (a3 : Vec) (Q : State → Prop) : Prop :=
  ref21_Sure a0 a1 fun r57 => appP 8 ([] : List Int) r57.A fun _ => appP 8 ([] : List Int) r57.B fun _ => appP 8 ([] : List Int) r57.On fun _ => ref09_Right a3 fun r113 => ifP (!r113) (Q ({ Low := r57.Low, High := r57.High, A := (([] : List Int) ++ r57.A), B := (([] : List Int) ++ r57.B), On := (([] : List Int) ++ r57.On) } : State)) (ifP (a3.N != (w64 (r57.High - r57.Low))) (Q ({ Low := r57.Low, High := r57.High, A := (([] : List Int) ++ r57.A), B := (([] : List Int) ++ r57.B), On := (([] : List Int) ++ r57.On) } : State)) (loopP (fun (s : (List Int) × (List Int) × (List Int) × Int) (next1130 : ((List Int) × (List Int) × (List Int) × Int) → Prop) => match s with | (s1116, s1120, s1124, s1128) => ifP (decide (s1128 < a3.N)) (ref09_Get a3 s1128 fun r1140 => ifP (a0.Kind == 1) (joinP (fun (k1166 : Bool → Prop) => ifP r1140.2 (idxP r57.A s1128 fun x1169 => k1166 (x1169 == (-1))) (k1166 false)) fun s1165 => ifP s1165 (idxP s1116 s1128 fun x1183 => idxP s1120 s1128 fun x1188 => appP 8 s1124 ([s1128]) fun _ => next1130 ((s1116.set s1128.toNat a2), (s1120.set s1128.toNat r1140.1), (s1124 ++ ([s1128])), w64 (s1128 + 1))) (next1130 (s1116, s1120, s1124, w64 (s1128 + 1)))) (joinP (fun (k1201 : Bool → Prop) => ifP (a0.Kind == 2) (k1201 (a0.Kind == 2)) (k1201 (a0.Kind == 3))) fun s1200 => ifP s1200 (ifP r1140.2 (idxP r57.A s1128 fun x1210 => ifP (decide (r1140.1 < x1210)) (idxP s1116 s1128 fun x1220 => appP 8 s1124 ([s1128]) fun _ => next1130 ((s1116.set s1128.toNat r1140.1), s1120, (s1124 ++ ([s1128])), w64 (s1128 + 1))) (next1130 (s1116, s1120, s1124, w64 (s1128 + 1)))) (next1130 (s1116, s1120, s1124, w64 (s1128 + 1)))) (ifP (a0.Kind == 4) (idxP s1116 s1128 fun x1232 => ifP (r1140.1 != 0) (appP 8 s1124 ([s1128]) fun _ => next1130 ((s1116.set s1128.toNat r1140.1), s1120, (s1124 ++ ([s1128])), w64 (s1128 + 1))) (next1130 ((s1116.set s1128.toNat r1140.1), s1120, s1124, w64 (s1128 + 1)))) (idxP r57.A s1128 fun x1254 => ifP (x1254 != 0) (next1130 (s1116, s1120, s1124, w64 (s1128 + 1))) (ifP ((a2.tmod 2) == 0) (ifP r1140.2 (idxP s1116 s1128 fun x1273 => next1130 ((s1116.set s1128.toNat 2), s1120, s1124, w64 (s1128 + 1))) (next1130 (s1116, s1120, s1124, w64 (s1128 + 1)))) (ifP (!r1140.2) (idxP s1116 s1128 fun x1279 => appP 8 s1124 ([s1128]) fun _ => next1130 ((s1116.set s1128.toNat 1), s1120, (s1124 ++ ([s1128])), w64 (s1128 + 1))) (ref21_draw a2 fun r1289 => ref21_Draw a0 r1289 (w64 (r57.Low + s1128)) fun r1293 => ifP (decide (r1293 < r1140.1)) (idxP s1116 s1128 fun x1299 => appP 8 s1124 ([s1128]) fun _ => next1130 ((s1116.set s1128.toNat 1), s1120, (s1124 ++ ([s1128])), w64 (s1128 + 1))) (next1130 (s1116, s1120, s1124, w64 (s1128 + 1)))))))))) (ref03_Of a3.N s1124 fun r1314 => Q ({ Low := r57.Low, High := r57.High, A := s1116, B := s1120, On := r1314 } : State))) ((([] : List Int) ++ r57.A), (([] : List Int) ++ r57.B), ([] : List Int), 0)))

def ref21_Live (a0 : Plan) (a1 : State) (a2 : Int) (Q : Int → Prop) : Prop :=
  ref21_Sure a0 a1 fun r37 => joinP (fun (k57 : Unit → Prop) => ifP (a0.Kind == 4) (ifP (decide (a0.Length ≤ a2)) (Q 0) (k57 ())) (k57 ())) fun _ => loopP (fun (s : Int × Int) (next121 : (Int × Int) → Prop) => match s with | (s119, s120) => ifP (decide (s120 < (w64 (r37.High - r37.Low)))) (ifP (a0.Kind == 5) (idxP r37.A s120 fun x130 => ifP (x130 == 0) (next121 (w64 (s119 + 1), w64 (s120 + 1))) (ifP (a0.Kind != 5) (ref03_Has r37.On s120 fun r140 => ifP r140 (next121 (w64 (s119 + 1), w64 (s120 + 1))) (next121 (s119, w64 (s120 + 1)))) (next121 (s119, w64 (s120 + 1))))) (ifP (a0.Kind != 5) (ref03_Has r37.On s120 fun r146 => ifP r146 (next121 (w64 (s119 + 1), w64 (s120 + 1))) (next121 (s119, w64 (s120 + 1)))) (next121 (s119, w64 (s120 + 1))))) (Q s119)) (0, 0)

def ref09_Part (a0 : Vec) (a1 : Int) (a2 : Int) (Q : Vec → Prop) : Prop :=
  ref09_Sure a0 fun r25 => ifP (decide ((if r25.N < a2 then r25.N else a2) ≤ (if 0 > a1 then 0 else a1))) (Q ({ N := 0, Items := ([] : List Item) } : Vec)) (loopP (fun (s : (List Item) × Int) (next242 : ((List Item) × Int) → Prop) => match s with | (s236, s240) => ifP (decide (s240 < (r25.Items.length : Int))) (joinP (fun (k287 : Bool → Prop) => idxP r25.Items s240 fun x289 => ifP (decide ((if 0 > a1 then 0 else a1) ≤ x289.At)) (idxP r25.Items s240 fun x299 => k287 (decide (x299.At < (if r25.N < a2 then r25.N else a2)))) (k287 false)) fun s286 => ifP s286 (idxP r25.Items s240 fun x314 => idxP r25.Items s240 fun x323 => appP 16 s236 ([({ At := w64 (x314.At - (if 0 > a1 then 0 else a1)), Val := x323.Val } : Item)]) fun _ => next242 ((s236 ++ ([({ At := w64 (x314.At - (if 0 > a1 then 0 else a1)), Val := x323.Val } : Item)])), w64 (s240 + 1))) (next242 (s236, w64 (s240 + 1)))) (Q ({ N := w64 ((if r25.N < a2 then r25.N else a2) - (if 0 > a1 then 0 else a1)), Items := s236 } : Vec))) (([] : List Item), 0))

def ref09_Glue (a0 : List Vec) (Q : (Vec × Int) → Prop) : Prop :=
  loopP (fun (s : Int × (List Item) × Int) (next564 : (Int × (List Item) × Int) → Prop) => match s with | (s557, s558, s562) => ifP (decide (s562 < (a0.length : Int))) (idxP a0 s562 fun x595 => ref09_Sure x595 fun r606 => loopP (fun (s : (List Item) × Int) (next798 : ((List Item) × Int) → Prop) => match s with | (s793, s797) => ifP (decide (s797 < (r606.Items.length : Int))) (idxP r606.Items s797 fun x806 => idxP r606.Items s797 fun x815 => appP 16 s793 ([({ At := w64 (s557 + x806.At), Val := x815.Val } : Item)]) fun _ => next798 ((s793 ++ ([({ At := w64 (s557 + x806.At), Val := x815.Val } : Item)])), w64 (s797 + 1))) (ifP (decide (4096 < (w64 (s557 + r606.N)))) (Q (({ N := 0, Items := ([] : List Item) } : Vec), 5)) (next564 (w64 (s557 + r606.N), s793, w64 (s562 + 1))))) (s558, 0)) (Q (({ N := s557, Items := s558 } : Vec), 0))) (0, ([] : List Item), 0)

def ref21_Glue (a0 : List State) (Q : State → Prop) : Prop :=
  loopP (fun (s : Int × Int × (List Int) × (List Int) × (List Int) × Int) (next2494 : (Int × Int × (List Int) × (List Int) × (List Int) × Int) → Prop) => match s with | (s2476, s2477, s2478, s2482, s2486, s2490) => ifP (decide (s2490 < (a0.length : Int))) (joinP (fun (k2538 : Int → Prop) => ifP (s2490 == 0) (idxP a0 0 fun x2541 => k2538 x2541.Low) (k2538 s2476)) fun s2537 => idxP a0 s2490 fun x2580 => idxP a0 s2490 fun x2628 => ref03_List x2628.On fun r2645 => loopP (fun (s : (List Int) × Int) (next2892 : ((List Int) × Int) → Prop) => match s with | (s2887, s2891) => ifP (decide (s2891 < (r2645.length : Int))) (idxP r2645 s2891 fun x2903 => idxP a0 s2490 fun x2912 => appP 8 s2887 ([w64 ((w64 (x2903 + x2912.Low)) - s2537)]) fun _ => next2892 ((s2887 ++ ([w64 ((w64 (x2903 + x2912.Low)) - s2537)])), w64 (s2891 + 1))) (idxP a0 s2490 fun x2939 => appP 8 s2478 x2939.A fun _ => idxP a0 s2490 fun x2964 => appP 8 s2482 x2964.B fun _ => next2494 (s2537, x2580.High, (s2478 ++ x2939.A), (s2482 ++ x2964.B), s2887, w64 (s2490 + 1)))) (s2486, 0)) (ref03_Of (w64 (s2477 - s2476)) s2486 fun r2989 => Q ({ Low := s2476, High := s2477, A := s2478, B := s2482, On := r2989 } : State))) (0, 0, ([] : List Int), ([] : List Int), ([] : List Int), 0)

def prog_first (a0 : Plan) (a1 : Int) (Q : (Int × Bool) → Prop) : Prop :=
  ifP (a0.Kind == 3) (Q (a1, true)) (ifP (a0.Kind == 5) (Q (0, false)) (joinP (fun (k13 : Bool → Prop) => ifP (a0.Kind == 4) (k13 (a1 == a0.Source)) (k13 false)) fun s12 => ifP s12 (Q (1, true)) (joinP (fun (k22 : (Bool × Bool) → Prop) => ifP (a1 == a0.Source) (k22 (true, true)) (k22 (false, a0.Kind == 4))) fun (s20, s21) => ifP s21 (Q (0, s20)) (ifP (a0.Kind == 1) (Q ((-1), false)) (Q (4611686018427387904, false))))))

def spvec_sure (a0 : Vec) (Q : Vec → Prop) : Prop :=
  spvec_Right a0 fun r15 => ifP r15 (Q a0) (Q ({ N := 0, Items := ([] : List Item) } : Vec))

def spvec_order (a0 : Item) (a1 : Int) (Q : Int → Prop) : Prop :=
  cmp_Compare_int a0.At a1 fun r3 => Q r3

def spvec_order_7ac (a0 : Item) (a1 : Int) (Q : Int → Prop) : Prop :=
  cmp_Compare_int a0.At a1 fun r3 => Q r3

def slices_BinarySearchFunc_api_Item_api_Item_int_8a3 (a0 : List Item) (a1 : Int) (Q : (Int × Bool) → Prop) : Prop :=
  loopP (fun (s : Int × Int) (next119 : (Int × Int) → Prop) => match s with | (s117, s118) => ifP (decide (s117 < s118)) (idxP a0 (w64 (shr .u64 (IntKind.wrap .u64 (w64 (s117 + s118))) 1)) fun x125 => spvec_order_7ac x125 a1 fun r139 => ifP (decide (r139 < 0)) (next119 (w64 ((w64 (shr .u64 (IntKind.wrap .u64 (w64 (s117 + s118))) 1)) + 1), s118)) (next119 (s117, w64 (shr .u64 (IntKind.wrap .u64 (w64 (s117 + s118))) 1)))) (ifP (decide (s117 < (a0.length : Int))) (idxP a0 s117 fun x144 => spvec_order_7ac x144 a1 fun r158 => Q (s117, r158 == 0)) (Q (s117, false)))) (0, (a0.length : Int))

def spvec_find (a0 : Vec) (a1 : Int) (Q : (Int × Bool) → Prop) : Prop :=
  slices_BinarySearchFunc_api_Item_api_Item_int_8a3 a0.Items a1 fun r12 => Q (r12.1, r12.2)

def spvec_Get (a0 : Vec) (a1 : Int) (Q : (Int × Bool) → Prop) : Prop :=
  spvec_sure a0 fun r18 => spvec_find r18 a1 fun r32 => ifP (!r32.2) (Q (0, false)) (idxP r18.Items r32.1 fun x38 => Q (x38.Val, true))

def prog_behind (a0 : Plan) (a1 : State) (a2 : Int) (a3 : Int) (a4 : Int) (a5 : Bool) (Q : (Int × Int × Bool) → Prop) : Prop :=
  idxP a1.A a3 fun x40 => idxP a1.B a3 fun x49 => ifP (a0.Kind == 1) (ifP a5 (ifP (x40 == (-1)) (Q (a2, a4, true)) (Q (x40, x49, false))) (Q (x40, x49, false))) (joinP (fun (k63 : Bool → Prop) => ifP (a0.Kind == 2) (k63 (a0.Kind == 2)) (k63 (a0.Kind == 3))) fun s62 => ifP s62 (ifP a5 (ifP (decide (a4 < x40)) (Q (a4, x49, true)) (Q (x40, x49, false))) (Q (x40, x49, false))) (ifP (a0.Kind == 4) (Q (a4, x49, a4 != 0)) (ifP (a0.Kind == 5) (ifP (x40 != 0) (Q (x40, x49, false)) (joinP (fun (k76 : Bool → Prop) => ifP ((bnd .i64 a2 1) == 0) (k76 a5) (k76 false)) fun s75 => ifP s75 (Q (2, x49, false)) (ifP ((bnd .i64 a2 1) == 1) (ifP (!a5) (Q (1, x49, true)) (prog_draw a2 fun r84 => prog_number a0 r84 (w64 (a1.Low + a3)) fun r88 => ifP (decide (r88 < a4)) (Q (1, x49, true)) (Q (x40, x49, false)))) (Q (x40, x49, false))))) (Q (x40, x49, false)))))

def prog_Begin_1_d27 (o0 : Plan) (o1 : Int) (a0 : Int) (Q : (Int × Int × Bool) → Prop) : Prop :=
  prog_first o0 (w64 (o1 + a0)) fun r8 => Q (r8.1, (-1), r8.2)

def prog_changed_b13 (o0 : Plan) (o1 : Int) (a0 : State) (a1 : Int) (Q : State → Prop) : Prop :=
  loopP (fun (s : (List Int) × (List Int) × (List Int) × Int) (next157 : ((List Int) × (List Int) × (List Int) × Int) → Prop) => match s with | (s141, s145, s149, s153) => ifP (decide (s153 < a1)) (prog_Begin_1_d27 o0 o1 s153 fun r176 => appP 8 s141 ([r176.1]) fun _ => appP 8 s145 ([r176.2.1]) fun _ => ifP r176.2.2 (appP 8 s149 ([s153]) fun _ => next157 ((s141 ++ ([r176.1])), (s145 ++ ([r176.2.1])), (s149 ++ ([s153])), w64 (s153 + 1))) (next157 ((s141 ++ ([r176.1])), (s145 ++ ([r176.2.1])), s149, w64 (s153 + 1)))) (flags_Of a1 s149 fun r201 => Q ({ Low := a0.Low, High := a0.High, A := s141, B := s145, On := r201 } : State))) (([] : List Int), ([] : List Int), ([] : List Int), 0)

def prog_Begin (a0 : Plan) (a1 : Int) (a2 : Int) (Q : State → Prop) : Prop :=
  prog_Right a0 fun r33 => ifP (r33 != 0) (Q ({ Low := 0, High := 0, A := ([] : List Int), B := ([] : List Int), On := ([] : List Int) } : State)) (ifP (decide (a1 < 0)) (Q ({ Low := 0, High := 0, A := ([] : List Int), B := ([] : List Int), On := ([] : List Int) } : State)) (ifP (decide (a2 < a1)) (Q ({ Low := 0, High := 0, A := ([] : List Int), B := ([] : List Int), On := ([] : List Int) } : State)) (ifP (decide (a0.N < a2)) (Q ({ Low := 0, High := 0, A := ([] : List Int), B := ([] : List Int), On := ([] : List Int) } : State)) (prog_changed_b13 a0 a1 ({ Low := a1, High := a2, A := ([] : List Int), B := ([] : List Int), On := ([] : List Int) } : State) (w64 (a2 - a1)) fun r49 => Q r49))))

def prog_Update_1_24a (o0 : Vec) (o1 : Plan) (o2 : State) (o3 : Int) (a0 : Int) (Q : (Int × Int × Bool) → Prop) : Prop :=
  spvec_Get o0 a0 fun r28 => prog_behind o1 o2 o3 a0 r28.1 r28.2 fun r32 => Q (r32.1, r32.2.1, r32.2.2)

def prog_changed_59a (o0 : Vec) (o1 : Plan) (o2 : State) (o3 : Int) (a0 : State) (a1 : Int) (Q : State → Prop) : Prop :=
  loopP (fun (s : (List Int) × (List Int) × (List Int) × Int) (next173 : ((List Int) × (List Int) × (List Int) × Int) → Prop) => match s with | (s157, s161, s165, s169) => ifP (decide (s169 < a1)) (prog_Update_1_24a o0 o1 o2 o3 s169 fun r192 => appP 8 s157 ([r192.1]) fun _ => appP 8 s161 ([r192.2.1]) fun _ => ifP r192.2.2 (appP 8 s165 ([s169]) fun _ => next173 ((s157 ++ ([r192.1])), (s161 ++ ([r192.2.1])), (s165 ++ ([s169])), w64 (s169 + 1))) (next173 ((s157 ++ ([r192.1])), (s161 ++ ([r192.2.1])), s165, w64 (s169 + 1)))) (flags_Of a1 s165 fun r217 => Q ({ Low := a0.Low, High := a0.High, A := s157, B := s161, On := r217 } : State))) (([] : List Int), ([] : List Int), ([] : List Int), 0)

def prog_Update (a0 : Plan) (a1 : State) (a2 : Int) (a3 : Vec) (Q : State → Prop) : Prop :=
  prog_sure a0 a1 fun r61 => joinP (fun (k88 : Bool → Prop) => spvec_Right a3 fun r89 => ifP (!r89) (k88 true) (k88 (a3.N != (w64 (r61.High - r61.Low))))) fun s87 => ifP s87 (slices_Clone_int64_int64 r61.A fun r98 => slices_Clone_int64_int64 r61.B fun r110 => slices_Clone_uint64_uint64 r61.On fun r122 => Q ({ Low := r61.Low, High := r61.High, A := r98, B := r110, On := r122 } : State)) (prog_changed_59a a3 a0 r61 a2 r61 (w64 (r61.High - r61.Low)) fun r140 => Q r140)

def law21_live  (Q : Bool → Prop) : Prop :=
  prog_Begin ({ Kind := 1, N := 3, Source := 1, Length := 0, Draws := ([] : List Int) } : Plan) 0 3 fun r23 => prog_Out ({ Kind := 1, N := 3, Source := 1, Length := 0, Draws := ([] : List Int) } : Plan) r23 1 fun r54 => prog_Asked ({ Kind := 1, N := 3, Source := 1, Length := 0, Draws := ([] : List Int) } : Plan) r23 1 fun r78 => prog_Update ({ Kind := 1, N := 3, Source := 1, Length := 0, Draws := ([] : List Int) } : Plan) r23 1 ({ N := 3, Items := ([({ At := 2, Val := 1 } : Item)] : List Item) } : Vec) fun r122 => prog_Matrix ({ Kind := 1, N := 3, Source := 1, Length := 0, Draws := ([] : List Int) } : Plan) ({ N := 3, Edges := ([({ From := 1, To := 2, W := 9 } : Edge)] : List Edge) } : Graph) fun r174 => ref07_SameVals r23.A ([(-1), 0, (-1)] : List Int) fun r199 => ifP r199 (prog_Live ({ Kind := 1, N := 3, Source := 1, Length := 0, Draws := ([] : List Int) } : Plan) r23 0 fun r204 => ifP (r204 == 1) (ifP ((r54.Items.length : Int) == 1) (idxP r54.Items 0 fun x211 => ifP (x211 == ({ At := 1, Val := 1 } : Item)) (ref03_List r78.1 fun r220 => ref03_SameInts r220 ([0, 2] : List Int) fun r237 => ifP r237 (ifP (!r78.2) (idxP r122.A 2 fun x244 => ifP (x244 == 1) (idxP r122.B 2 fun x254 => ifP (x254 == 1) (ifP (r174.2 == 0) (ifP ((r174.1.Val.length : Int) == 1) (idxP r174.1.Val 0 fun x266 => ifP (x266 == 1) (prog_Right ({ Kind := 1, N := 3, Source := 1, Length := 0, Draws := ([] : List Int) } : Plan) fun r275 => ifP (r275 == 0) (prog_Right ({ Kind := 0, N := 0, Source := 0, Length := 0, Draws := ([] : List Int) } : Plan) fun r280 => ifP (r280 == 8) (prog_Ring 5 2 fun r285 => ifP (r285 == 2) (prog_Draw ({ Kind := 1, N := 3, Source := 1, Length := 0, Draws := ([] : List Int) } : Plan) 0 2 fun r290 => ifP (r290 == 2) (prog_Same r23 r23 fun r295 => ifP r295 (prog_Same r23 r122 fun r300 => Q (!r300)) (Q false)) (Q false)) (Q false)) (Q false)) (Q false)) (Q false)) (Q false)) (Q false)) (Q false)) (Q false)) (Q false)) (Q false)) (Q false)) (Q false)) (Q false)) (Q false)

def law21_ProgIs (a0 : Plan) (a1 : Int) (a2 : Graph) (Q : Bool → Prop) : Prop :=
  joinP (fun (k61 : Unit → Prop) => ifP (decide (60 < (a2.Edges.length : Int))) (law21_live  fun r63 => Q r63) (ifP (decide (100 < (a0.Draws.length : Int))) (ifP (decide ((a0.Draws.length : Int) ≤ 65536)) (law21_live  fun r69 => Q r69) (ifP (decide (100 < a2.N)) (ifP (decide (a2.N ≤ 4096)) (law21_live  fun r75 => Q r75) (k61 ())) (k61 ()))) (ifP (decide (100 < a2.N)) (ifP (decide (a2.N ≤ 4096)) (law21_live  fun r81 => Q r81) (k61 ())) (k61 ())))) fun _ => prog_Matrix a0 a2 fun r106 => ref21_Matrix a0 a2 fun r144 => law21_live  fun r163 => ifP r163 (prog_Right a0 fun r168 => ref21_Right a0 fun r172 => ifP (r168 == r172) (prog_Ring a0.Kind a1 fun r177 => ref21_Ring a0.Kind a1 fun r181 => ifP (r177 == r181) (prog_Draw a0 a1 a0.Source fun r186 => ref21_Draw a0 a1 a0.Source fun r190 => ifP (r186 == r190) (ref07_Same r106.1 r144.1 fun r195 => ifP r195 (Q (r106.2 == r144.2)) (Q false)) (Q false)) (Q false)) (Q false)) (Q false)

def law21_ProgSteps (a0 : Plan) (a1 : Int) (a2 : List (List Item)) (Q : Bool → Prop) : Prop :=
  law21_Plan a0 ((w64 (a1)).tmod 60) fun r21 => prog_Begin r21 0 r21.N fun r50 => law21_live  fun r96 => ifP (!r96) (Q false) (ref21_Begin r21 0 r21.N fun r101 => ref21_Same r50 r101 fun r118 => ifP (!r118) (Q false) (loopP (fun (s : Int × Int × (List Int) × (List Int) × (List Int) × Int) (next491 : (Int × Int × (List Int) × (List Int) × (List Int) × Int) → Prop) => match s with | (s476, s477, s478, s482, s486, s490) => ifP (decide (s490 < (a2.length : Int))) (ifP (decide (s490 < 6)) (idxP a2 s490 fun x526 => law21_got r21 x526 fun r538 => prog_Update r21 ({ Low := s476, High := s477, A := s478, B := s482, On := s486 } : State) (w64 (s490 + 1)) r538 fun r571 => prog_Out r21 ({ Low := s476, High := s477, A := s478, B := s482, On := s486 } : State) (w64 (s490 + 1)) fun r591 => ref21_Out r21 ({ Low := s476, High := s477, A := s478, B := s482, On := s486 } : State) (w64 (s490 + 1)) fun r603 => ref09_Same r591 r603 fun r615 => ifP (!r615) (Q false) (ref21_Update r21 ({ Low := s476, High := s477, A := s478, B := s482, On := s486 } : State) (w64 (s490 + 1)) r538 fun r620 => ref21_Same r571 r620 fun r638 => ifP (!r638) (Q false) (prog_Live r21 r571 (w64 (s490 + 1)) fun r643 => ref21_Live r21 r571 (w64 (s490 + 1)) fun r647 => ifP (r643 != r647) (Q false) (next491 (r571.Low, r571.High, r571.A, r571.B, r571.On, w64 (s490 + 1)))))) (Q true)) (Q true)) (r50.Low, r50.High, r50.A, r50.B, r50.On, 0)))

def law21_ProgParts (a0 : Plan) (a1 : (List Item) × (List Item)) (a2 : Int × Int) (Q : Bool → Prop) : Prop :=
  law21_Plan a0 ((w64 (a2.1)).tmod 60) fun r32 => law21_Within (w64 (a2.2)) (w64 (r32.N + 1)) fun r46 => law21_got r32 a1.1 fun r78 => law21_got r32 a1.2 fun r89 => prog_Begin r32 0 r32.N fun r139 => prog_Update r32 r139 1 r78 fun r156 => prog_Begin r32 0 r46 fun r222 => ref09_Part r78 0 r46 fun r239 => prog_Update r32 r222 1 r239 fun r250 => prog_Begin r32 r46 r32.N fun r316 => ref09_Part r78 r46 r32.N fun r333 => prog_Update r32 r316 1 r333 fun r344 => prog_Out r32 r250 2 fun r404 => prog_Out r32 r344 2 fun r415 => ref09_Glue ([r404, r415] : List Vec) fun r432 => ref09_Part r89 0 r46 fun r475 => prog_Update r32 r250 2 r475 fun r486 => ref09_Part r89 r46 r32.N fun r535 => prog_Update r32 r344 2 r535 fun r546 => law21_live  fun r564 => ifP r564 (ifP (r432.2 == 0) (ref21_Glue ([r250, r344] : List State) fun r576 => prog_Same r576 r156 fun r593 => ifP r593 (prog_Out r32 r156 2 fun r598 => ref09_Same r432.1 r598 fun r609 => ifP r609 (ref21_Glue ([r486, r546] : List State) fun r620 => prog_Update r32 r156 2 r89 fun r637 => prog_Same r620 r637 fun r654 => ifP r654 (prog_Live r32 r250 1 fun r659 => prog_Live r32 r344 1 fun r663 => prog_Live r32 r156 1 fun r667 => Q ((w64 (r659 + r663)) == r667)) (Q false)) (Q false)) (Q false)) (Q false)) (Q false)

def law21_ProgFalls (a0 : Plan) (a1 : Int) (a2 : List (List Item)) (Q : Bool → Prop) : Prop :=
  law21_Plan a0 ((w64 (a1)).tmod 60) fun r21 => prog_Begin r21 0 r21.N fun r50 => loopP (fun (s : Int × Int × (List Int) × (List Int) × (List Int) × Int) (next1121 : (Int × Int × (List Int) × (List Int) × (List Int) × Int) → Prop) => match s with | (s1106, s1107, s1108, s1112, s1116, s1120) => ifP (decide (s1120 < (a2.length : Int))) (ifP (decide (s1120 < 6)) (idxP a2 s1120 fun x1174 => law21_got r21 x1174 fun r1186 => prog_Update r21 ({ Low := s1106, High := s1107, A := s1108, B := s1112, On := s1116 } : State) (w64 (s1120 + 1)) r1186 fun r1198 => ifP ((r1198.A.length : Int) != r21.N) (Q false) (ifP ((s1108.length : Int) != r21.N) (Q false) (loopP (fun (s1486 : Int) (next1487 : Int → Prop) => ifP (decide (s1486 < r21.N)) (ifP (r21.Kind == 1) (idxP s1108 s1486 fun x1496 => ifP (x1496 != (-1)) (idxP r1198.A s1486 fun x1506 => idxP s1108 s1486 fun x1515 => ifP (x1506 != x1515) (Q false) (next1487 (w64 (s1486 + 1)))) (next1487 (w64 (s1486 + 1)))) (joinP (fun (k1527 : Bool → Prop) => ifP (r21.Kind == 2) (k1527 (r21.Kind == 2)) (k1527 (r21.Kind == 3))) fun s1526 => ifP s1526 (idxP r1198.A s1486 fun x1536 => idxP s1108 s1486 fun x1545 => ifP (decide (x1545 < x1536)) (Q false) (next1487 (w64 (s1486 + 1)))) (ifP (r21.Kind == 5) (idxP s1108 s1486 fun x1556 => ifP (x1556 != 0) (idxP r1198.A s1486 fun x1566 => idxP s1108 s1486 fun x1575 => ifP (x1566 != x1575) (Q false) (idxP r1198.A s1486 fun x1585 => ifP (decide (x1585 < 0)) (Q false) (idxP r1198.A s1486 fun x1595 => ifP (decide (2 < x1595)) (Q false) (next1487 (w64 (s1486 + 1)))))) (idxP r1198.A s1486 fun x1605 => ifP (decide (x1605 < 0)) (Q false) (idxP r1198.A s1486 fun x1615 => ifP (decide (2 < x1615)) (Q false) (next1487 (w64 (s1486 + 1)))))) (next1487 (w64 (s1486 + 1)))))) (next1121 (r1198.Low, r1198.High, r1198.A, r1198.B, r1198.On, w64 (s1120 + 1)))) 0))) (law21_live  fun r1624 => Q r1624)) (law21_live  fun r1628 => Q r1628)) (r50.Low, r50.High, r50.A, r50.B, r50.On, 0)
end Go.Proofs.YtggmiaebkplnlaaGreat
