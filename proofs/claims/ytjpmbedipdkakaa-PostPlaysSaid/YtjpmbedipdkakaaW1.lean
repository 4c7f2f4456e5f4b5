/- The walks (printed by a program of ours). -/
import Derived.Test.YtjpmbedipdkakaaF
namespace Go.Proofs.Ytjpmbedipdkakaa
open Go Go.Fw
set_option linter.unusedVariables false
set_option maxRecDepth 8000
set_option maxHeartbeats 1000000
theorem W_slices_Clone_api_Item_api_Item {I : IH} {a0 : List Item} {p1 : Option Addr} {c2 : Nat} {Q : (List Item) → Prop} (R3 : RepSl eItem I p1 c2 a0) (hd : slices_Clone_api_Item_api_Item a0 Q) :
    PFun Try.prog 40 [.slice p1 a0.length c2] I (fun I_ v => ∃ r p4 c5, v = .slice p4 r.length c5 ∧ RepSl eItem I_ p4 c5 r ∧ Q r) := by
  refine Fun.enter Try.func40 rfl Try.ntmps40 rfl (.c .n) fun w0 M => ?_
  refine .seq ?_
  refine .region ?_
  refine .skips 1 rfl ?_
  refine .nil' fun c w ho hs => Cod.at (E := [(0, _)]) (ho.sub ⟨rfl, trivial⟩) hs ?_
  refine .seq ?_
  refine .seq ?_
  refine .region ?_
  refine .skips 1 rfl ?_
  refine .eqNilS Try.underlying28 rfl rfl rfl rfl ?_
  refine .nil' fun c w ho hs => Cod.at (E := [(0, _), (4, _)]) (ho.sub ⟨rfl, rfl, trivial⟩) hs ?_
  refine split p1.isNone (fun hb7 => ?_) (fun hb7 => ?_)
  · have hd := hd.1 (RepSl.ofNone R3 hb7)
    refine .condKT rfl hb7 ?_
    refine .seq ?_
    refine .region ?_
    refine .skips 1 rfl ?_
    refine .nil' fun c w ho hs => Cod.at (E := [(2, _)]) (ho.sub ⟨rfl, trivial⟩) hs ?_
    exact .ret (pret Try.results40 (.t rfl .n) (.refl _) ⟨([] : List Item), _, _, rfl, (.nil _ _ _), hd⟩)
  · have hd := hd.2
    refine .condKF rfl hb7 ?_
    refine .skip' fun c w ho hs => Cod.at (E := [(0, _)]) (ho.sub ⟨rfl, trivial⟩) hs ?_
    refine .seq ?_
    refine .region ?_
    refine .buildSlice 0 Try.underlying28 Try.sizeOf71 Try.zeroValue71 rfl rfl .n rfl rfl fun b9 => ?_
    refine .skips 1 rfl ?_
    refine .ownB (El := eItem) (ys := ([] : List Item)) .z .nil rfl ?_
    obtain ⟨hl12, hd⟩ := hd
    refine .append (ys := a0) 16 .z Try.underlying28 Try.underlying28 IN71 rfl rfl rfl rfl rfl rfl rfl rfl rfl (.imm R3 rfl) hl12 rfl rfl fun p13 c14 => ?_
    refine .skips 1 rfl ?_
    refine .nil' fun c w ho hs => Cod.at (E := [(2, _)]) (ho.sub ⟨rfl, trivial⟩) hs ?_
    refine .pub .z fun I16 hl17 R18 => ?_
    have le19 := IH.le.trans (.refl _) hl17
    exact .ret (pret Try.results40 (.t rfl .n) le19 ⟨(([] : List Item) ++ a0), _, _, rfl, R18, hd⟩)

theorem W_slices_Clone_api_Sum_api_Sum {I : IH} {a0 : List Sum} {p1 : Option Addr} {c2 : Nat} {Q : (List Sum) → Prop} (R3 : RepSl eSum I p1 c2 a0) (hd : slices_Clone_api_Sum_api_Sum a0 Q) :
    PFun Try.prog 41 [.slice p1 a0.length c2] I (fun I_ v => ∃ r p4 c5, v = .slice p4 r.length c5 ∧ RepSl eSum I_ p4 c5 r ∧ Q r) := by
  refine Fun.enter Try.func41 rfl Try.ntmps41 rfl (.c .n) fun w0 M => ?_
  refine .seq ?_
  refine .region ?_
  refine .skips 1 rfl ?_
  refine .nil' fun c w ho hs => Cod.at (E := [(0, _)]) (ho.sub ⟨rfl, trivial⟩) hs ?_
  refine .seq ?_
  refine .seq ?_
  refine .region ?_
  refine .skips 1 rfl ?_
  refine .eqNilS Try.underlying31 rfl rfl rfl rfl ?_
  refine .nil' fun c w ho hs => Cod.at (E := [(0, _), (4, _)]) (ho.sub ⟨rfl, rfl, trivial⟩) hs ?_
  refine split p1.isNone (fun hb7 => ?_) (fun hb7 => ?_)
  · have hd := hd.1 (RepSl.ofNone R3 hb7)
    refine .condKT rfl hb7 ?_
    refine .seq ?_
    refine .region ?_
    refine .skips 1 rfl ?_
    refine .nil' fun c w ho hs => Cod.at (E := [(2, _)]) (ho.sub ⟨rfl, trivial⟩) hs ?_
    exact .ret (pret Try.results41 (.t rfl .n) (.refl _) ⟨([] : List Sum), _, _, rfl, (.nil _ _ _), hd⟩)
  · have hd := hd.2
    refine .condKF rfl hb7 ?_
    refine .skip' fun c w ho hs => Cod.at (E := [(0, _)]) (ho.sub ⟨rfl, trivial⟩) hs ?_
    refine .seq ?_
    refine .region ?_
    refine .buildSlice 0 Try.underlying31 Try.sizeOf80 Try.zeroValue80 rfl rfl .n rfl rfl fun b9 => ?_
    refine .skips 1 rfl ?_
    refine .ownB (El := eSum) (ys := ([] : List Sum)) .z .nil rfl ?_
    obtain ⟨hl12, hd⟩ := hd
    refine .append (ys := a0) 24 .z Try.underlying31 Try.underlying31 IN80 rfl rfl rfl rfl rfl rfl rfl rfl rfl (.imm R3 rfl) hl12 rfl rfl fun p13 c14 => ?_
    refine .skips 1 rfl ?_
    refine .nil' fun c w ho hs => Cod.at (E := [(2, _)]) (ho.sub ⟨rfl, trivial⟩) hs ?_
    refine .pub .z fun I16 hl17 R18 => ?_
    have le19 := IH.le.trans (.refl _) hl17
    exact .ret (pret Try.results41 (.t rfl .n) le19 ⟨(([] : List Sum) ++ a0), _, _, rfl, R18, hd⟩)

theorem W_slices_Clone_api_Triple_api_Triple {I : IH} {a0 : List Triple} {p1 : Option Addr} {c2 : Nat} {Q : (List Triple) → Prop} (R3 : RepSl eTriple I p1 c2 a0) (hd : slices_Clone_api_Triple_api_Triple a0 Q) :
    PFun Try.prog 42 [.slice p1 a0.length c2] I (fun I_ v => ∃ r p4 c5, v = .slice p4 r.length c5 ∧ RepSl eTriple I_ p4 c5 r ∧ Q r) := by
  refine Fun.enter Try.func42 rfl Try.ntmps42 rfl (.c .n) fun w0 M => ?_
  refine .seq ?_
  refine .region ?_
  refine .skips 1 rfl ?_
  refine .nil' fun c w ho hs => Cod.at (E := [(0, _)]) (ho.sub ⟨rfl, trivial⟩) hs ?_
  refine .seq ?_
  refine .seq ?_
  refine .region ?_
  refine .skips 1 rfl ?_
  refine .eqNilS Try.underlying32 rfl rfl rfl rfl ?_
  refine .nil' fun c w ho hs => Cod.at (E := [(0, _), (4, _)]) (ho.sub ⟨rfl, rfl, trivial⟩) hs ?_
  refine split p1.isNone (fun hb7 => ?_) (fun hb7 => ?_)
  · have hd := hd.1 (RepSl.ofNone R3 hb7)
    refine .condKT rfl hb7 ?_
    refine .seq ?_
    refine .region ?_
    refine .skips 1 rfl ?_
    refine .nil' fun c w ho hs => Cod.at (E := [(2, _)]) (ho.sub ⟨rfl, trivial⟩) hs ?_
    exact .ret (pret Try.results42 (.t rfl .n) (.refl _) ⟨([] : List Triple), _, _, rfl, (.nil _ _ _), hd⟩)
  · have hd := hd.2
    refine .condKF rfl hb7 ?_
    refine .skip' fun c w ho hs => Cod.at (E := [(0, _)]) (ho.sub ⟨rfl, trivial⟩) hs ?_
    refine .seq ?_
    refine .region ?_
    refine .buildSlice 0 Try.underlying32 Try.sizeOf83 Try.zeroValue83 rfl rfl .n rfl rfl fun b9 => ?_
    refine .skips 1 rfl ?_
    refine .ownB (El := eTriple) (ys := ([] : List Triple)) .z .nil rfl ?_
    obtain ⟨hl12, hd⟩ := hd
    refine .append (ys := a0) 24 .z Try.underlying32 Try.underlying32 IN83 rfl rfl rfl rfl rfl rfl rfl rfl rfl (.imm R3 rfl) hl12 rfl rfl fun p13 c14 => ?_
    refine .skips 1 rfl ?_
    refine .nil' fun c w ho hs => Cod.at (E := [(2, _)]) (ho.sub ⟨rfl, trivial⟩) hs ?_
    refine .pub .z fun I16 hl17 R18 => ?_
    have le19 := IH.le.trans (.refl _) hl17
    exact .ret (pret Try.results42 (.t rfl .n) le19 ⟨(([] : List Triple) ++ a0), _, _, rfl, R18, hd⟩)

theorem W_post_own {I : IH} {a0 : Frame} {p1 : Option Addr} {c2 : Nat} {p4 : Option Addr} {c5 : Nat} {p7 : Option Addr} {c8 : Nat} {Q : Frame → Prop} (R3 : RepSl eItem I p1 c2 a0.Vec.Items) (R6 : RepSl eSum I p4 c5 a0.Sums) (R9 : RepSl eTriple I p7 c8 a0.Triples) (hd : post_own a0 Q) :
    PFun Try.prog 23 [.agg #[.int .i64 a0.Kind, .int .i64 a0.From, .int .i64 a0.To, .int .i64 a0.Seq, .int .i64 a0.Round, .int .i64 a0.Vec.N, .slice p1 a0.Vec.Items.length c2, .slice p4 a0.Sums.length c5, .slice p7 a0.Triples.length c8, .int .i64 a0.N, .bool a0.Over]] I (fun I_ v => ∃ r p10 c11 p13 c14 p16 c17, v = .agg #[.int .i64 r.Kind, .int .i64 r.From, .int .i64 r.To, .int .i64 r.Seq, .int .i64 r.Round, .int .i64 r.Vec.N, .slice p10 r.Vec.Items.length c11, .slice p13 r.Sums.length c14, .slice p16 r.Triples.length c17, .int .i64 r.N, .bool r.Over] ∧ RepSl eItem I_ p10 c11 r.Vec.Items ∧ RepSl eSum I_ p13 c14 r.Sums ∧ RepSl eTriple I_ p16 c17 r.Triples ∧ Q r) := by
  refine Fun.enter Try.func23 rfl Try.ntmps23 rfl (.c .n) fun w0 M => ?_
  refine .seq ?_
  refine .region ?_
  refine .boxA rfl rfl rfl fun b23 => ?_
  refine .allocA Try.zeroValue34 rfl rfl fun b25 => ?_
  refine .nil' fun c w ho hs => Cod.at (E := [(1, _), (2, _)]) (ho.sub ⟨rfl, rfl, trivial⟩) hs ?_
  refine .seq ?_
  refine .region ?_
  refine .fieldAddr Try.underlying34 rfl Try.sizeOf30 rfl (o := 5) rfl rfl rfl ?_
  refine .fieldAddr Try.underlying30 rfl Try.sizeOf28 rfl (o := 6) rfl rfl rfl ?_
  refine .load1 Try.isAgg28 rfl (.s .z) rfl rfl rfl ?_
  have hw47 := W_slices_Clone_api_Item_api_Item (I := I) R3 hd
  refine .call Try.call40 rfl hw47 rfl rfl fun v42 I39 hl40 hv41 => ?_
  obtain ⟨r38, p44, c45, rfl, R46, hd⟩ := hv41
  have le48 := IH.le.trans (.refl _) hl40
  replace R3 := R3.mono hl40
  replace R6 := R6.mono hl40
  replace R9 := R9.mono hl40
  refine .fieldAddr Try.underlying34 rfl Try.sizeOf30 rfl (o := 5) rfl rfl rfl ?_
  refine .fieldAddr Try.underlying30 rfl Try.sizeOf28 rfl (o := 6) rfl rfl rfl ?_
  refine .store1 Try.sizeOf28 rfl rfl (.s .z) (.s (.s (.s (.s (.s (.s (.t .nil))))))) rfl ?_
  refine .nil' fun c w ho hs => Cod.at (E := [(1, _), (2, _)]) (ho.sub ⟨rfl, rfl, trivial⟩) hs ?_
  refine .seq ?_
  refine .region ?_
  refine .fieldAddr Try.underlying34 rfl Try.sizeOf31 rfl (o := 7) rfl rfl rfl ?_
  refine .load1 Try.isAgg31 rfl (.s .z) rfl rfl rfl ?_
  have hw58 := W_slices_Clone_api_Sum_api_Sum (I := I39) R6 hd
  refine .call Try.call41 rfl hw58 rfl rfl fun v53 I50 hl51 hv52 => ?_
  obtain ⟨r49, p55, c56, rfl, R57, hd⟩ := hv52
  have le59 := IH.le.trans le48 hl51
  replace R6 := R6.mono hl51
  replace R9 := R9.mono hl51
  replace R46 := R46.mono hl51
  refine .fieldAddr Try.underlying34 rfl Try.sizeOf31 rfl (o := 7) rfl rfl rfl ?_
  refine .store1 Try.sizeOf31 rfl rfl (.s .z) (.s (.s (.s (.s (.s (.s (.s (.t .nil)))))))) rfl ?_
  refine .nil' fun c w ho hs => Cod.at (E := [(1, _), (2, _)]) (ho.sub ⟨rfl, rfl, trivial⟩) hs ?_
  refine .seq ?_
  refine .region ?_
  refine .fieldAddr Try.underlying34 rfl Try.sizeOf32 rfl (o := 8) rfl rfl rfl ?_
  refine .load1 Try.isAgg32 rfl (.s .z) rfl rfl rfl ?_
  have hw69 := W_slices_Clone_api_Triple_api_Triple (I := I50) R9 hd
  refine .call Try.call42 rfl hw69 rfl rfl fun v64 I61 hl62 hv63 => ?_
  obtain ⟨r60, p66, c67, rfl, R68, hd⟩ := hv63
  have le70 := IH.le.trans le59 hl62
  replace R9 := R9.mono hl62
  replace R46 := R46.mono hl62
  replace R57 := R57.mono hl62
  refine .fieldAddr Try.underlying34 rfl Try.sizeOf32 rfl (o := 8) rfl rfl rfl ?_
  refine .store1 Try.sizeOf32 rfl rfl (.s .z) (.s (.s (.s (.s (.s (.s (.s (.s (.t .nil))))))))) rfl ?_
  refine .nil' fun c w ho hs => Cod.at (E := [(1, _), (2, _)]) (ho.sub ⟨rfl, rfl, trivial⟩) hs ?_
  refine .seq ?_
  refine .region ?_
  refine .loadW Try.isAgg34 Try.sizeOf34 rfl (.s .z) rfl rfl rfl ?_
  refine .storeA Try.sizeOf34 rfl rfl .z (.t (.t (.t (.t (.t (.t (.t (.t (.t (.t (.t .nil))))))))))) rfl rfl ?_
  refine .nil' fun c w ho hs => Cod.at (E := [(2, _)]) (ho.sub ⟨rfl, trivial⟩) hs ?_
  refine .drop (.s .z) ?_
  exact .ret (pret Try.results23 (.w Try.isAgg34 Try.sizeOf34 rfl .z rfl .n) le70 ⟨({ Kind := a0.Kind, From := a0.From, To := a0.To, Seq := a0.Seq, Round := a0.Round, Vec := ({ N := a0.Vec.N, Items := r38 } : Vec), Sums := r49, Triples := r60, N := a0.N, Over := a0.Over } : Frame), _, _, _, _, _, _, rfl, R46, R57, R68, hd⟩)

theorem W_slices_Min_int_int {I : IH} {a0 : List Int} {p1 : Option Addr} {c2 : Nat} {Q : Int → Prop} (R3 : RepSl eI64 I p1 c2 a0) (hd : slices_Min_int_int a0 Q) :
    PFun Try.prog 27 [.slice p1 a0.length c2] I (fun I_ v => ∃ r, v = .int .i64 r ∧ Q r) := by
  refine Fun.enter Try.func27 rfl Try.ntmps27 rfl (.c .n) fun w0 M => ?_
  refine .seq ?_
  refine .region ?_
  refine .skips 1 rfl ?_
  refine .nil' fun c w ho hs => Cod.at (E := [(0, _)]) (ho.sub ⟨rfl, trivial⟩) hs ?_
  refine .seq ?_
  refine .seq ?_
  refine .region ?_
  refine .skips 1 rfl ?_
  refine .len Try.underlying58 rfl rfl rfl rfl ?_
  refine .lt rfl rfl rfl rfl ?_
  refine .nil' fun c w ho hs => Cod.at (E := [(0, _), (7, _)]) (ho.sub ⟨rfl, rfl, trivial⟩) hs ?_
  refine .cond rfl (fun hb5 => ?_) (fun hb5 => ?_)
  · have hd := hd.1 hb5
    refine .region ?_
    exact hd.elim
  · have hd := hd.2 hb5
    refine .skip' fun c w ho hs => Cod.at (E := [(0, _)]) (ho.sub ⟨rfl, trivial⟩) hs ?_
    refine .seq ?_
    refine .region ?_
    refine .skips 1 rfl ?_
    obtain ⟨h15, x16, hx17, hd⟩ := hd
    obtain ⟨b18, o19, cs20, e21, hC22, hr23⟩ := R3.2 _ _ hx17
    cases hr23
    refine .ixa Try.underlying58 Try.sizeOf3 rfl e21 rfl h15 (idx_lt hx17 h15) rfl rfl ?_
    refine .ld1 (j := 0) Try.isAgg3 hC22 rfl rfl rfl rfl rfl ?_
    refine .skips 1 rfl ?_
    refine .nil' fun c w ho hs => Cod.at (E := [(0, _), (3, _)]) (ho.sub ⟨rfl, rfl, trivial⟩) hs ?_
    refine .seq ?_
    refine .seq ?_
    refine .region ?_
    refine .skips 1 rfl ?_
    refine .nil' fun c w ho hs => Cod.at (E := [(0, _), (3, _), (4, _)]) (ho.sub ⟨rfl, rfl, rfl, trivial⟩) hs ?_
    refine .block ?_
    refine .loop hd (fun (s : Int × Int) c w => match s with | (s52, s53) => ∃ I_, IH.le I I_ ∧ Ok 25 [(0, .slice p1 a0.length c2), (3, .int .i64 s52), (4, .int .i64 s53)] c ∧ Sym w0 M I I_ [] w) (fun c w ho hs => ⟨I, (.refl _), ho.sub ⟨rfl, rfl, rfl, trivial⟩, hs.pick .n⟩) ?_
    rintro ⟨s52, s53⟩ next54 hd c w hst
    obtain ⟨I55, hl56, hok, hsym⟩ := hst
    have le57 := IH.le.trans (.refl _) hl56
    replace R3 := R3.mono hl56
    refine Cod.at hok hsym ?_
    refine .seq ?_
    refine .seq ?_
    refine .region ?_
    refine .skips 2 rfl ?_
    refine .len Try.underlying58 rfl rfl rfl rfl ?_
    refine .lt rfl rfl rfl rfl ?_
    refine .nil' fun c w ho hs => Cod.at (E := [(0, _), (3, _), (4, _), (15, _)]) (ho.sub ⟨rfl, rfl, rfl, rfl, trivial⟩) hs ?_
    refine .cond rfl (fun hb59 => ?_) (fun hb59 => ?_)
    · have hd := hd.1 hb59
      refine .skip' fun c w ho hs => Cod.at (E := [(0, _), (3, _), (4, _)]) (ho.sub ⟨rfl, rfl, rfl, trivial⟩) hs ?_
      refine .seq ?_
      refine .block ?_
      refine .region ?_
      refine .skips 3 rfl ?_
      obtain ⟨h60, x61, hx62, hd⟩ := hd
      obtain ⟨b63, o64, cs65, e66, hC67, hr68⟩ := R3.2 _ _ hx62
      cases hr68
      refine .ixa Try.underlying58 Try.sizeOf3 rfl e66 rfl h60 (idx_lt hx62 h60) rfl rfl ?_
      refine .ld1 (j := 0) Try.isAgg3 hC67 rfl rfl rfl rfl rfl ?_
      refine .minI rfl rfl rfl rfl ?_
      refine .sub (E' := [(0, _), (4, _), (18, _), (19, _), (20, _), (21, _), (22, _), (23, _)]) ⟨rfl, rfl, rfl, rfl, rfl, rfl, rfl, rfl, trivial⟩ ?_
      refine .skips 1 rfl ?_
      refine .nil' fun c w ho hs => Cod.at (E := [(0, _), (4, _), (3, _)]) (ho.sub ⟨rfl, rfl, rfl, trivial⟩) hs ?_
      refine .region ?_
      refine .skips 1 rfl ?_
      refine .add rfl rfl rfl rfl ?_
      refine .sub (E' := [(0, _), (3, _), (16, _), (17, _)]) ⟨rfl, rfl, rfl, rfl, trivial⟩ ?_
      refine .skips 1 rfl ?_
      exact .nil' fun c w ho hs => ⟨((if x61 < s52 then x61 else s52), w64 (s53 + 1)), hd, I55, le57, ho.sub ⟨rfl, rfl, rfl, trivial⟩, hs.pick .n⟩
    · have hd := hd.2 hb59
      refine .exit fun c w ho hs => Cod.at (E := [(3, _)]) (ho.sub ⟨rfl, trivial⟩) hs ?_
      refine .seq ?_
      refine .region ?_
      refine .skips 2 rfl ?_
      refine .nil' fun c w ho hs => Cod.at (E := [(2, _)]) (ho.sub ⟨rfl, trivial⟩) hs ?_
      exact .ret (pret Try.results27 (.t rfl .n) le57 ⟨s52, rfl, hd⟩)

theorem W_post_New_i0 {I : IH}   {Q : (Int × Post_Box) → Prop}  (hd : post_New_i0 Q) :
    Fun Try.prog 6 #[.int .i64 2] I [] (fun I_ v l => ∃ r b1 p2 c3 b7 b9, v = .tuple #[.pointer (some ⟨b1, 0, none⟩), .int .i64 r.1] ∧ l = [pto b1 (.cells #[.int .i64 r.2.room, .slice p2 r.2.row.length c3, .map (some b7), .map (some b9), .int .i64 r.2.sent, .int .i64 r.2.taken] 60 (0, 0)), OwnSl eI64 3 p2 c3 r.2.row, OwnMap (Value.int .i64) eFrame true b7 r.2.by_, OwnMap (Value.int .i64) eI64 false b9 r.2.often] ∧ Q r) := by
  refine Fun.enter (vs := [.int .i64 2]) Try.func6 rfl Try.ntmps6 rfl (.c .n) fun w0 M => ?_
  refine .seq ?_
  refine .region ?_
  refine .skips 2 rfl ?_
  refine .nil' fun c w ho hs => Cod.at (E := [(0, _)]) (ho.sub ⟨rfl, trivial⟩) hs ?_
  refine .seq ?_
  refine .seq ?_
  refine .region ?_
  refine .skips 1 rfl ?_
  refine .lt rfl rfl rfl rfl ?_
  refine .skips 1 rfl ?_
  refine .gyes rfl rfl (by decide) (.move rfl rfl rfl ?_)
  refine .gyes rfl rfl (by decide) (.gt rfl rfl rfl rfl ?_)
  refine .pickF rfl (by decide) rfl rfl rfl ?_
  refine .nil' fun c w ho hs => Cod.at (E := [(0, _), (9, _)]) (ho.sub ⟨rfl, rfl, trivial⟩) hs ?_
  refine .condKF rfl (by decide) ?_
  refine .skip' fun c w ho hs => Cod.at (E := [(0, _)]) (ho.sub ⟨rfl, trivial⟩) hs ?_
  refine .seq ?_
  refine .region ?_
  refine .skips 1 rfl ?_
  refine .mkMap (Value.int .i64) eFrame true rfl rfl fun b1 => ?_
  refine .mkMap (Value.int .i64) eI64 false rfl rfl fun b3 => ?_
  refine .build Try.zeroValue60 Try.underlying60 BI60 (.c rfl rfl rfl (.t .nil) (.c rfl rfl rfl (.s (.s (.t .nil))) (.c rfl rfl rfl (.s (.s (.s (.t .nil)))) .n))) (by exact ⟨⟨_, _, rfl, rfl, rfl⟩, ⟨⟨_, _, rfl, rfl, rfl⟩, ⟨⟨_, _, rfl, rfl, rfl⟩, trivial⟩⟩⟩) rfl rfl ?_
  refine .boxA rfl rfl rfl fun b5 => ?_
  refine .skips 2 rfl ?_
  refine .nil' fun c w ho hs => Cod.at (E := [(2, _), (3, _)]) (ho.sub ⟨rfl, rfl, trivial⟩) hs ?_
  refine .own0 eI64 3 ?_
  exact .ret (oret Try.results6 (.t rfl (.t rfl .n)) (.refl _) (.c (.s .z) (.c .z (.c (.s .z) (.c .z .n)))) ⟨(0, ({ room := 2, row := ([] : List Int), by_ := ([] : List (Int × Frame)), often := ([] : List (Int × Int)), sent := 0, taken := 0 } : Post_Box)), _, _, _, _, _, rfl, rfl, hd⟩)

theorem W_post_New_i1 {I : IH}   {Q : Int → Prop}  (hd : post_New_i1 Q) :
    Fun Try.prog 6 #[.int .i64 0] I [] (fun I_ v l => ∃ r, v = .tuple #[.pointer none, .int .i64 r] ∧ l = [] ∧ Q r) := by
  refine Fun.enter (vs := [.int .i64 0]) Try.func6 rfl Try.ntmps6 rfl (.c .n) fun w0 M => ?_
  refine .seq ?_
  refine .region ?_
  refine .skips 2 rfl ?_
  refine .nil' fun c w ho hs => Cod.at (E := [(0, _)]) (ho.sub ⟨rfl, trivial⟩) hs ?_
  refine .seq ?_
  refine .seq ?_
  refine .region ?_
  refine .skips 1 rfl ?_
  refine .lt rfl rfl rfl rfl ?_
  refine .skips 1 rfl ?_
  refine .gno rfl rfl (by decide) rfl rfl ?_
  refine .gno rfl rfl (by decide) rfl rfl ?_
  refine .pickT rfl (by decide) rfl rfl rfl ?_
  refine .nil' fun c w ho hs => Cod.at (E := [(0, _), (9, _)]) (ho.sub ⟨rfl, rfl, trivial⟩) hs ?_
  refine .condKT rfl rfl ?_
  refine .seq ?_
  refine .region ?_
  refine .skips 2 rfl ?_
  refine .nil' fun c w ho hs => Cod.at (E := [(2, _), (3, _)]) (ho.sub ⟨rfl, rfl, trivial⟩) hs ?_
  exact .ret (oret Try.results6 (.t rfl (.t rfl .n)) (.refl _) .n ⟨3, rfl, rfl, hd⟩)

theorem W_post_Box_full_i3 {I : IH} {o0 : Post_Box} {b2 : Nat} {p3 : Option Addr} {c4 : Nat} {b8 : Nat} {b10 : Nat} {Q : Bool → Prop}  (hd : post_Box_full_i3 o0 Q) :
    Fun Try.prog 22 #[.pointer (some ⟨b2, 0, none⟩)] I [pto b2 (.cells #[.int .i64 o0.room, .slice p3 o0.row.length c4, .map (some b8), .map (some b10), .int .i64 o0.sent, .int .i64 o0.taken] 60 (0, 0)), OwnSl eI64 3 p3 c4 o0.row, OwnMap (Value.int .i64) eFrame true b8 o0.by_, OwnMap (Value.int .i64) eI64 false b10 o0.often] (fun I_ v l => ∃ r, v = .bool r ∧ l = [pto b2 (.cells #[.int .i64 o0.room, .slice p3 o0.row.length c4, .map (some b8), .map (some b10), .int .i64 o0.sent, .int .i64 o0.taken] 60 (0, 0)), OwnSl eI64 3 p3 c4 o0.row, OwnMap (Value.int .i64) eFrame true b8 o0.by_, OwnMap (Value.int .i64) eI64 false b10 o0.often] ∧ Q r) := by
  refine Fun.enter (vs := [.pointer (some ⟨b2, 0, none⟩)]) Try.func22 rfl Try.ntmps22 rfl (.c .n) fun w0 M => ?_
  refine .seq ?_
  refine .region ?_
  refine .skips 1 rfl ?_
  refine .nil' fun c w ho hs => Cod.at (E := [(0, _)]) (ho.sub ⟨rfl, trivial⟩) hs ?_
  refine .seq ?_
  refine .draw [some 0, some 1, some 2, some 3, some 4, some 5, some 6, some 7, some 8, some 9] 10 MX (by kernel_rfl) (by kernel_rfl) (by kernel_rfl) (by kernel_rfl) (by kernel_rfl) (by kernel_rfl) (by kernel_rfl) (fun ex => (pto b2 (.cells #[.int .i64 o0.room, .slice p3 o0.row.length c4, .map (some b8), .map (some b10), .int .i64 o0.sent, .int .i64 o0.taken] 60 (0, 0))) :: (OwnSl eI64 3 p3 c4 o0.row) :: (OwnMap (Value.int .i64) eFrame true b8 o0.by_) :: (OwnMap (Value.int .i64) eI64 false b10 o0.often) :: ex) (fun _ _ => (.s (.s (.s (.s .z))))) rfl ?_
  refine .f [] rfl (by kernel_rfl) rfl rfl (fun ex => .move rfl rfl rfl .mk) ?_
  refine .f [0] rfl (by kernel_rfl) rfl rfl (fun ex => .nilCheckP rfl rfl rfl .mk) ?_
  refine .f [1] rfl (by kernel_rfl) rfl rfl (fun ex => .fieldAddr Try.underlying60 rfl Try.sizeOf58 rfl (o := 1) rfl rfl rfl .mk) ?_
  refine .f [2] rfl (by kernel_rfl) rfl rfl (fun ex => .load1 Try.isAgg58 rfl .z rfl rfl rfl .mk) ?_
  refine .f [3] rfl (by kernel_rfl) rfl rfl (fun ex => .len Try.underlying58 rfl rfl rfl rfl .mk) ?_
  refine .f [] rfl (by kernel_rfl) rfl rfl (fun ex => .move rfl rfl rfl .mk) ?_
  refine .f [5] rfl (by kernel_rfl) rfl rfl (fun ex => .nilCheckP rfl rfl rfl .mk) ?_
  refine .f [6] rfl (by kernel_rfl) rfl rfl (fun ex => .fieldAddr Try.underlying60 rfl Try.sizeOf3 rfl (o := 0) rfl rfl rfl .mk) ?_
  refine .f [7] rfl (by kernel_rfl) rfl rfl (fun ex => .load1 Try.isAgg3 rfl .z rfl rfl rfl .mk) ?_
  refine .f [4, 8] rfl (by kernel_rfl) rfl rfl (fun ex => .ge rfl rfl rfl rfl .mk) ?_
  refine .e 10 (by kernel_rfl) (by kernel_rfl) (by kernel_rfl) ?_
  refine .skips 1 rfl ?_
  refine .nil' fun c w ho hs => Cod.at (E := [(0, _), (2, _)]) (ho.sub ⟨rfl, rfl, trivial⟩) hs ?_
  exact .ret (oret Try.results22 (.t rfl .n) (.refl _) (.c .z (.c .z (.c .z (.c .z .n)))) ⟨(decide (o0.room ≤ (o0.row.length : Int))), rfl, rfl, hd⟩)

theorem W_post_Box_put_i4 {I : IH} {o0 : Post_Box} {a0 : Int} {b2 : Nat} {p3 : Option Addr} {c4 : Nat} {b8 : Nat} {b10 : Nat} {Q : Post_Box → Prop}  (hd : post_Box_put_i4 o0 a0 Q) :
    Fun Try.prog 24 #[.pointer (some ⟨b2, 0, none⟩), .int .i64 a0] I [pto b2 (.cells #[.int .i64 o0.room, .slice p3 o0.row.length c4, .map (some b8), .map (some b10), .int .i64 o0.sent, .int .i64 o0.taken] 60 (0, 0)), OwnSl eI64 3 p3 c4 o0.row, OwnMap (Value.int .i64) eFrame true b8 o0.by_, OwnMap (Value.int .i64) eI64 false b10 o0.often] (fun I_ v l => ∃ r p12 c13, v = .tuple #[] ∧ l = [pto b2 (.cells #[.int .i64 r.room, .slice p12 r.row.length c13, .map (some b8), .map (some b10), .int .i64 r.sent, .int .i64 r.taken] 60 (0, 0)), OwnSl eI64 3 p12 c13 r.row, OwnMap (Value.int .i64) eFrame true b8 r.by_, OwnMap (Value.int .i64) eI64 false b10 r.often] ∧ Q r) := by
  refine Fun.enter (vs := [.pointer (some ⟨b2, 0, none⟩), .int .i64 a0]) Try.func24 rfl Try.ntmps24 rfl (.c (.c .n)) fun w0 M => ?_
  refine .seq ?_
  refine .region ?_
  refine .skips 2 rfl ?_
  refine .nilCheckP rfl rfl rfl ?_
  refine .fieldAddr Try.underlying60 rfl Try.sizeOf58 rfl (o := 1) rfl rfl rfl ?_
  refine .load1 Try.isAgg58 rfl .z rfl rfl rfl ?_
  refine .skips 1 rfl ?_
  refine .buildSlice 1 Try.underlying58 Try.sizeOf3 Try.zeroValue3 rfl rfl (.c rfl rfl rfl .n) rfl rfl fun b11 => ?_
  obtain ⟨hl13, hd⟩ := hd
  refine .append (ys := [a0]) 8 (.s (.s .z)) Try.underlying58 Try.underlying58 IN3 rfl rfl rfl rfl rfl rfl rfl rfl rfl (.box .z (.one rfl) rfl) hl13 rfl rfl fun p14 c15 => ?_
  refine .nilCheckP rfl rfl rfl ?_
  refine .fieldAddr Try.underlying60 rfl Try.sizeOf58 rfl (o := 1) rfl rfl rfl ?_
  refine .store1 Try.sizeOf58 rfl rfl (.s (.s .z)) (.s (.t .nil)) rfl ?_
  refine .nil' fun c w ho hs => Cod.at (E := [(0, _), (1, _)]) (ho.sub ⟨rfl, rfl, trivial⟩) hs ?_
  refine .drop (.s .z) ?_
  refine .region ?_
  refine .skips 1 rfl ?_
  refine .nilCheckP rfl rfl rfl ?_
  refine .fieldAddr Try.underlying60 rfl Try.sizeOf57 rfl (o := 3) rfl rfl rfl ?_
  refine .load1 Try.isAgg57 rfl (.s .z) rfl rfl rfl ?_
  refine .skips 1 rfl ?_
  refine .lookM (El := eI64) (ag := false) (zv := .int .i64 0) (z := 0) (keyInt Try.underlying3) Try.underlying57 Try.zeroValue3 ⟨[.int .i64 0], rfl, .s⟩ (.s (.s (.s .z))) rfl rfl hd rfl rfl fun v20 r17 cs21 hd hr18 hv19 => ?_
  cases hr18
  cases hv19
  refine .add rfl rfl rfl rfl ?_
  refine .updM (El := eI64) (ag := false) (v := (w64 (r17 + 1))) (keyInt Try.underlying3) Try.underlying57 (.s (.s (.s .z))) rfl rfl rfl ⟨[.int .i64 (w64 (r17 + 1))], rfl, .s⟩ ?_
  exact .nil' (oretN Try.results24 .n (.refl _) (.c (.s .z) (.c .z (.c .z (.c .z .n)))) ⟨({ room := o0.room, row := (o0.row ++ ([a0])), by_ := o0.by_, often := (mput a0 (w64 (r17 + 1)) o0.often), sent := o0.sent, taken := o0.taken } : Post_Box), _, _, rfl, rfl, hd⟩)

theorem W_post_Box_Send_i2 {I : IH} {o0 : Post_Box} {a0 : Frame} {b2 : Nat} {p3 : Option Addr} {c4 : Nat} {b8 : Nat} {b10 : Nat} {p11 : Option Addr} {c12 : Nat} {p14 : Option Addr} {c15 : Nat} {p17 : Option Addr} {c18 : Nat} {Q : (Int × Post_Box) → Prop} (R13 : RepSl eItem I p11 c12 a0.Vec.Items) (R16 : RepSl eSum I p14 c15 a0.Sums) (R19 : RepSl eTriple I p17 c18 a0.Triples) (hd : post_Box_Send_i2 o0 a0 Q) :
    Fun Try.prog 7 #[.pointer (some ⟨b2, 0, none⟩), .agg #[.int .i64 a0.Kind, .int .i64 a0.From, .int .i64 a0.To, .int .i64 a0.Seq, .int .i64 a0.Round, .int .i64 a0.Vec.N, .slice p11 a0.Vec.Items.length c12, .slice p14 a0.Sums.length c15, .slice p17 a0.Triples.length c18, .int .i64 a0.N, .bool a0.Over]] I [pto b2 (.cells #[.int .i64 o0.room, .slice p3 o0.row.length c4, .map (some b8), .map (some b10), .int .i64 o0.sent, .int .i64 o0.taken] 60 (0, 0)), OwnSl eI64 3 p3 c4 o0.row, OwnMap (Value.int .i64) eFrame true b8 o0.by_, OwnMap (Value.int .i64) eI64 false b10 o0.often] (fun I_ v l => ∃ r p21 c22, v = .int .i64 r.1 ∧ l = [pto b2 (.cells #[.int .i64 r.2.room, .slice p21 r.2.row.length c22, .map (some b8), .map (some b10), .int .i64 r.2.sent, .int .i64 r.2.taken] 60 (0, 0)), OwnSl eI64 3 p21 c22 r.2.row, OwnMap (Value.int .i64) eFrame true b8 r.2.by_, OwnMap (Value.int .i64) eI64 false b10 r.2.often] ∧ Q r) := by
  refine Fun.enter (vs := [.pointer (some ⟨b2, 0, none⟩), .agg #[.int .i64 a0.Kind, .int .i64 a0.From, .int .i64 a0.To, .int .i64 a0.Seq, .int .i64 a0.Round, .int .i64 a0.Vec.N, .slice p11 a0.Vec.Items.length c12, .slice p14 a0.Sums.length c15, .slice p17 a0.Triples.length c18, .int .i64 a0.N, .bool a0.Over]]) Try.func7 rfl Try.ntmps7 rfl (.c (.c .n)) fun w0 M => ?_
  refine .seq ?_
  refine .region ?_
  refine .boxA rfl rfl rfl fun b22 => ?_
  refine .skips 1 rfl ?_
  refine .nil' fun c w ho hs => Cod.at (E := [(0, _), (3, _)]) (ho.sub ⟨rfl, rfl, trivial⟩) hs ?_
  refine .seq ?_
  refine .block ?_
  refine .seq ?_
  refine .region ?_
  refine .skips 1 rfl ?_
  refine .eqNilP Try.underlying22 rfl rfl rfl rfl ?_
  refine .skips 1 rfl ?_
  refine .nil' fun c w ho hs => Cod.at (E := [(0, _), (3, _), (5, _)]) (ho.sub ⟨rfl, rfl, rfl, trivial⟩) hs ?_
  refine .condKF rfl rfl ?_
  refine .seq ?_
  refine .region ?_
  refine .skips 1 rfl ?_
  have hw33 := W_post_Box_full_i3 (I := I) (o0 := o0) (b2 := b2) (p3 := p3) (c4 := c4) (b8 := b8) (b10 := b10) hd
  refine .callS (.f Try.call22 rfl) (.c (.s .z) (.c (.s .z) (.c (.s .z) (.c (.s .z) .n)))) hw33 rfl rfl fun v37 I34 l38 hl35 hv36 => ?_
  obtain ⟨r39, rfl, rfl, hd⟩ := hv36
  have le40 := IH.le.trans (.refl _) hl35
  replace R13 := R13.mono hl35
  replace R16 := R16.mono hl35
  replace R19 := R19.mono hl35
  refine .re (m' := [pto b2 (.cells #[.int .i64 o0.room, .slice p3 o0.row.length c4, .map (some b8), .map (some b10), .int .i64 o0.sent, .int .i64 o0.taken] 60 (0, 0)), OwnSl eI64 3 p3 c4 o0.row, OwnMap (Value.int .i64) eFrame true b8 o0.by_, OwnMap (Value.int .i64) eI64 false b10 o0.often, pto b22 (.cells #[.int .i64 a0.Kind, .int .i64 a0.From, .int .i64 a0.To, .int .i64 a0.Seq, .int .i64 a0.Round, .int .i64 a0.Vec.N, .slice p11 a0.Vec.Items.length c12, .slice p14 a0.Sums.length c15, .slice p17 a0.Triples.length c18, .int .i64 a0.N, .bool a0.Over] 34 (0, 0))]) rfl ?_
  refine .skips 1 rfl ?_
  refine .nil' fun c w ho hs => Cod.at (E := [(0, _), (3, _), (8, _)]) (ho.sub ⟨rfl, rfl, rfl, trivial⟩) hs ?_
  refine .cond rfl (fun hb41 => ?_) (fun hb41 => ?_)
  · have hd := hd.1 hb41
    refine .seq ?_
    refine .region ?_
    refine .skips 1 rfl ?_
    refine .nil' fun c w ho hs => Cod.at (E := [(0, _), (4, _)]) (ho.sub ⟨rfl, rfl, trivial⟩) hs ?_
    refine .drop (.s (.s (.s (.s .z)))) ?_
    exact .ret (oret Try.results7 (.t rfl .n) le40 (.c .z (.c .z (.c .z (.c .z .n)))) ⟨(9, o0), _, _, rfl, rfl, hd⟩)
  · have hd := hd.2 hb41
    refine .skip' fun c w ho hs => Cod.at (E := [(0, _), (3, _)]) (ho.sub ⟨rfl, rfl, trivial⟩) hs ?_
    refine .seq ?_
    refine .region ?_
    refine .loadW Try.isAgg34 Try.sizeOf34 rfl (.s (.s (.s (.s .z)))) rfl rfl rfl ?_
    have hw74 := W_post_own (I := I34) R13 R16 R19 hd
    refine .call Try.call23 rfl hw74 rfl rfl fun v63 I60 hl61 hv62 => ?_
    obtain ⟨r59, p65, c66, p68, c69, p71, c72, rfl, R67, R70, R73, hd⟩ := hv62
    have le75 := IH.le.trans le40 hl61
    replace R13 := R13.mono hl61
    replace R16 := R16.mono hl61
    replace R19 := R19.mono hl61
    refine .storeA Try.sizeOf34 rfl rfl (.s (.s (.s (.s .z)))) (.t (.t (.t (.t (.t (.t (.t (.t (.t (.t (.t .nil))))))))))) rfl rfl ?_
    refine .nil' fun c w ho hs => Cod.at (E := [(0, _), (3, _)]) (ho.sub ⟨rfl, rfl, trivial⟩) hs ?_
    refine .seq ?_
    refine .region ?_
    refine .skips 1 rfl ?_
    refine .nilCheckP rfl rfl rfl ?_
    refine .fieldAddr Try.underlying60 rfl Try.sizeOf3 rfl (o := 4) rfl rfl rfl ?_
    refine .load1 Try.isAgg3 rfl .z rfl rfl rfl ?_
    refine .fieldAddr Try.underlying34 rfl Try.sizeOf3 rfl (o := 3) rfl rfl rfl ?_
    refine .store1 Try.sizeOf3 rfl rfl (.s (.s (.s (.s .z)))) (.s (.s (.s (.t .nil)))) rfl ?_
    refine .nil' fun c w ho hs => Cod.at (E := [(0, _), (3, _)]) (ho.sub ⟨rfl, rfl, trivial⟩) hs ?_
    refine .seq ?_
    refine .draw [some 0, some 1, some 2, some 3, some 4, some 5, some 6] 7 MX (by kernel_rfl) (by kernel_rfl) (by kernel_rfl) (by kernel_rfl) (by kernel_rfl) (by kernel_rfl) (by kernel_rfl) (fun ex => (pto b2 (.cells #[.int .i64 o0.room, .slice p3 o0.row.length c4, .map (some b8), .map (some b10), .int .i64 o0.sent, .int .i64 o0.taken] 60 (0, 0))) :: (OwnSl eI64 3 p3 c4 o0.row) :: (OwnMap (Value.int .i64) eFrame true b8 o0.by_) :: (OwnMap (Value.int .i64) eI64 false b10 o0.often) :: (pto b22 (.cells #[.int .i64 r59.Kind, .int .i64 r59.From, .int .i64 r59.To, .int .i64 o0.sent, .int .i64 r59.Round, .int .i64 r59.Vec.N, .slice p65 r59.Vec.Items.length c66, .slice p68 r59.Sums.length c69, .slice p71 r59.Triples.length c72, .int .i64 r59.N, .bool r59.Over] 34 (0, 0))) :: ex) (fun _ _ => (.s (.s (.s (.s (.s .z)))))) rfl ?_
    refine .f [] rfl (by kernel_rfl) rfl rfl (fun ex => .move rfl rfl rfl .mk) ?_
    refine .f [0] rfl (by kernel_rfl) rfl rfl (fun ex => .nilCheckP rfl rfl rfl .mk) ?_
    refine .f [1] rfl (by kernel_rfl) rfl rfl (fun ex => .fieldAddr Try.underlying60 rfl Try.sizeOf56 rfl (o := 2) rfl rfl rfl .mk) ?_
    refine .f [2] rfl (by kernel_rfl) rfl rfl (fun ex => .load1 Try.isAgg56 rfl .z rfl rfl rfl .mk) ?_
    refine .f [] rfl (by kernel_rfl) rfl rfl (fun ex => .fieldAddr Try.underlying34 rfl Try.sizeOf3 rfl (o := 3) rfl rfl rfl .mk) ?_
    refine .f [4] rfl (by kernel_rfl) rfl rfl (fun ex => .load1 Try.isAgg3 rfl (.s (.s (.s (.s .z)))) rfl rfl rfl .mk) ?_
    refine .f [] rfl (by kernel_rfl) rfl rfl (fun ex => .loadW Try.isAgg34 Try.sizeOf34 rfl (.s (.s (.s (.s .z)))) rfl rfl rfl .mk) ?_
    refine .e 7 (by kernel_rfl) (by kernel_rfl) (by kernel_rfl) ?_
    refine .updM (El := eFrame) (ag := true) (v := ({ Kind := r59.Kind, From := r59.From, To := r59.To, Seq := o0.sent, Round := r59.Round, Vec := r59.Vec, Sums := r59.Sums, Triples := r59.Triples, N := r59.N, Over := r59.Over } : Frame)) (keyInt Try.underlying3) Try.underlying56 (.s (.s .z)) rfl rfl rfl ⟨[.int .i64 r59.Kind, .int .i64 r59.From, .int .i64 r59.To, .int .i64 o0.sent, .int .i64 r59.Round, .int .i64 r59.Vec.N, .slice p65 r59.Vec.Items.length c66, .slice p68 r59.Sums.length c69, .slice p71 r59.Triples.length c72, .int .i64 r59.N, .bool r59.Over], ⟨_, _, _, _, _, _, rfl, R67, R70, R73⟩, .a⟩ ?_
    refine .nil' fun c w ho hs => Cod.at (E := [(0, _), (3, _)]) (ho.sub ⟨rfl, rfl, trivial⟩) hs ?_
    refine .seq ?_
    refine .region ?_
    refine .skips 1 rfl ?_
    refine .fieldAddr Try.underlying34 rfl Try.sizeOf3 rfl (o := 3) rfl rfl rfl ?_
    refine .load1 Try.isAgg3 rfl (.s (.s (.s (.s .z)))) rfl rfl rfl ?_
    have hw94 := W_post_Box_put_i4 (I := I60) (o0 := ({ room := o0.room, row := o0.row, by_ := (mput o0.sent ({ Kind := r59.Kind, From := r59.From, To := r59.To, Seq := o0.sent, Round := r59.Round, Vec := r59.Vec, Sums := r59.Sums, Triples := r59.Triples, N := r59.N, Over := r59.Over } : Frame) o0.by_), often := o0.often, sent := o0.sent, taken := o0.taken } : Post_Box)) (a0 := o0.sent) (b2 := b2) (p3 := p3) (c4 := c4) (b8 := b8) (b10 := b10) hd
    refine .callS (.f Try.call24 rfl) (.c .z (.c .z (.c .z (.c .z .n)))) hw94 rfl rfl fun v98 I95 l99 hl96 hv97 => ?_
    obtain ⟨r100, p103, c104, rfl, rfl, hd⟩ := hv97
    have le111 := IH.le.trans le75 hl96
    replace R67 := R67.mono hl96
    replace R70 := R70.mono hl96
    replace R73 := R73.mono hl96
    refine .re (m' := [pto b2 (.cells #[.int .i64 r100.room, .slice p103 r100.row.length c104, .map (some b8), .map (some b10), .int .i64 r100.sent, .int .i64 r100.taken] 60 (0, 0)), OwnSl eI64 3 p103 c104 r100.row, OwnMap (Value.int .i64) eFrame true b8 r100.by_, OwnMap (Value.int .i64) eI64 false b10 r100.often, pto b22 (.cells #[.int .i64 r59.Kind, .int .i64 r59.From, .int .i64 r59.To, .int .i64 o0.sent, .int .i64 r59.Round, .int .i64 r59.Vec.N, .slice p65 r59.Vec.Items.length c66, .slice p68 r59.Sums.length c69, .slice p71 r59.Triples.length c72, .int .i64 r59.N, .bool r59.Over] 34 (0, 0))]) rfl ?_
    refine .nil' fun c w ho hs => Cod.at (E := [(0, _)]) (ho.sub ⟨rfl, trivial⟩) hs ?_
    refine .drop (.s (.s (.s (.s .z)))) ?_
    refine .seq ?_
    refine .region ?_
    refine .skips 1 rfl ?_
    refine .nilCheckP rfl rfl rfl ?_
    refine .fieldAddr Try.underlying60 rfl Try.sizeOf3 rfl (o := 4) rfl rfl rfl ?_
    refine .load1 Try.isAgg3 rfl .z rfl rfl rfl ?_
    refine .add rfl rfl rfl rfl ?_
    refine .nilCheckP rfl rfl rfl ?_
    refine .fieldAddr Try.underlying60 rfl Try.sizeOf3 rfl (o := 4) rfl rfl rfl ?_
    refine .store1 Try.sizeOf3 rfl rfl .z (.s (.s (.s (.s (.t .nil))))) rfl ?_
    refine .nil' fun c w ho hs => Cod.at (E := [(0, _)]) (ho.sub ⟨rfl, trivial⟩) hs ?_
    refine .seq ?_
    refine .region ?_
    refine .skips 1 rfl ?_
    refine .nil' fun c w ho hs => Cod.at (E := [(0, _), (4, _)]) (ho.sub ⟨rfl, rfl, trivial⟩) hs ?_
    exact .ret (oret Try.results7 (.t rfl .n) le111 (.c .z (.c .z (.c .z (.c .z .n)))) ⟨(0, ({ room := r100.room, row := r100.row, by_ := r100.by_, often := r100.often, sent := w64 (r100.sent + 1), taken := r100.taken } : Post_Box)), _, _, rfl, rfl, hd⟩)

theorem W_post_Box_at_i6 {I : IH} {o0 : Post_Box} {a0 : Int} {b2 : Nat} {p3 : Option Addr} {c4 : Nat} {b8 : Nat} {b10 : Nat} {Q : Int → Prop}  (hd : post_Box_at_i6 o0 a0 Q) :
    Fun Try.prog 25 #[.pointer (some ⟨b2, 0, none⟩), .int .i64 a0] I [pto b2 (.cells #[.int .i64 o0.room, .slice p3 o0.row.length c4, .map (some b8), .map (some b10), .int .i64 o0.sent, .int .i64 o0.taken] 60 (0, 0)), OwnSl eI64 3 p3 c4 o0.row, OwnMap (Value.int .i64) eFrame true b8 o0.by_, OwnMap (Value.int .i64) eI64 false b10 o0.often] (fun I_ v l => ∃ r, v = .int .i64 r ∧ l = [pto b2 (.cells #[.int .i64 o0.room, .slice p3 o0.row.length c4, .map (some b8), .map (some b10), .int .i64 o0.sent, .int .i64 o0.taken] 60 (0, 0)), OwnSl eI64 3 p3 c4 o0.row, OwnMap (Value.int .i64) eFrame true b8 o0.by_, OwnMap (Value.int .i64) eI64 false b10 o0.often] ∧ Q r) := by
  refine Fun.enter (vs := [.pointer (some ⟨b2, 0, none⟩), .int .i64 a0]) Try.func25 rfl Try.ntmps25 rfl (.c (.c .n)) fun w0 M => ?_
  refine .seq ?_
  refine .region ?_
  refine .skips 1 rfl ?_
  refine .nil' fun c w ho hs => Cod.at (E := [(0, _), (1, _)]) (ho.sub ⟨rfl, rfl, trivial⟩) hs ?_
  refine .seq ?_
  refine .block ?_
  refine .seq ?_
  refine .region ?_
  refine .skips 1 rfl ?_
  refine .eqNilP Try.underlying22 rfl rfl rfl rfl ?_
  refine .skips 1 rfl ?_
  refine .nil' fun c w ho hs => Cod.at (E := [(0, _), (1, _), (5, _)]) (ho.sub ⟨rfl, rfl, rfl, trivial⟩) hs ?_
  refine .condKF rfl rfl ?_
  refine .seq ?_
  refine .region ?_
  refine .skips 1 rfl ?_
  refine .lt rfl rfl rfl rfl ?_
  refine .skips 1 rfl ?_
  refine split (decide (a0 < 0)) (fun hb11 => ?_) (fun hb11 => ?_)
  · have hd := hd.1 hb11
    rw [hb11]
    refine .skips 9 rfl ?_
    refine .nil' fun c w ho hs => Cod.at (E := [(0, _), (8, _)]) (ho.sub ⟨rfl, rfl, trivial⟩) hs ?_
    refine .condKT rfl rfl ?_
    refine .seq ?_
    refine .region ?_
    refine .skips 1 rfl ?_
    refine .nil' fun c w ho hs => Cod.at (E := [(0, _), (4, _)]) (ho.sub ⟨rfl, rfl, trivial⟩) hs ?_
    exact .ret (oret Try.results25 (.t rfl .n) (.refl _) (.c .z (.c .z (.c .z (.c .z .n)))) ⟨3, rfl, rfl, hd⟩)
  · have hd := hd.2 hb11
    rw [hb11]
    refine .gyes rfl rfl rfl (.move rfl rfl rfl ?_)
    refine .gyes rfl rfl rfl (.move rfl rfl rfl ?_)
    refine .gyes rfl rfl rfl (.nilCheckP rfl rfl rfl ?_)
    refine .gyes rfl rfl rfl (.fieldAddr Try.underlying60 rfl Try.sizeOf58 rfl (o := 1) rfl rfl rfl ?_)
    refine .gyes rfl rfl rfl (.load1 Try.isAgg58 rfl .z rfl rfl rfl ?_)
    refine .gyes rfl rfl rfl (.len Try.underlying58 rfl rfl rfl rfl ?_)
    refine .gyes rfl rfl rfl (.ge rfl rfl rfl rfl ?_)
    refine .skips 2 rfl ?_
    refine .nil' fun c w ho hs => Cod.at (E := [(0, _), (8, _)]) (ho.sub ⟨rfl, rfl, trivial⟩) hs ?_
    refine .cond rfl (fun hb12 => ?_) (fun hb12 => ?_)
    · have hd := hd.1 hb12
      refine .seq ?_
      refine .region ?_
      refine .skips 1 rfl ?_
      refine .nil' fun c w ho hs => Cod.at (E := [(0, _), (4, _)]) (ho.sub ⟨rfl, rfl, trivial⟩) hs ?_
      exact .ret (oret Try.results25 (.t rfl .n) (.refl _) (.c .z (.c .z (.c .z (.c .z .n)))) ⟨3, rfl, rfl, hd⟩)
    · have hd := hd.2 hb12
      refine .skip' fun c w ho hs => Cod.at (E := [(0, _)]) (ho.sub ⟨rfl, trivial⟩) hs ?_
      refine .seq ?_
      refine .region ?_
      refine .skips 1 rfl ?_
      refine .nil' fun c w ho hs => Cod.at (E := [(0, _), (4, _)]) (ho.sub ⟨rfl, rfl, trivial⟩) hs ?_
      exact .ret (oret Try.results25 (.t rfl .n) (.refl _) (.c .z (.c .z (.c .z (.c .z .n)))) ⟨0, rfl, rfl, hd⟩)

theorem W_slices_Delete_int_int_i8 {I : IH} {o0 : List Int} {a0 : Int} {a1 : Int} {p2 : Option Addr} {c3 : Nat} {Q : (List Int) → Prop}  (hd : slices_Delete_int_int_i8 o0 a0 a1 Q) :
    Fun Try.prog 30 #[.slice p2 o0.length c3, .int .i64 a0, .int .i64 a1] I [OwnSl eI64 3 p2 c3 o0] (fun I_ v l => ∃ r, v = .slice p2 r.length c3 ∧ l = [OwnSl eI64 3 p2 c3 r] ∧ Q r) := by
  refine Fun.enter (vs := [.slice p2 o0.length c3, .int .i64 a0, .int .i64 a1]) Try.func30 rfl Try.ntmps30 rfl (.c (.c (.c .n))) fun w0 M => ?_
  refine .ownCap .z fun hcap4 => ?_
  refine .seq ?_
  refine .region ?_
  refine .skips 1 rfl ?_
  refine .nil' fun c w ho hs => Cod.at (E := [(0, _), (1, _), (2, _)]) (ho.sub ⟨rfl, rfl, rfl, trivial⟩) hs ?_
  refine .seq ?_
  refine .region ?_
  refine .skips 4 rfl ?_
  refine .len Try.underlying58 rfl rfl rfl rfl ?_
  obtain ⟨h9, h10, h11, hd⟩ := hd
  refine .sliceOm Try.underlying58 Try.sizeOf3 rfl rfl rfl rfl h9 h10 (by omega) (by omega) rfl rfl fun v12 => ?_
  refine .nil' fun c w ho hs => Cod.at (E := [(0, _), (1, _), (2, _)]) (ho.sub ⟨rfl, rfl, rfl, trivial⟩) hs ?_
  refine .seq ?_
  refine .seq ?_
  refine .region ?_
  refine .skips 2 rfl ?_
  refine .eq rfl rfl rfl rfl ?_
  refine .nil' fun c w ho hs => Cod.at (E := [(0, _), (1, _), (2, _), (16, _)]) (ho.sub ⟨rfl, rfl, rfl, rfl, trivial⟩) hs ?_
  refine .cond rfl (fun hb14 => ?_) (fun hb14 => ?_)
  · have hd := hd.1 hb14
    refine .seq ?_
    refine .region ?_
    refine .skips 2 rfl ?_
    refine .nil' fun c w ho hs => Cod.at (E := [(0, _), (6, _)]) (ho.sub ⟨rfl, rfl, trivial⟩) hs ?_
    exact .ret (oret Try.results30 (.t rfl .n) (.refl _) (.c .z .n) ⟨o0, rfl, rfl, hd⟩)
  · have hd := hd.2 hb14
    refine .skip' fun c w ho hs => Cod.at (E := [(0, _), (1, _), (2, _)]) (ho.sub ⟨rfl, rfl, rfl, trivial⟩) hs ?_
    refine .seq ?_
    refine .region ?_
    refine .skips 1 rfl ?_
    refine .len Try.underlying58 rfl rfl rfl rfl ?_
    refine .skips 1 rfl ?_
    refine .nil' fun c w ho hs => Cod.at (E := [(0, _), (1, _), (2, _), (7, _)]) (ho.sub ⟨rfl, rfl, rfl, rfl, trivial⟩) hs ?_
    refine .seq ?_
    refine .draw [some 0, some 1, some 2, some 3, some 4, some 5, some 6] 7 MX (by kernel_rfl) (by kernel_rfl) (by kernel_rfl) (by kernel_rfl) (by kernel_rfl) (by kernel_rfl) (by kernel_rfl) (fun ex => (OwnSl eI64 3 p2 c3 o0) :: ex) (fun _ _ => (.s .z)) rfl ?_
    refine .f [] rfl (by kernel_rfl) rfl rfl (fun ex => .move rfl rfl rfl .mk) ?_
    refine .f [] rfl (by kernel_rfl) rfl rfl (fun ex => .move rfl rfl rfl .mk) ?_
    obtain ⟨h23, h24, h25, hd⟩ := hd
    refine .f [0, 1] rfl (by kernel_rfl) rfl rfl (fun ex => .sliceO (L := 0) (H := a0.toNat) Try.underlying58 Try.sizeOf3 rfl rfl .z rfl rfl (.inl ⟨rfl, rfl⟩) (.inr ⟨_, _, rfl, (by omega), rfl⟩) (by omega) (by omega) rfl rfl .mk) ?_
    refine .f [] rfl (by kernel_rfl) rfl rfl (fun ex => .move rfl rfl rfl .mk) ?_
    refine .f [] rfl (by kernel_rfl) rfl rfl (fun ex => .move rfl rfl rfl .mk) ?_
    obtain ⟨h26, h27, h28, hd⟩ := hd
    refine .f [3, 4] rfl (by kernel_rfl) rfl rfl (fun ex => .sliceO (L := a1.toNat) (H := o0.length) Try.underlying58 Try.sizeOf3 rfl rfl .z rfl rfl (.inr ⟨_, _, rfl, h26, rfl⟩) (.inl ⟨rfl, rfl⟩) (by omega) (by omega) rfl rfl .mk) ?_
    refine .w [] [[], [5], [5], [], [2], [2]] [2, 5] rfl (by kernel_rfl) (by kernel_rfl) (by kernel_rfl) ((dropE_kept rfl rfl)) (.inr (dropE_kept rfl rfl)) fun ex => ?_
    have h29 : a0.toNat ≤ a1.toNat := by omega
    have h30 : a1.toNat ≤ o0.length := by omega
    refine .appendDel (L := a0.toNat) (H := a1.toNat) 8 .z Try.underlying58 IN3 rfl rfl rfl rfl rfl rfl rfl (view_zero _ _ _) (Nat.sub_zero _) (Nat.sub_zero _) rfl h29 h30 rfl rfl ?_
    refine .some (fun ex => (OwnSl eI64 3 p2 c3 (o0.take a0.toNat ++ o0.drop a1.toNat)) :: ex) rfl (fun _ _ => (.s .z)) rfl trivial ?_
    refine .e 7 (by kernel_rfl) (by kernel_rfl) (by kernel_rfl) ?_
    refine .sub (E' := [(1, _), (2, _), (7, _), (20, _), (21, _), (22, _), (23, _), (24, _), (25, _), (26, _)]) ⟨rfl, rfl, rfl, rfl, rfl, rfl, rfl, rfl, rfl, rfl, trivial⟩ ?_
    refine .skips 1 rfl ?_
    refine .nil' fun c w ho hs => Cod.at (E := [(7, _), (0, _)]) (ho.sub ⟨rfl, rfl, trivial⟩) hs ?_
    refine .seq ?_
    refine .region ?_
    refine .skips 2 rfl ?_
    refine .len Try.underlying58 rfl rfl rfl rfl ?_
    refine .skips 1 rfl ?_
    have h34 : (o0.take a0.toNat ++ o0.drop a1.toNat).length ≤ (o0.length : Int).toNat := by simp only [List.length_append, List.length_take, List.length_drop]; omega
    refine .sliceTail (L := (o0.take a0.toNat ++ o0.drop a1.toNat).length) (N := (o0.length : Int).toNat) Try.underlying58 Try.sizeOf3 rfl rfl rfl (by omega) rfl (by omega) rfl h34 (by omega) rfl rfl ?_
    refine .clearTail .z Try.underlying58 IN3 rfl rfl rfl rfl rfl rfl rfl hcap4 ?_
    refine .nil' fun c w ho hs => Cod.at (E := [(0, _)]) (ho.sub ⟨rfl, trivial⟩) hs ?_
    refine .seq ?_
    refine .region ?_
    refine .skips 2 rfl ?_
    refine .nil' fun c w ho hs => Cod.at (E := [(0, _), (6, _)]) (ho.sub ⟨rfl, rfl, trivial⟩) hs ?_
    exact .ret (oret Try.results30 (.t rfl .n) (.refl _) (.c .z .n) ⟨(o0.take a0.toNat ++ o0.drop a1.toNat), rfl, rfl, hd⟩)

theorem W_post_Box_out_i7 {I : IH} {o0 : Post_Box} {a0 : Int} {b2 : Nat} {p3 : Option Addr} {c4 : Nat} {b8 : Nat} {b10 : Nat} {Q : (Frame × Post_Box) → Prop}  (hd : post_Box_out_i7 o0 a0 Q) :
    Fun Try.prog 26 #[.pointer (some ⟨b2, 0, none⟩), .int .i64 a0] I [pto b2 (.cells #[.int .i64 o0.room, .slice p3 o0.row.length c4, .map (some b8), .map (some b10), .int .i64 o0.sent, .int .i64 o0.taken] 60 (0, 0)), OwnSl eI64 3 p3 c4 o0.row, OwnMap (Value.int .i64) eFrame true b8 o0.by_, OwnMap (Value.int .i64) eI64 false b10 o0.often] (fun I_ v l => ∃ r p20 c21 p23 c24 p26 c27 p12 c13, v = .agg #[.int .i64 r.1.Kind, .int .i64 r.1.From, .int .i64 r.1.To, .int .i64 r.1.Seq, .int .i64 r.1.Round, .int .i64 r.1.Vec.N, .slice p20 r.1.Vec.Items.length c21, .slice p23 r.1.Sums.length c24, .slice p26 r.1.Triples.length c27, .int .i64 r.1.N, .bool r.1.Over] ∧ RepSl eItem I_ p20 c21 r.1.Vec.Items ∧ RepSl eSum I_ p23 c24 r.1.Sums ∧ RepSl eTriple I_ p26 c27 r.1.Triples ∧ l = [pto b2 (.cells #[.int .i64 r.2.room, .slice p12 r.2.row.length c13, .map (some b8), .map (some b10), .int .i64 r.2.sent, .int .i64 r.2.taken] 60 (0, 0)), OwnSl eI64 3 p12 c13 r.2.row, OwnMap (Value.int .i64) eFrame true b8 r.2.by_, OwnMap (Value.int .i64) eI64 false b10 r.2.often] ∧ Q r) := by
  refine Fun.enter (vs := [.pointer (some ⟨b2, 0, none⟩), .int .i64 a0]) Try.func26 rfl Try.ntmps26 rfl (.c (.c .n)) fun w0 M => ?_
  refine .seq ?_
  refine .region ?_
  refine .allocA Try.zeroValue34 rfl rfl fun b13 => ?_
  refine .nil' fun c w ho hs => Cod.at (E := [(0, _), (1, _), (4, _)]) (ho.sub ⟨rfl, rfl, rfl, trivial⟩) hs ?_
  refine .seq ?_
  refine .region ?_
  refine .skips 1 rfl ?_
  refine .nilCheckP rfl rfl rfl ?_
  refine .fieldAddr Try.underlying60 rfl Try.sizeOf58 rfl (o := 1) rfl rfl rfl ?_
  refine .load1 Try.isAgg58 rfl (.s .z) rfl rfl rfl ?_
  refine .skips 1 rfl ?_
  obtain ⟨h20, x21, hx22, hd⟩ := hd
  refine .ownNe (.s (.s .z)) (idx_ne hx22) fun b23 e24 => ?_
  cases e24
  refine .ixa0 Try.underlying58 Try.sizeOf3 rfl rfl h20 (idx_lt hx22 h20) rfl rfl ?_
  refine .lo1 (j := 0) Try.isAgg3 (.s (.s .z)) hx22 rfl rfl rfl rfl rfl ?_
  refine .skips 1 rfl ?_
  refine .nil' fun c w ho hs => Cod.at (E := [(0, _), (1, _), (4, _), (5, _)]) (ho.sub ⟨rfl, rfl, rfl, rfl, trivial⟩) hs ?_
  refine .seq ?_
  refine .region ?_
  refine .skips 1 rfl ?_
  refine .nilCheckP rfl rfl rfl ?_
  refine .fieldAddr Try.underlying60 rfl Try.sizeOf56 rfl (o := 2) rfl rfl rfl ?_
  refine .load1 Try.isAgg56 rfl (.s .z) rfl rfl rfl ?_
  refine .skips 1 rfl ?_
  refine .lookM (El := eFrame) (ag := true) (zv := .agg #[.int .i64 0, .int .i64 0, .int .i64 0, .int .i64 0, .int .i64 0, .int .i64 0, .slice none 0 0, .slice none 0 0, .slice none 0 0, .int .i64 0, .bool false]) (z := ({ Kind := 0, From := 0, To := 0, Seq := 0, Round := 0, Vec := ({ N := 0, Items := ([] : List Item) } : Vec), Sums := ([] : List Sum), Triples := ([] : List Triple), N := 0, Over := false } : Frame)) (keyInt Try.underlying3) Try.underlying56 Try.zeroValue34 ⟨[.int .i64 0, .int .i64 0, .int .i64 0, .int .i64 0, .int .i64 0, .int .i64 0, .slice none 0 0, .slice none 0 0, .slice none 0 0, .int .i64 0, .bool false], ⟨_, _, _, _, _, _, rfl, .nil _ _ _, .nil _ _ _, .nil _ _ _⟩, .a⟩ (.s (.s (.s .z))) rfl rfl hd rfl rfl fun v45 r42 cs46 hd hr43 hv44 => ?_
  obtain ⟨p48, c49, p51, c52, p54, c55, rfl, R50, R53, R56⟩ := hr43
  cases hv44
  refine .allocA Try.zeroValue34 rfl rfl fun b57 => ?_
  refine .storeA Try.sizeOf34 rfl rfl .z (.t (.t (.t (.t (.t (.t (.t (.t (.t (.t (.t .nil))))))))))) rfl rfl ?_
  refine .nil' fun c w ho hs => Cod.at (E := [(0, _), (1, _), (4, _), (5, _), (6, _)]) (ho.sub ⟨rfl, rfl, rfl, rfl, rfl, trivial⟩) hs ?_
  refine .seq ?_
  refine .region ?_
  refine .skips 2 rfl ?_
  refine .nilCheckP rfl rfl rfl ?_
  refine .fieldAddr Try.underlying60 rfl Try.sizeOf58 rfl (o := 1) rfl rfl rfl ?_
  refine .load1 Try.isAgg58 rfl (.s (.s .z)) rfl rfl rfl ?_
  refine .skips 2 rfl ?_
  refine .add rfl rfl rfl rfl ?_
  have hw70 := W_slices_Delete_int_int_i8 (I := I) (o0 := o0.row) (a0 := a0) (a1 := (w64 (a0 + 1))) (p2 := some ⟨b23, 0, none⟩) (c3 := c4) hd
  refine .callS (.f Try.call30 rfl) (.c (.s (.s (.s .z))) .n) hw70 rfl rfl fun v74 I71 l75 hl72 hv73 => ?_
  obtain ⟨r76, rfl, rfl, hd⟩ := hv73
  have le80 := IH.le.trans (.refl _) hl72
  replace R50 := R50.mono hl72
  replace R53 := R53.mono hl72
  replace R56 := R56.mono hl72
  refine .re (m' := [OwnSl eI64 3 (some ⟨b23, 0, none⟩) c4 r76, pto b57 (.cells #[.int .i64 r42.Kind, .int .i64 r42.From, .int .i64 r42.To, .int .i64 r42.Seq, .int .i64 r42.Round, .int .i64 r42.Vec.N, .slice p48 r42.Vec.Items.length c49, .slice p51 r42.Sums.length c52, .slice p54 r42.Triples.length c55, .int .i64 r42.N, .bool r42.Over] 34 (0, 0)), pto b13 (.cells #[.int .i64 0, .int .i64 0, .int .i64 0, .int .i64 0, .int .i64 0, .int .i64 0, .slice none 0 0, .slice none 0 0, .slice none 0 0, .int .i64 0, .bool false] 34 (0, 0)), pto b2 (.cells #[.int .i64 o0.room, .slice (some ⟨b23, 0, none⟩) o0.row.length c4, .map (some b8), .map (some b10), .int .i64 o0.sent, .int .i64 o0.taken] 60 (0, 0)), OwnMap (Value.int .i64) eFrame true b8 o0.by_, OwnMap (Value.int .i64) eI64 false b10 o0.often]) rfl ?_
  refine .nilCheckP rfl rfl rfl ?_
  refine .fieldAddr Try.underlying60 rfl Try.sizeOf58 rfl (o := 1) rfl rfl rfl ?_
  refine .store1 Try.sizeOf58 rfl rfl (.s (.s (.s .z))) (.s (.t .nil)) rfl ?_
  refine .nil' fun c w ho hs => Cod.at (E := [(0, _), (4, _), (5, _), (6, _)]) (ho.sub ⟨rfl, rfl, rfl, rfl, trivial⟩) hs ?_
  refine .seq ?_
  refine .seq ?_
  refine .region ?_
  refine .skips 1 rfl ?_
  refine .nilCheckP rfl rfl rfl ?_
  refine .fieldAddr Try.underlying60 rfl Try.sizeOf57 rfl (o := 3) rfl rfl rfl ?_
  refine .load1 Try.isAgg57 rfl (.s (.s (.s .z))) rfl rfl rfl ?_
  refine .skips 1 rfl ?_
  refine .lookM (El := eI64) (ag := false) (zv := .int .i64 0) (z := 0) (keyInt Try.underlying3) Try.underlying57 Try.zeroValue3 ⟨[.int .i64 0], rfl, .s⟩ (.s (.s (.s (.s (.s .z))))) rfl rfl hd rfl rfl fun v90 r87 cs91 hd hr88 hv89 => ?_
  cases hr88
  cases hv89
  refine .sub' rfl rfl rfl rfl ?_
  refine .updM (El := eI64) (ag := false) (v := (w64 (r87 - 1))) (keyInt Try.underlying3) Try.underlying57 (.s (.s (.s (.s (.s .z))))) rfl rfl rfl ⟨[.int .i64 (w64 (r87 - 1))], rfl, .s⟩ ?_
  refine .nil' fun c w ho hs => Cod.at (E := [(0, _), (4, _), (5, _), (6, _)]) (ho.sub ⟨rfl, rfl, rfl, rfl, trivial⟩) hs ?_
  refine .seq ?_
  refine .region ?_
  refine .skips 1 rfl ?_
  refine .nilCheckP rfl rfl rfl ?_
  refine .fieldAddr Try.underlying60 rfl Try.sizeOf57 rfl (o := 3) rfl rfl rfl ?_
  refine .load1 Try.isAgg57 rfl (.s (.s (.s .z))) rfl rfl rfl ?_
  refine .skips 1 rfl ?_
  refine .lookM (El := eI64) (ag := false) (zv := .int .i64 0) (z := 0) (keyInt Try.underlying3) Try.underlying57 Try.zeroValue3 ⟨[.int .i64 0], rfl, .s⟩ (.s (.s (.s (.s (.s .z))))) rfl rfl hd rfl rfl fun v102 r99 cs103 hd hr100 hv101 => ?_
  cases hr100
  cases hv101
  refine .eq rfl rfl rfl rfl ?_
  refine .nil' fun c w ho hs => Cod.at (E := [(0, _), (4, _), (5, _), (6, _), (44, _)]) (ho.sub ⟨rfl, rfl, rfl, rfl, rfl, trivial⟩) hs ?_
  refine .cond rfl (fun hb105 => ?_) (fun hb105 => ?_)
  · have hd := hd.1 hb105
    refine .seq ?_
    refine .region ?_
    refine .skips 1 rfl ?_
    refine .nilCheckP rfl rfl rfl ?_
    refine .fieldAddr Try.underlying60 rfl Try.sizeOf57 rfl (o := 3) rfl rfl rfl ?_
    refine .load1 Try.isAgg57 rfl (.s (.s (.s .z))) rfl rfl rfl ?_
    refine .skips 1 rfl ?_
    refine .delM (keyInt Try.underlying3) Try.underlying57 rfl (.s (.s (.s (.s (.s .z))))) rfl rfl ?_
    refine .nil' fun c w ho hs => Cod.at (E := [(0, _), (4, _), (5, _), (6, _)]) (ho.sub ⟨rfl, rfl, rfl, rfl, trivial⟩) hs ?_
    refine .region ?_
    refine .skips 1 rfl ?_
    refine .nilCheckP rfl rfl rfl ?_
    refine .fieldAddr Try.underlying60 rfl Try.sizeOf56 rfl (o := 2) rfl rfl rfl ?_
    refine .load1 Try.isAgg56 rfl (.s (.s (.s .z))) rfl rfl rfl ?_
    refine .skips 1 rfl ?_
    refine .delM (keyInt Try.underlying3) Try.underlying56 rfl (.s (.s (.s (.s .z)))) rfl rfl ?_
    refine .nil' fun c w ho hs => Cod.at (E := [(0, _), (4, _), (6, _)]) (ho.sub ⟨rfl, rfl, rfl, trivial⟩) hs ?_
    refine .seq ?_
    refine .region ?_
    refine .loadW Try.isAgg34 Try.sizeOf34 rfl (.s .z) rfl rfl rfl ?_
    refine .storeA Try.sizeOf34 rfl rfl (.s (.s .z)) (.t (.t (.t (.t (.t (.t (.t (.t (.t (.t (.t .nil))))))))))) rfl rfl ?_
    refine .nil' fun c w ho hs => Cod.at (E := [(0, _), (4, _)]) (ho.sub ⟨rfl, rfl, trivial⟩) hs ?_
    refine .drop (.s .z) ?_
    exact .ret (oret Try.results26 (.w Try.isAgg34 Try.sizeOf34 rfl (.s .z) rfl .n) le80 (.c (.s (.s .z)) (.c .z (.c (.s .z) (.c (.s .z) .n)))) ⟨(r42, ({ room := o0.room, row := r76, by_ := (mdel x21 o0.by_), often := (mdel x21 (mput x21 (w64 (r87 - 1)) o0.often)), sent := o0.sent, taken := o0.taken } : Post_Box)), _, _, _, _, _, _, _, _, rfl, R50, R53, R56, rfl, hd⟩)
  · have hd := hd.2 hb105
    refine .skip' fun c w ho hs => Cod.at (E := [(0, _), (4, _), (6, _)]) (ho.sub ⟨rfl, rfl, rfl, trivial⟩) hs ?_
    refine .seq ?_
    refine .region ?_
    refine .loadW Try.isAgg34 Try.sizeOf34 rfl (.s .z) rfl rfl rfl ?_
    refine .storeA Try.sizeOf34 rfl rfl (.s (.s .z)) (.t (.t (.t (.t (.t (.t (.t (.t (.t (.t (.t .nil))))))))))) rfl rfl ?_
    refine .nil' fun c w ho hs => Cod.at (E := [(0, _), (4, _)]) (ho.sub ⟨rfl, rfl, trivial⟩) hs ?_
    refine .drop (.s .z) ?_
    exact .ret (oret Try.results26 (.w Try.isAgg34 Try.sizeOf34 rfl (.s .z) rfl .n) le80 (.c (.s (.s .z)) (.c .z (.c (.s .z) (.c (.s .z) .n)))) ⟨(r42, ({ room := o0.room, row := r76, by_ := o0.by_, often := (mput x21 (w64 (r87 - 1)) o0.often), sent := o0.sent, taken := o0.taken } : Post_Box)), _, _, _, _, _, _, _, _, rfl, R50, R53, R56, rfl, hd⟩)

theorem W_post_Box_Take_i5 {I : IH} {o0 : Post_Box} {a0 : Int} {b2 : Nat} {p3 : Option Addr} {c4 : Nat} {b8 : Nat} {b10 : Nat} {Q : (Frame × Bool × Int × Post_Box) → Prop}  (hd : post_Box_Take_i5 o0 a0 Q) :
    Fun Try.prog 9 #[.pointer (some ⟨b2, 0, none⟩), .int .i64 a0] I [pto b2 (.cells #[.int .i64 o0.room, .slice p3 o0.row.length c4, .map (some b8), .map (some b10), .int .i64 o0.sent, .int .i64 o0.taken] 60 (0, 0)), OwnSl eI64 3 p3 c4 o0.row, OwnMap (Value.int .i64) eFrame true b8 o0.by_, OwnMap (Value.int .i64) eI64 false b10 o0.often] (fun I_ v l => ∃ r p20 c21 p23 c24 p26 c27 p12 c13, v = .tuple #[.agg #[.int .i64 r.1.Kind, .int .i64 r.1.From, .int .i64 r.1.To, .int .i64 r.1.Seq, .int .i64 r.1.Round, .int .i64 r.1.Vec.N, .slice p20 r.1.Vec.Items.length c21, .slice p23 r.1.Sums.length c24, .slice p26 r.1.Triples.length c27, .int .i64 r.1.N, .bool r.1.Over], .bool r.2.1, .int .i64 r.2.2.1] ∧ RepSl eItem I_ p20 c21 r.1.Vec.Items ∧ RepSl eSum I_ p23 c24 r.1.Sums ∧ RepSl eTriple I_ p26 c27 r.1.Triples ∧ l = [pto b2 (.cells #[.int .i64 r.2.2.2.room, .slice p12 r.2.2.2.row.length c13, .map (some b8), .map (some b10), .int .i64 r.2.2.2.sent, .int .i64 r.2.2.2.taken] 60 (0, 0)), OwnSl eI64 3 p12 c13 r.2.2.2.row, OwnMap (Value.int .i64) eFrame true b8 r.2.2.2.by_, OwnMap (Value.int .i64) eI64 false b10 r.2.2.2.often] ∧ Q r) := by
  refine Fun.enter (vs := [.pointer (some ⟨b2, 0, none⟩), .int .i64 a0]) Try.func9 rfl Try.ntmps9 rfl (.c (.c .n)) fun w0 M => ?_
  refine .seq ?_
  refine .region ?_
  refine .allocA Try.zeroValue34 rfl rfl fun b13 => ?_
  refine .skips 2 rfl ?_
  refine .nil' fun c w ho hs => Cod.at (E := [(0, _), (1, _), (4, _)]) (ho.sub ⟨rfl, rfl, rfl, trivial⟩) hs ?_
  refine .seq ?_
  refine .seq ?_
  refine .region ?_
  refine .skips 2 rfl ?_
  have hw47 := W_post_Box_at_i6 (I := I) (o0 := o0) (a0 := a0) (b2 := b2) (p3 := p3) (c4 := c4) (b8 := b8) (b10 := b10) hd
  refine .callS (.f Try.call25 rfl) (.c (.s .z) (.c (.s .z) (.c (.s .z) (.c (.s .z) .n)))) hw47 rfl rfl fun v51 I48 l52 hl49 hv50 => ?_
  obtain ⟨r53, rfl, rfl, hd⟩ := hv50
  have le54 := IH.le.trans (.refl _) hl49
  refine .re (m' := [pto b2 (.cells #[.int .i64 o0.room, .slice p3 o0.row.length c4, .map (some b8), .map (some b10), .int .i64 o0.sent, .int .i64 o0.taken] 60 (0, 0)), OwnSl eI64 3 p3 c4 o0.row, OwnMap (Value.int .i64) eFrame true b8 o0.by_, OwnMap (Value.int .i64) eI64 false b10 o0.often, pto b13 (.cells #[.int .i64 0, .int .i64 0, .int .i64 0, .int .i64 0, .int .i64 0, .int .i64 0, .slice none 0 0, .slice none 0 0, .slice none 0 0, .int .i64 0, .bool false] 34 (0, 0))]) rfl ?_
  refine .skips 1 rfl ?_
  refine .nil' fun c w ho hs => Cod.at (E := [(0, _), (1, _), (4, _), (7, _)]) (ho.sub ⟨rfl, rfl, rfl, rfl, trivial⟩) hs ?_
  refine .seq ?_
  refine .ownF (.s .z) fun hne55 => ?_
  refine .draw [some 0, some 1, some 2, some 3, some 4, some 5, some 6, some 7, some 8, some 9, some 10, some 11, some 12, some 13, some 14, some 15] 16 MX (by kernel_rfl) (by kernel_rfl) (by kernel_rfl) (by kernel_rfl) (by kernel_rfl) (by kernel_rfl) (by kernel_rfl) (fun ex => (pto b2 (.cells #[.int .i64 o0.room, .slice p3 o0.row.length c4, .map (some b8), .map (some b10), .int .i64 o0.sent, .int .i64 o0.taken] 60 (0, 0))) :: (OwnSl eI64 3 p3 c4 o0.row) :: (OwnMap (Value.int .i64) eFrame true b8 o0.by_) :: (OwnMap (Value.int .i64) eI64 false b10 o0.often) :: (pto b13 (.cells #[.int .i64 0, .int .i64 0, .int .i64 0, .int .i64 0, .int .i64 0, .int .i64 0, .slice none 0 0, .slice none 0 0, .slice none 0 0, .int .i64 0, .bool false] 34 (0, 0))) :: ex) (fun _ _ => (.s (.s (.s (.s (.s .z)))))) rfl ?_
  refine .f [] rfl (by kernel_rfl) rfl rfl (fun ex => .move rfl rfl rfl .mk) ?_
  refine .f [0] rfl (by kernel_rfl) rfl rfl (fun ex => .ne rfl rfl rfl rfl .mk) ?_
  refine .f [1] rfl (by kernel_rfl) rfl rfl (fun ex => .move rfl rfl rfl .mk) ?_
  refine split (r53 != 0) (fun hb56 => ?_) (fun hb56 => ?_)
  · have hd := hd.1 hb56
    refine .f [2] rfl (by kernel_rfl) rfl rfl (fun ex => .gno rfl rfl hb56 rfl rfl .mk) ?_
    refine .f [3, 2] rfl (by kernel_rfl) rfl rfl (fun ex => .gno rfl rfl hb56 rfl rfl .mk) ?_
    refine .f [4, 2] rfl (by kernel_rfl) rfl rfl (fun ex => .gno rfl rfl hb56 rfl rfl .mk) ?_
    refine .f [5, 2] rfl (by kernel_rfl) rfl rfl (fun ex => .gno rfl rfl hb56 rfl rfl .mk) ?_
    refine .f [2] rfl (by kernel_rfl) rfl rfl (fun ex => .gno rfl rfl hb56 rfl rfl .mk) ?_
    refine .f [6, 7, 2] rfl (by kernel_rfl) rfl rfl (fun ex => .gno rfl rfl hb56 rfl rfl .mk) ?_
    refine .f [8, 2] rfl (by kernel_rfl) rfl rfl (fun ex => .gno rfl rfl hb56 rfl rfl .mk) ?_
    refine .f [2] rfl (by kernel_rfl) rfl rfl (fun ex => .gno rfl rfl hb56 rfl rfl .mk) ?_
    refine .f [10, 2] rfl (by kernel_rfl) rfl rfl (fun ex => .gno rfl rfl hb56 rfl rfl .mk) ?_
    refine .f [11, 2] rfl (by kernel_rfl) rfl rfl (fun ex => .gno rfl rfl hb56 rfl rfl .mk) ?_
    refine .f [12, 2] rfl (by kernel_rfl) rfl rfl (fun ex => .gno rfl rfl hb56 rfl rfl .mk) ?_
    refine .f [9, 13, 2] rfl (by kernel_rfl) rfl rfl (fun ex => .gno rfl rfl hb56 rfl rfl .mk) ?_
    refine .f [2, 14] rfl (by kernel_rfl) rfl rfl (fun ex => .pickT rfl hb56 rfl rfl rfl .mk) ?_
    refine .e 16 (by kernel_rfl) (by kernel_rfl) (by kernel_rfl) ?_
    refine .nil' fun c w ho hs => Cod.at (E := [(0, _), (1, _), (4, _), (7, _), (27, _)]) (ho.sub ⟨rfl, rfl, rfl, rfl, rfl, trivial⟩) hs ?_
    refine .condKT rfl rfl ?_
    refine .seq ?_
    refine .region ?_
    refine .build Try.zeroValue34 Try.underlying34 BI34 .n (by exact trivial) rfl rfl ?_
    refine .skips 1 rfl ?_
    refine .storeA Try.sizeOf34 rfl rfl (.s (.s (.s (.s .z)))) (.t (.t (.t (.t (.t (.t (.t (.t (.t (.t (.t .nil))))))))))) rfl rfl ?_
    refine .skips 2 rfl ?_
    refine .nil' fun c w ho hs => Cod.at (E := [(0, _), (4, _), (5, _), (6, _)]) (ho.sub ⟨rfl, rfl, rfl, rfl, trivial⟩) hs ?_
    exact .ret (oret Try.results9 (.w Try.isAgg34 Try.sizeOf34 rfl (.s (.s (.s (.s .z)))) rfl (.t rfl (.t rfl .n))) le54 (.c .z (.c .z (.c .z (.c .z .n)))) ⟨(({ Kind := 0, From := 0, To := 0, Seq := 0, Round := 0, Vec := ({ N := 0, Items := ([] : List Item) } : Vec), Sums := ([] : List Sum), Triples := ([] : List Triple), N := 0, Over := false } : Frame), false, r53, o0), _, _, _, _, _, _, _, _, rfl, (.nil _ none 0), (.nil _ none 0), (.nil _ none 0), rfl, hd⟩)
  · have hd := hd.2 hb56
    refine .f [2] rfl (by kernel_rfl) rfl rfl (fun ex => .gyes rfl rfl hb56 (.move rfl rfl rfl .mk)) ?_
    refine .f [3, 2] rfl (by kernel_rfl) rfl rfl (fun ex => .gyes rfl rfl hb56 (.nilCheckP rfl rfl rfl .mk)) ?_
    refine .f [4, 2] rfl (by kernel_rfl) rfl rfl (fun ex => .gyes rfl rfl hb56 (.fieldAddr Try.underlying60 rfl Try.sizeOf58 rfl (o := 1) rfl rfl rfl .mk)) ?_
    refine .f [5, 2] rfl (by kernel_rfl) rfl rfl (fun ex => .gyes rfl rfl hb56 (.load1 Try.isAgg58 rfl .z rfl rfl rfl .mk)) ?_
    refine .f [2] rfl (by kernel_rfl) rfl rfl (fun ex => .gyes rfl rfl hb56 (.move rfl rfl rfl .mk)) ?_
    obtain ⟨h57, x58, hx59, hd⟩ := hd
    obtain ⟨b60, e61⟩ := hne55 (idx_ne hx59)
    cases e61
    refine .f [6, 7, 2] rfl (by kernel_rfl) rfl rfl (fun ex => .gyes rfl rfl hb56 (.ixa0 Try.underlying58 Try.sizeOf3 rfl rfl h57 (idx_lt hx59 h57) rfl rfl .mk)) ?_
    refine .f [8, 2] rfl (by kernel_rfl) rfl rfl (fun ex => .gyes rfl rfl hb56 (.lo1 (j := 0) Try.isAgg3 (.s .z) hx59 rfl rfl rfl rfl rfl .mk)) ?_
    refine .f [2] rfl (by kernel_rfl) rfl rfl (fun ex => .gyes rfl rfl hb56 (.move rfl rfl rfl .mk)) ?_
    refine .f [10, 2] rfl (by kernel_rfl) rfl rfl (fun ex => .gyes rfl rfl hb56 (.nilCheckP rfl rfl rfl .mk)) ?_
    refine .f [11, 2] rfl (by kernel_rfl) rfl rfl (fun ex => .gyes rfl rfl hb56 (.fieldAddr Try.underlying60 rfl Try.sizeOf3 rfl (o := 5) rfl rfl rfl .mk)) ?_
    refine .f [12, 2] rfl (by kernel_rfl) rfl rfl (fun ex => .gyes rfl rfl hb56 (.load1 Try.isAgg3 rfl .z rfl rfl rfl .mk)) ?_
    refine .f [9, 13, 2] rfl (by kernel_rfl) rfl rfl (fun ex => .gyes rfl rfl hb56 (.gt rfl rfl rfl rfl .mk)) ?_
    refine .f [2, 14] rfl (by kernel_rfl) rfl rfl (fun ex => .pickF rfl hb56 rfl rfl rfl .mk) ?_
    refine .e 16 (by kernel_rfl) (by kernel_rfl) (by kernel_rfl) ?_
    refine .nil' fun c w ho hs => Cod.at (E := [(0, _), (1, _), (4, _), (7, _), (27, _)]) (ho.sub ⟨rfl, rfl, rfl, rfl, rfl, trivial⟩) hs ?_
    refine .cond rfl (fun hb62 => ?_) (fun hb62 => ?_)
    · have hd := hd.1 hb62
      refine .seq ?_
      refine .region ?_
      refine .build Try.zeroValue34 Try.underlying34 BI34 .n (by exact trivial) rfl rfl ?_
      refine .skips 1 rfl ?_
      refine .storeA Try.sizeOf34 rfl rfl (.s (.s (.s (.s .z)))) (.t (.t (.t (.t (.t (.t (.t (.t (.t (.t (.t .nil))))))))))) rfl rfl ?_
      refine .skips 2 rfl ?_
      refine .nil' fun c w ho hs => Cod.at (E := [(0, _), (4, _), (5, _), (6, _)]) (ho.sub ⟨rfl, rfl, rfl, rfl, trivial⟩) hs ?_
      exact .ret (oret Try.results9 (.w Try.isAgg34 Try.sizeOf34 rfl (.s (.s (.s (.s .z)))) rfl (.t rfl (.t rfl .n))) le54 (.c .z (.c .z (.c .z (.c .z .n)))) ⟨(({ Kind := 0, From := 0, To := 0, Seq := 0, Round := 0, Vec := ({ N := 0, Items := ([] : List Item) } : Vec), Sums := ([] : List Sum), Triples := ([] : List Triple), N := 0, Over := false } : Frame), false, r53, o0), _, _, _, _, _, _, _, _, rfl, (.nil _ none 0), (.nil _ none 0), (.nil _ none 0), rfl, hd⟩)
    · have hd := hd.2 hb62
      refine .skip' fun c w ho hs => Cod.at (E := [(0, _), (1, _), (4, _)]) (ho.sub ⟨rfl, rfl, rfl, trivial⟩) hs ?_
      refine .seq ?_
      refine .region ?_
      refine .skips 2 rfl ?_
      have hw92 := W_post_Box_out_i7 (I := I48) (o0 := o0) (a0 := a0) (b2 := b2) (p3 := some ⟨b60, 0, none⟩) (c4 := c4) (b8 := b8) (b10 := b10) hd
      refine .callS (.f Try.call26 rfl) (.c .z (.c .z (.c .z (.c .z .n)))) hw92 rfl rfl fun v96 I93 l97 hl94 hv95 => ?_
      obtain ⟨r98, p99, c100, p102, c103, p105, c106, p110, c111, rfl, R101, R104, R107, rfl, hd⟩ := hv95
      have le118 := IH.le.trans le54 hl94
      refine .re (m' := [pto b2 (.cells #[.int .i64 r98.2.room, .slice p110 r98.2.row.length c111, .map (some b8), .map (some b10), .int .i64 r98.2.sent, .int .i64 r98.2.taken] 60 (0, 0)), OwnSl eI64 3 p110 c111 r98.2.row, OwnMap (Value.int .i64) eFrame true b8 r98.2.by_, OwnMap (Value.int .i64) eI64 false b10 r98.2.often, pto b13 (.cells #[.int .i64 0, .int .i64 0, .int .i64 0, .int .i64 0, .int .i64 0, .int .i64 0, .slice none 0 0, .slice none 0 0, .slice none 0 0, .int .i64 0, .bool false] 34 (0, 0))]) rfl ?_
      refine .allocA Try.zeroValue34 rfl rfl fun b119 => ?_
      refine .storeA Try.sizeOf34 rfl rfl .z (.t (.t (.t (.t (.t (.t (.t (.t (.t (.t (.t .nil))))))))))) rfl rfl ?_
      refine .nil' fun c w ho hs => Cod.at (E := [(0, _), (4, _), (8, _)]) (ho.sub ⟨rfl, rfl, rfl, trivial⟩) hs ?_
      refine .seq ?_
      refine .seq ?_
      refine .draw [some 0, some 1, some 2, some 3, some 4, some 5, some 6] 7 MX (by kernel_rfl) (by kernel_rfl) (by kernel_rfl) (by kernel_rfl) (by kernel_rfl) (by kernel_rfl) (by kernel_rfl) (fun ex => (pto b119 (.cells #[.int .i64 r98.1.Kind, .int .i64 r98.1.From, .int .i64 r98.1.To, .int .i64 r98.1.Seq, .int .i64 r98.1.Round, .int .i64 r98.1.Vec.N, .slice p99 r98.1.Vec.Items.length c100, .slice p102 r98.1.Sums.length c103, .slice p105 r98.1.Triples.length c106, .int .i64 r98.1.N, .bool r98.1.Over] 34 (0, 0))) :: (pto b2 (.cells #[.int .i64 r98.2.room, .slice p110 r98.2.row.length c111, .map (some b8), .map (some b10), .int .i64 r98.2.sent, .int .i64 r98.2.taken] 60 (0, 0))) :: (OwnSl eI64 3 p110 c111 r98.2.row) :: (OwnMap (Value.int .i64) eFrame true b8 r98.2.by_) :: (OwnMap (Value.int .i64) eI64 false b10 r98.2.often) :: (pto b13 (.cells #[.int .i64 0, .int .i64 0, .int .i64 0, .int .i64 0, .int .i64 0, .int .i64 0, .slice none 0 0, .slice none 0 0, .slice none 0 0, .int .i64 0, .bool false] 34 (0, 0))) :: ex) (fun _ _ => (.s (.s (.s (.s (.s (.s .z))))))) rfl ?_
      refine .f [] rfl (by kernel_rfl) rfl rfl (fun ex => .fieldAddr Try.underlying34 rfl Try.sizeOf3 rfl (o := 3) rfl rfl rfl .mk) ?_
      refine .f [0] rfl (by kernel_rfl) rfl rfl (fun ex => .load1 Try.isAgg3 rfl .z rfl rfl rfl .mk) ?_
      refine .f [] rfl (by kernel_rfl) rfl rfl (fun ex => .move rfl rfl rfl .mk) ?_
      refine .f [2] rfl (by kernel_rfl) rfl rfl (fun ex => .nilCheckP rfl rfl rfl .mk) ?_
      refine .f [3] rfl (by kernel_rfl) rfl rfl (fun ex => .fieldAddr Try.underlying60 rfl Try.sizeOf3 rfl (o := 5) rfl rfl rfl .mk) ?_
      refine .f [4] rfl (by kernel_rfl) rfl rfl (fun ex => .load1 Try.isAgg3 rfl (.s .z) rfl rfl rfl .mk) ?_
      refine .f [1, 5] rfl (by kernel_rfl) rfl rfl (fun ex => .lt rfl rfl rfl rfl .mk) ?_
      refine .e 7 (by kernel_rfl) (by kernel_rfl) (by kernel_rfl) ?_
      refine .nil' fun c w ho hs => Cod.at (E := [(0, _), (4, _), (8, _), (39, _)]) (ho.sub ⟨rfl, rfl, rfl, rfl, trivial⟩) hs ?_
      refine .cond rfl (fun hb122 => ?_) (fun hb122 => ?_)
      · have hd := hd.1 hb122
        refine .seq ?_
        refine .region ?_
        refine .build Try.zeroValue34 Try.underlying34 BI34 .n (by exact trivial) rfl rfl ?_
        refine .storeA Try.sizeOf34 rfl rfl (.s (.s (.s (.s (.s .z))))) (.t (.t (.t (.t (.t (.t (.t (.t (.t (.t (.t .nil))))))))))) rfl rfl ?_
        refine .skips 2 rfl ?_
        refine .nil' fun c w ho hs => Cod.at (E := [(0, _), (4, _), (5, _), (6, _)]) (ho.sub ⟨rfl, rfl, rfl, rfl, trivial⟩) hs ?_
        refine .drop .z ?_
        exact .ret (oret Try.results9 (.w Try.isAgg34 Try.sizeOf34 rfl (.s (.s (.s (.s .z)))) rfl (.t rfl (.t rfl .n))) le118 (.c .z (.c .z (.c .z (.c .z .n)))) ⟨(({ Kind := 0, From := 0, To := 0, Seq := 0, Round := 0, Vec := ({ N := 0, Items := ([] : List Item) } : Vec), Sums := ([] : List Sum), Triples := ([] : List Triple), N := 0, Over := false } : Frame), false, 0, r98.2), _, _, _, _, _, _, _, _, rfl, (.nil _ none 0), (.nil _ none 0), (.nil _ none 0), rfl, hd⟩)
      · have hd := hd.2 hb122
        refine .skip' fun c w ho hs => Cod.at (E := [(0, _), (4, _), (8, _)]) (ho.sub ⟨rfl, rfl, rfl, trivial⟩) hs ?_
        refine .seq ?_
        refine .region ?_
        refine .skips 1 rfl ?_
        refine .nilCheckP rfl rfl rfl ?_
        refine .fieldAddr Try.underlying60 rfl Try.sizeOf3 rfl (o := 5) rfl rfl rfl ?_
        refine .load1 Try.isAgg3 rfl (.s .z) rfl rfl rfl ?_
        refine .add rfl rfl rfl rfl ?_
        refine .nilCheckP rfl rfl rfl ?_
        refine .fieldAddr Try.underlying60 rfl Try.sizeOf3 rfl (o := 5) rfl rfl rfl ?_
        refine .store1 Try.sizeOf3 rfl rfl (.s .z) (.s (.s (.s (.s (.s (.t .nil)))))) rfl ?_
        refine .nil' fun c w ho hs => Cod.at (E := [(0, _), (4, _), (8, _)]) (ho.sub ⟨rfl, rfl, rfl, trivial⟩) hs ?_
        refine .seq ?_
        refine .region ?_
        refine .loadW Try.isAgg34 Try.sizeOf34 rfl .z rfl rfl rfl ?_
        have hw138 := W_post_own (I := I93) R101 R104 R107 hd
        refine .call Try.call23 rfl hw138 rfl rfl fun v127 I124 hl125 hv126 => ?_
        obtain ⟨r123, p129, c130, p132, c133, p135, c136, rfl, R131, R134, R137, hd⟩ := hv126
        have le139 := IH.le.trans le118 hl125
        replace R101 := R101.mono hl125
        replace R104 := R104.mono hl125
        replace R107 := R107.mono hl125
        refine .storeA Try.sizeOf34 rfl rfl (.s (.s (.s (.s (.s .z))))) (.t (.t (.t (.t (.t (.t (.t (.t (.t (.t (.t .nil))))))))))) rfl rfl ?_
        refine .skips 2 rfl ?_
        refine .nil' fun c w ho hs => Cod.at (E := [(0, _), (4, _), (5, _), (6, _)]) (ho.sub ⟨rfl, rfl, rfl, rfl, trivial⟩) hs ?_
        refine .drop .z ?_
        exact .ret (oret Try.results9 (.w Try.isAgg34 Try.sizeOf34 rfl (.s (.s (.s (.s .z)))) rfl (.t rfl (.t rfl .n))) le139 (.c .z (.c .z (.c .z (.c .z .n)))) ⟨(r123, true, 0, ({ room := r98.2.room, row := r98.2.row, by_ := r98.2.by_, often := r98.2.often, sent := r98.2.sent, taken := w64 (r98.2.taken + 1) } : Post_Box)), _, _, _, _, _, _, _, _, rfl, R131, R134, R137, rfl, hd⟩)

theorem W_post_Box_Len_i10 {I : IH} {o0 : Post_Box} {b2 : Nat} {p3 : Option Addr} {c4 : Nat} {b8 : Nat} {b10 : Nat} {Q : Int → Prop}  (hd : post_Box_Len_i10 o0 Q) :
    Fun Try.prog 12 #[.pointer (some ⟨b2, 0, none⟩)] I [pto b2 (.cells #[.int .i64 o0.room, .slice p3 o0.row.length c4, .map (some b8), .map (some b10), .int .i64 o0.sent, .int .i64 o0.taken] 60 (0, 0)), OwnSl eI64 3 p3 c4 o0.row, OwnMap (Value.int .i64) eFrame true b8 o0.by_, OwnMap (Value.int .i64) eI64 false b10 o0.often] (fun I_ v l => ∃ r, v = .int .i64 r ∧ l = [pto b2 (.cells #[.int .i64 o0.room, .slice p3 o0.row.length c4, .map (some b8), .map (some b10), .int .i64 o0.sent, .int .i64 o0.taken] 60 (0, 0)), OwnSl eI64 3 p3 c4 o0.row, OwnMap (Value.int .i64) eFrame true b8 o0.by_, OwnMap (Value.int .i64) eI64 false b10 o0.often] ∧ Q r) := by
  refine Fun.enter (vs := [.pointer (some ⟨b2, 0, none⟩)]) Try.func12 rfl Try.ntmps12 rfl (.c .n) fun w0 M => ?_
  refine .seq ?_
  refine .region ?_
  refine .skips 1 rfl ?_
  refine .nil' fun c w ho hs => Cod.at (E := [(0, _)]) (ho.sub ⟨rfl, trivial⟩) hs ?_
  refine .seq ?_
  refine .seq ?_
  refine .region ?_
  refine .skips 1 rfl ?_
  refine .eqNilP Try.underlying22 rfl rfl rfl rfl ?_
  refine .nil' fun c w ho hs => Cod.at (E := [(0, _), (4, _)]) (ho.sub ⟨rfl, rfl, trivial⟩) hs ?_
  refine .condKF rfl rfl ?_
  refine .skip' fun c w ho hs => Cod.at (E := [(0, _)]) (ho.sub ⟨rfl, trivial⟩) hs ?_
  refine .seq ?_
  refine .region ?_
  refine .skips 1 rfl ?_
  refine .nilCheckP rfl rfl rfl ?_
  refine .fieldAddr Try.underlying60 rfl Try.sizeOf58 rfl (o := 1) rfl rfl rfl ?_
  refine .load1 Try.isAgg58 rfl .z rfl rfl rfl ?_
  refine .len Try.underlying58 rfl rfl rfl rfl ?_
  refine .skips 1 rfl ?_
  refine .nil' fun c w ho hs => Cod.at (E := [(0, _), (2, _)]) (ho.sub ⟨rfl, rfl, trivial⟩) hs ?_
  exact .ret (oret Try.results12 (.t rfl .n) (.refl _) (.c .z (.c .z (.c .z (.c .z .n)))) ⟨(o0.row.length : Int), rfl, rfl, hd⟩)

theorem W_post_Box_Oldest_1_i12 {I : IH} {o0 : Int} {a0 : Int} {b2 : Nat} {Q : Bool → Prop}  (hd : post_Box_Oldest_1_i12 o0 a0 Q) :
    Fun Try.prog 29 #[.int .i64 a0, .pointer (some ⟨b2, 0, none⟩)] I [pto b2 (.cells #[.int .i64 o0] 3 (0, 0))] (fun I_ v l => ∃ r, v = .bool r ∧ l = [pto b2 (.cells #[.int .i64 o0] 3 (0, 0))] ∧ Q r) := by
  refine Fun.enter (vs := [.int .i64 a0, .pointer (some ⟨b2, 0, none⟩)]) Try.func29 rfl Try.ntmps29 rfl (.c (.c .n)) fun w0 M => ?_
  refine .seq ?_
  refine .region ?_
  refine .skips 1 rfl ?_
  refine .nil' fun c w ho hs => Cod.at (E := [(0, _), (1, _)]) (ho.sub ⟨rfl, rfl, trivial⟩) hs ?_
  refine .seq ?_
  refine .region ?_
  refine .skips 1 rfl ?_
  refine .load1 Try.isAgg3 rfl .z rfl rfl rfl ?_
  refine .eq rfl rfl rfl rfl ?_
  refine .skips 1 rfl ?_
  refine .nil' fun c w ho hs => Cod.at (E := [(1, _), (3, _)]) (ho.sub ⟨rfl, rfl, trivial⟩) hs ?_
  exact .ret (oret Try.results29 (.t rfl .n) (.refl _) (.c .z .n) ⟨(a0 == o0), rfl, rfl, hd⟩)

theorem W_slices_IndexFunc_int_int_i11 {I : IH} {o0 : List Int} {o1 : Int} {p3 : Option Addr} {c4 : Nat} {b5 : Nat} {Q : Int → Prop}  (hd : slices_IndexFunc_int_int_i11 o0 o1 Q) :
    Fun Try.prog 28 #[.slice p3 o0.length c4, .func (.func 29) #[] #[.pointer (some ⟨b5, 0, none⟩)]] I [OwnSl eI64 3 p3 c4 o0, pto b5 (.cells #[.int .i64 o1] 3 (0, 0))] (fun I_ v l => ∃ r, v = .int .i64 r ∧ l = [OwnSl eI64 3 p3 c4 o0, pto b5 (.cells #[.int .i64 o1] 3 (0, 0))] ∧ Q r) := by
  refine Fun.enter (vs := [.slice p3 o0.length c4, .func (.func 29) #[] #[.pointer (some ⟨b5, 0, none⟩)]]) Try.func28 rfl Try.ntmps28 rfl (.c (.c .n)) fun w0 M => ?_
  refine .seq ?_
  refine .region ?_
  refine .skips 1 rfl ?_
  refine .nil' fun c w ho hs => Cod.at (E := [(0, _), (1, _)]) (ho.sub ⟨rfl, rfl, trivial⟩) hs ?_
  refine .seq ?_
  refine .seq ?_
  refine .region ?_
  refine .skips 1 rfl ?_
  refine .len Try.underlying58 rfl rfl rfl rfl ?_
  refine .skips 1 rfl ?_
  refine .nil' fun c w ho hs => Cod.at (E := [(0, _), (1, _), (7, _), (8, _)]) (ho.sub ⟨rfl, rfl, rfl, rfl, trivial⟩) hs ?_
  refine .block ?_
  refine .loop hd (fun (s41 : Int) c w => ∃ I_, IH.le I I_ ∧ Ok 19 [(0, .slice p3 o0.length c4), (1, .func (.func 29) #[] #[.pointer (some ⟨b5, 0, none⟩)]), (7, .int .i64 (o0.length : Int)), (8, .int .i64 s41)] c ∧ Sym w0 M I I_ [OwnSl eI64 3 p3 c4 o0, pto b5 (.cells #[.int .i64 o1] 3 (0, 0))] w) (fun c w ho hs => ⟨I, (.refl _), ho.sub ⟨rfl, rfl, rfl, rfl, trivial⟩, hs.pick (.c .z (.c .z .n))⟩) ?_
  rintro s41 next42 hd c w hst
  obtain ⟨I43, hl44, hok, hsym⟩ := hst
  have le45 := IH.le.trans (.refl _) hl44
  refine Cod.at hok hsym ?_
  refine .seq ?_
  refine .region ?_
  refine .lt rfl rfl rfl rfl ?_
  refine .nil' fun c w ho hs => Cod.at (E := [(0, _), (1, _), (7, _), (8, _), (9, _)]) (ho.sub ⟨rfl, rfl, rfl, rfl, rfl, trivial⟩) hs ?_
  refine .seq ?_
  refine .cond rfl (fun hb47 => ?_) (fun hb47 => ?_)
  · have hd := hd.1 hb47
    refine .skip' fun c w ho hs => Cod.at (E := [(0, _), (1, _), (7, _), (8, _)]) (ho.sub ⟨rfl, rfl, rfl, rfl, trivial⟩) hs ?_
    refine .seq ?_
    refine .block ?_
    refine .seq ?_
    refine .region ?_
    refine .skips 2 rfl ?_
    refine .nil' fun c w ho hs => Cod.at (E := [(0, _), (1, _), (7, _), (8, _), (5, _)]) (ho.sub ⟨rfl, rfl, rfl, rfl, rfl, trivial⟩) hs ?_
    refine .seq ?_
    refine .region ?_
    refine .skips 3 rfl ?_
    obtain ⟨h48, x49, hx50, hd⟩ := hd
    refine .ownNe .z (idx_ne hx50) fun b51 e52 => ?_
    cases e52
    refine .ixa0 Try.underlying58 Try.sizeOf3 rfl rfl h48 (idx_lt hx50 h48) rfl rfl ?_
    refine .lo1 (j := 0) Try.isAgg3 .z hx50 rfl rfl rfl rfl rfl ?_
    have hw53 := W_post_Box_Oldest_1_i12 (I := I43) (o0 := o1) (a0 := x49) (b2 := b5) hd
    refine .callS (.c Try.call29 rfl rfl) (.c (.s .z) .n) hw53 rfl rfl fun v57 I54 l58 hl55 hv56 => ?_
    obtain ⟨r59, rfl, rfl, hd⟩ := hv56
    have le60 := IH.le.trans le45 hl55
    refine .re (m' := [pto b5 (.cells #[.int .i64 o1] 3 (0, 0)), OwnSl eI64 3 (some ⟨b51, 0, none⟩) c4 o0]) rfl ?_
    refine .nil' fun c w ho hs => Cod.at (E := [(0, _), (1, _), (7, _), (8, _), (5, _), (16, _)]) (ho.sub ⟨rfl, rfl, rfl, rfl, rfl, rfl, trivial⟩) hs ?_
    refine .cond rfl (fun hb61 => ?_) (fun hb61 => ?_)
    · have hd := hd.1 hb61
      refine .seq ?_
      refine .region ?_
      refine .skips 2 rfl ?_
      refine .nil' fun c w ho hs => Cod.at (E := [(0, _), (1, _), (4, _)]) (ho.sub ⟨rfl, rfl, rfl, trivial⟩) hs ?_
      exact .ret (oret Try.results28 (.t rfl .n) le60 (.c (.s .z) (.c .z .n)) ⟨s41, rfl, rfl, hd⟩)
    · have hd := hd.2 hb61
      refine .skip' fun c w ho hs => Cod.at (E := [(0, _), (1, _), (7, _), (8, _)]) (ho.sub ⟨rfl, rfl, rfl, rfl, trivial⟩) hs ?_
      refine .region ?_
      refine .add rfl rfl rfl rfl ?_
      refine .sub (E' := [(0, _), (1, _), (7, _), (18, _)]) ⟨rfl, rfl, rfl, rfl, trivial⟩ ?_
      refine .skips 1 rfl ?_
      exact .nil' fun c w ho hs => ⟨(w64 (s41 + 1)), hd, I54, le60, ho.sub ⟨rfl, rfl, rfl, rfl, trivial⟩, hs.pick (.c (.s .z) (.c .z .n))⟩
  · have hd := hd.2 hb47
    refine .exit fun c w ho hs => Cod.at (E := [(0, _), (1, _)]) (ho.sub ⟨rfl, rfl, trivial⟩) hs ?_
    refine .seq ?_
    refine .region ?_
    refine .skips 1 rfl ?_
    refine .nil' fun c w ho hs => Cod.at (E := [(0, _), (1, _), (4, _)]) (ho.sub ⟨rfl, rfl, rfl, trivial⟩) hs ?_
    exact .ret (oret Try.results28 (.t rfl .n) le45 (.c .z (.c .z .n)) ⟨(-1), rfl, rfl, hd⟩)

theorem W_post_Box_Oldest_i9 {I : IH} {o0 : Post_Box} {b2 : Nat} {p3 : Option Addr} {c4 : Nat} {b8 : Nat} {b10 : Nat} {Q : Int → Prop}  (hd : post_Box_Oldest_i9 o0 Q) :
    Fun Try.prog 10 #[.pointer (some ⟨b2, 0, none⟩)] I [pto b2 (.cells #[.int .i64 o0.room, .slice p3 o0.row.length c4, .map (some b8), .map (some b10), .int .i64 o0.sent, .int .i64 o0.taken] 60 (0, 0)), OwnSl eI64 3 p3 c4 o0.row, OwnMap (Value.int .i64) eFrame true b8 o0.by_, OwnMap (Value.int .i64) eI64 false b10 o0.often] (fun I_ v l => ∃ r, v = .int .i64 r ∧ l = [pto b2 (.cells #[.int .i64 o0.room, .slice p3 o0.row.length c4, .map (some b8), .map (some b10), .int .i64 o0.sent, .int .i64 o0.taken] 60 (0, 0)), OwnSl eI64 3 p3 c4 o0.row, OwnMap (Value.int .i64) eFrame true b8 o0.by_, OwnMap (Value.int .i64) eI64 false b10 o0.often] ∧ Q r) := by
  refine Fun.enter (vs := [.pointer (some ⟨b2, 0, none⟩)]) Try.func10 rfl Try.ntmps10 rfl (.c .n) fun w0 M => ?_
  refine .seq ?_
  refine .region ?_
  refine .skips 1 rfl ?_
  refine .nil' fun c w ho hs => Cod.at (E := [(0, _)]) (ho.sub ⟨rfl, trivial⟩) hs ?_
  refine .seq ?_
  refine .seq ?_
  refine .region ?_
  refine .skips 1 rfl ?_
  have hw20 := W_post_Box_Len_i10 (I := I) (o0 := o0) (b2 := b2) (p3 := p3) (c4 := c4) (b8 := b8) (b10 := b10) hd
  refine .callS (.f Try.call12 rfl) (.c .z (.c .z (.c .z (.c .z .n)))) hw20 rfl rfl fun v24 I21 l25 hl22 hv23 => ?_
  obtain ⟨r26, rfl, rfl, hd⟩ := hv23
  have le27 := IH.le.trans (.refl _) hl22
  refine .re (m' := [pto b2 (.cells #[.int .i64 o0.room, .slice p3 o0.row.length c4, .map (some b8), .map (some b10), .int .i64 o0.sent, .int .i64 o0.taken] 60 (0, 0)), OwnSl eI64 3 p3 c4 o0.row, OwnMap (Value.int .i64) eFrame true b8 o0.by_, OwnMap (Value.int .i64) eI64 false b10 o0.often]) rfl ?_
  refine .eq rfl rfl rfl rfl ?_
  refine .nil' fun c w ho hs => Cod.at (E := [(0, _), (6, _)]) (ho.sub ⟨rfl, rfl, trivial⟩) hs ?_
  refine .cond rfl (fun hb28 => ?_) (fun hb28 => ?_)
  · have hd := hd.1 hb28
    refine .seq ?_
    refine .region ?_
    refine .skips 1 rfl ?_
    refine .nil' fun c w ho hs => Cod.at (E := [(0, _), (2, _)]) (ho.sub ⟨rfl, rfl, trivial⟩) hs ?_
    exact .ret (oret Try.results10 (.t rfl .n) le27 (.c .z (.c .z (.c .z (.c .z .n)))) ⟨(-1), rfl, rfl, hd⟩)
  · have hd := hd.2 hb28
    refine .skip' fun c w ho hs => Cod.at (E := [(0, _)]) (ho.sub ⟨rfl, trivial⟩) hs ?_
    refine .seq ?_
    refine .region ?_
    refine .skips 1 rfl ?_
    refine .nilCheckP rfl rfl rfl ?_
    refine .fieldAddr Try.underlying60 rfl Try.sizeOf58 rfl (o := 1) rfl rfl rfl ?_
    refine .load1 Try.isAgg58 rfl .z rfl rfl rfl ?_
    have hw30 := fun (J : IH) (hJ : IH.le I21 J) (hL : lentAll J [OwnSl eI64 3 p3 c4 o0.row]) => W_slices_Min_int_int (I := J) (lent hL.1) hd
    refine .callB (.f Try.call27 rfl) (.c (.s .z) .n) hw30 rfl rfl fun v31 _ hv32 => ?_
    obtain ⟨r29, rfl, hd⟩ := hv32
    refine .alloc1 Try.zeroValue3 rfl rfl rfl fun b33 => ?_
    refine .store1 Try.sizeOf3 rfl rfl .z (.t .nil) rfl ?_
    refine .nil' fun c w ho hs => Cod.at (E := [(0, _), (3, _)]) (ho.sub ⟨rfl, rfl, trivial⟩) hs ?_
    refine .seq ?_
    refine .region ?_
    refine .skips 1 rfl ?_
    refine .nilCheckP rfl rfl rfl ?_
    refine .fieldAddr Try.underlying60 rfl Try.sizeOf58 rfl (o := 1) rfl rfl rfl ?_
    refine .load1 Try.isAgg58 rfl (.s .z) rfl rfl rfl ?_
    refine .mkFn rfl rfl rfl rfl ?_
    have hw35 := W_slices_IndexFunc_int_int_i11 (I := I21) (o0 := o0.row) (o1 := r29) (p3 := p3) (c4 := c4) (b5 := b33) hd
    refine .callS (.f Try.call28 rfl) (.c (.s (.s .z)) (.c .z .n)) hw35 rfl rfl fun v39 I36 l40 hl37 hv38 => ?_
    obtain ⟨r41, rfl, rfl, hd⟩ := hv38
    have le42 := IH.le.trans le27 hl37
    refine .re (m' := [OwnSl eI64 3 p3 c4 o0.row, pto b33 (.cells #[.int .i64 r29] 3 (0, 0)), pto b2 (.cells #[.int .i64 o0.room, .slice p3 o0.row.length c4, .map (some b8), .map (some b10), .int .i64 o0.sent, .int .i64 o0.taken] 60 (0, 0)), OwnMap (Value.int .i64) eFrame true b8 o0.by_, OwnMap (Value.int .i64) eI64 false b10 o0.often]) rfl ?_
    refine .skips 1 rfl ?_
    refine .nil' fun c w ho hs => Cod.at (E := [(0, _), (2, _)]) (ho.sub ⟨rfl, rfl, trivial⟩) hs ?_
    refine .drop (.s .z) ?_
    exact .ret (oret Try.results10 (.t rfl .n) le42 (.c (.s .z) (.c .z (.c .z (.c .z .n)))) ⟨r41, rfl, rfl, hd⟩)

theorem W_post_Box_Room_i13 {I : IH} {o0 : Post_Box} {b2 : Nat} {p3 : Option Addr} {c4 : Nat} {b8 : Nat} {b10 : Nat} {Q : Int → Prop}  (hd : post_Box_Room_i13 o0 Q) :
    Fun Try.prog 16 #[.pointer (some ⟨b2, 0, none⟩)] I [pto b2 (.cells #[.int .i64 o0.room, .slice p3 o0.row.length c4, .map (some b8), .map (some b10), .int .i64 o0.sent, .int .i64 o0.taken] 60 (0, 0)), OwnSl eI64 3 p3 c4 o0.row, OwnMap (Value.int .i64) eFrame true b8 o0.by_, OwnMap (Value.int .i64) eI64 false b10 o0.often] (fun I_ v l => ∃ r, v = .int .i64 r ∧ l = [pto b2 (.cells #[.int .i64 o0.room, .slice p3 o0.row.length c4, .map (some b8), .map (some b10), .int .i64 o0.sent, .int .i64 o0.taken] 60 (0, 0)), OwnSl eI64 3 p3 c4 o0.row, OwnMap (Value.int .i64) eFrame true b8 o0.by_, OwnMap (Value.int .i64) eI64 false b10 o0.often] ∧ Q r) := by
  refine Fun.enter (vs := [.pointer (some ⟨b2, 0, none⟩)]) Try.func16 rfl Try.ntmps16 rfl (.c .n) fun w0 M => ?_
  refine .seq ?_
  refine .region ?_
  refine .skips 1 rfl ?_
  refine .nil' fun c w ho hs => Cod.at (E := [(0, _)]) (ho.sub ⟨rfl, trivial⟩) hs ?_
  refine .seq ?_
  refine .seq ?_
  refine .region ?_
  refine .skips 1 rfl ?_
  refine .eqNilP Try.underlying22 rfl rfl rfl rfl ?_
  refine .nil' fun c w ho hs => Cod.at (E := [(0, _), (4, _)]) (ho.sub ⟨rfl, rfl, trivial⟩) hs ?_
  refine .condKF rfl rfl ?_
  refine .skip' fun c w ho hs => Cod.at (E := [(0, _)]) (ho.sub ⟨rfl, trivial⟩) hs ?_
  refine .seq ?_
  refine .region ?_
  refine .skips 1 rfl ?_
  refine .nilCheckP rfl rfl rfl ?_
  refine .fieldAddr Try.underlying60 rfl Try.sizeOf3 rfl (o := 0) rfl rfl rfl ?_
  refine .load1 Try.isAgg3 rfl .z rfl rfl rfl ?_
  refine .skips 1 rfl ?_
  refine .nil' fun c w ho hs => Cod.at (E := [(0, _), (2, _)]) (ho.sub ⟨rfl, rfl, trivial⟩) hs ?_
  exact .ret (oret Try.results16 (.t rfl .n) (.refl _) (.c .z (.c .z (.c .z (.c .z .n)))) ⟨o0.room, rfl, rfl, hd⟩)

theorem W_post_Box_Sent_i14 {I : IH} {o0 : Post_Box} {b2 : Nat} {p3 : Option Addr} {c4 : Nat} {b8 : Nat} {b10 : Nat} {Q : Int → Prop}  (hd : post_Box_Sent_i14 o0 Q) :
    Fun Try.prog 13 #[.pointer (some ⟨b2, 0, none⟩)] I [pto b2 (.cells #[.int .i64 o0.room, .slice p3 o0.row.length c4, .map (some b8), .map (some b10), .int .i64 o0.sent, .int .i64 o0.taken] 60 (0, 0)), OwnSl eI64 3 p3 c4 o0.row, OwnMap (Value.int .i64) eFrame true b8 o0.by_, OwnMap (Value.int .i64) eI64 false b10 o0.often] (fun I_ v l => ∃ r, v = .int .i64 r ∧ l = [pto b2 (.cells #[.int .i64 o0.room, .slice p3 o0.row.length c4, .map (some b8), .map (some b10), .int .i64 o0.sent, .int .i64 o0.taken] 60 (0, 0)), OwnSl eI64 3 p3 c4 o0.row, OwnMap (Value.int .i64) eFrame true b8 o0.by_, OwnMap (Value.int .i64) eI64 false b10 o0.often] ∧ Q r) := by
  refine Fun.enter (vs := [.pointer (some ⟨b2, 0, none⟩)]) Try.func13 rfl Try.ntmps13 rfl (.c .n) fun w0 M => ?_
  refine .seq ?_
  refine .region ?_
  refine .skips 1 rfl ?_
  refine .nil' fun c w ho hs => Cod.at (E := [(0, _)]) (ho.sub ⟨rfl, trivial⟩) hs ?_
  refine .seq ?_
  refine .seq ?_
  refine .region ?_
  refine .skips 1 rfl ?_
  refine .eqNilP Try.underlying22 rfl rfl rfl rfl ?_
  refine .nil' fun c w ho hs => Cod.at (E := [(0, _), (4, _)]) (ho.sub ⟨rfl, rfl, trivial⟩) hs ?_
  refine .condKF rfl rfl ?_
  refine .skip' fun c w ho hs => Cod.at (E := [(0, _)]) (ho.sub ⟨rfl, trivial⟩) hs ?_
  refine .seq ?_
  refine .region ?_
  refine .skips 1 rfl ?_
  refine .nilCheckP rfl rfl rfl ?_
  refine .fieldAddr Try.underlying60 rfl Try.sizeOf3 rfl (o := 4) rfl rfl rfl ?_
  refine .load1 Try.isAgg3 rfl .z rfl rfl rfl ?_
  refine .skips 1 rfl ?_
  refine .nil' fun c w ho hs => Cod.at (E := [(0, _), (2, _)]) (ho.sub ⟨rfl, rfl, trivial⟩) hs ?_
  exact .ret (oret Try.results13 (.t rfl .n) (.refl _) (.c .z (.c .z (.c .z (.c .z .n)))) ⟨o0.sent, rfl, rfl, hd⟩)

theorem W_post_Box_Taken_i15 {I : IH} {o0 : Post_Box} {b2 : Nat} {p3 : Option Addr} {c4 : Nat} {b8 : Nat} {b10 : Nat} {Q : Int → Prop}  (hd : post_Box_Taken_i15 o0 Q) :
    Fun Try.prog 17 #[.pointer (some ⟨b2, 0, none⟩)] I [pto b2 (.cells #[.int .i64 o0.room, .slice p3 o0.row.length c4, .map (some b8), .map (some b10), .int .i64 o0.sent, .int .i64 o0.taken] 60 (0, 0)), OwnSl eI64 3 p3 c4 o0.row, OwnMap (Value.int .i64) eFrame true b8 o0.by_, OwnMap (Value.int .i64) eI64 false b10 o0.often] (fun I_ v l => ∃ r, v = .int .i64 r ∧ l = [pto b2 (.cells #[.int .i64 o0.room, .slice p3 o0.row.length c4, .map (some b8), .map (some b10), .int .i64 o0.sent, .int .i64 o0.taken] 60 (0, 0)), OwnSl eI64 3 p3 c4 o0.row, OwnMap (Value.int .i64) eFrame true b8 o0.by_, OwnMap (Value.int .i64) eI64 false b10 o0.often] ∧ Q r) := by
  refine Fun.enter (vs := [.pointer (some ⟨b2, 0, none⟩)]) Try.func17 rfl Try.ntmps17 rfl (.c .n) fun w0 M => ?_
  refine .seq ?_
  refine .region ?_
  refine .skips 1 rfl ?_
  refine .nil' fun c w ho hs => Cod.at (E := [(0, _)]) (ho.sub ⟨rfl, trivial⟩) hs ?_
  refine .seq ?_
  refine .seq ?_
  refine .region ?_
  refine .skips 1 rfl ?_
  refine .eqNilP Try.underlying22 rfl rfl rfl rfl ?_
  refine .nil' fun c w ho hs => Cod.at (E := [(0, _), (4, _)]) (ho.sub ⟨rfl, rfl, trivial⟩) hs ?_
  refine .condKF rfl rfl ?_
  refine .skip' fun c w ho hs => Cod.at (E := [(0, _)]) (ho.sub ⟨rfl, trivial⟩) hs ?_
  refine .seq ?_
  refine .region ?_
  refine .skips 1 rfl ?_
  refine .nilCheckP rfl rfl rfl ?_
  refine .fieldAddr Try.underlying60 rfl Try.sizeOf3 rfl (o := 5) rfl rfl rfl ?_
  refine .load1 Try.isAgg3 rfl .z rfl rfl rfl ?_
  refine .skips 1 rfl ?_
  refine .nil' fun c w ho hs => Cod.at (E := [(0, _), (2, _)]) (ho.sub ⟨rfl, rfl, trivial⟩) hs ?_
  exact .ret (oret Try.results17 (.t rfl .n) (.refl _) (.c .z (.c .z (.c .z (.c .z .n)))) ⟨o0.taken, rfl, rfl, hd⟩)

theorem W_post_Box_Frames_i16 {I : IH} {o0 : Post_Box} {b2 : Nat} {p3 : Option Addr} {c4 : Nat} {b8 : Nat} {b10 : Nat} {Q : (List Frame) → Prop}  (hd : post_Box_Frames_i16 o0 Q) :
    Fun Try.prog 18 #[.pointer (some ⟨b2, 0, none⟩)] I [pto b2 (.cells #[.int .i64 o0.room, .slice p3 o0.row.length c4, .map (some b8), .map (some b10), .int .i64 o0.sent, .int .i64 o0.taken] 60 (0, 0)), OwnSl eI64 3 p3 c4 o0.row, OwnMap (Value.int .i64) eFrame true b8 o0.by_, OwnMap (Value.int .i64) eI64 false b10 o0.often] (fun I_ v l => ∃ r p11 c12, v = .slice p11 r.length c12 ∧ RepSl eFrame I_ p11 c12 r ∧ l = [pto b2 (.cells #[.int .i64 o0.room, .slice p3 o0.row.length c4, .map (some b8), .map (some b10), .int .i64 o0.sent, .int .i64 o0.taken] 60 (0, 0)), OwnSl eI64 3 p3 c4 o0.row, OwnMap (Value.int .i64) eFrame true b8 o0.by_, OwnMap (Value.int .i64) eI64 false b10 o0.often] ∧ Q r) := by
  refine Fun.enter (vs := [.pointer (some ⟨b2, 0, none⟩)]) Try.func18 rfl Try.ntmps18 rfl (.c .n) fun w0 M => ?_
  refine .seq ?_
  refine .region ?_
  refine .skips 1 rfl ?_
  refine .nil' fun c w ho hs => Cod.at (E := [(0, _)]) (ho.sub ⟨rfl, trivial⟩) hs ?_
  refine .seq ?_
  refine .seq ?_
  refine .region ?_
  refine .skips 1 rfl ?_
  refine .eqNilP Try.underlying22 rfl rfl rfl rfl ?_
  refine .nil' fun c w ho hs => Cod.at (E := [(0, _), (7, _)]) (ho.sub ⟨rfl, rfl, trivial⟩) hs ?_
  refine .condKF rfl rfl ?_
  refine .skip' fun c w ho hs => Cod.at (E := [(0, _)]) (ho.sub ⟨rfl, trivial⟩) hs ?_
  refine .seq ?_
  refine .region ?_
  refine .skips 1 rfl ?_
  refine .nil' fun c w ho hs => Cod.at (E := [(0, _), (3, _)]) (ho.sub ⟨rfl, rfl, trivial⟩) hs ?_
  refine .seq ?_
  refine .seq ?_
  refine .region ?_
  refine .skips 1 rfl ?_
  refine .nilCheckP rfl rfl rfl ?_
  refine .fieldAddr Try.underlying60 rfl Try.sizeOf58 rfl (o := 1) rfl rfl rfl ?_
  refine .load1 Try.isAgg58 rfl .z rfl rfl rfl ?_
  refine .len Try.underlying58 rfl rfl rfl rfl ?_
  refine .skips 1 rfl ?_
  refine .nil' fun c w ho hs => Cod.at (E := [(0, _), (3, _), (11, _), (12, _), (13, _)]) (ho.sub ⟨rfl, rfl, rfl, rfl, rfl, trivial⟩) hs ?_
  refine .block ?_
  refine .own0 eFrame 34 ?_
  refine .loop hd (fun (s : (List Frame) × Int) c w => match s with | (s127, s131) => ∃ I_ p128 c129, IH.le I I_ ∧ Ok 29 [(0, .pointer (some ⟨b2, 0, none⟩)), (3, .slice p128 s127.length c129), (11, .slice p3 o0.row.length c4), (12, .int .i64 (o0.row.length : Int)), (13, .int .i64 s131)] c ∧ Sym w0 M I I_ [pto b2 (.cells #[.int .i64 o0.room, .slice p3 o0.row.length c4, .map (some b8), .map (some b10), .int .i64 o0.sent, .int .i64 o0.taken] 60 (0, 0)), OwnSl eI64 3 p3 c4 o0.row, OwnMap (Value.int .i64) eFrame true b8 o0.by_, OwnMap (Value.int .i64) eI64 false b10 o0.often, OwnSl eFrame 34 p128 c129 s127] w) (fun c w ho hs => ⟨I, _, _, (.refl _), ho.sub ⟨rfl, rfl, rfl, rfl, rfl, trivial⟩, hs.pick (.c (.s .z) (.c (.s .z) (.c (.s .z) (.c (.s .z) (.c .z .n)))))⟩) ?_
  rintro ⟨s127, s131⟩ next133 hd c w hst
  obtain ⟨I134, p128, c129, hl135, hok, hsym⟩ := hst
  have le136 := IH.le.trans (.refl _) hl135
  refine Cod.at hok hsym ?_
  refine .seq ?_
  refine .region ?_
  refine .lt rfl rfl rfl rfl ?_
  refine .nil' fun c w ho hs => Cod.at (E := [(0, _), (3, _), (11, _), (12, _), (13, _), (14, _)]) (ho.sub ⟨rfl, rfl, rfl, rfl, rfl, rfl, trivial⟩) hs ?_
  refine .seq ?_
  refine .cond rfl (fun hb138 => ?_) (fun hb138 => ?_)
  · have hd := hd.1 hb138
    refine .skip' fun c w ho hs => Cod.at (E := [(0, _), (3, _), (11, _), (12, _), (13, _)]) (ho.sub ⟨rfl, rfl, rfl, rfl, rfl, trivial⟩) hs ?_
    refine .seq ?_
    refine .block ?_
    refine .seq ?_
    refine .region ?_
    obtain ⟨h144, x145, hx146, hd⟩ := hd
    refine .ownNe (.s .z) (idx_ne hx146) fun b147 e148 => ?_
    cases e148
    refine .ixa0 Try.underlying58 Try.sizeOf3 rfl rfl h144 (idx_lt hx146 h144) rfl rfl ?_
    refine .lo1 (j := 0) Try.isAgg3 (.s .z) hx146 rfl rfl rfl rfl rfl ?_
    refine .skips 1 rfl ?_
    refine .nil' fun c w ho hs => Cod.at (E := [(0, _), (3, _), (11, _), (12, _), (13, _), (5, _)]) (ho.sub ⟨rfl, rfl, rfl, rfl, rfl, rfl, trivial⟩) hs ?_
    refine .region ?_
    refine .skips 2 rfl ?_
    refine .nilCheckP rfl rfl rfl ?_
    refine .fieldAddr Try.underlying60 rfl Try.sizeOf56 rfl (o := 2) rfl rfl rfl ?_
    refine .load1 Try.isAgg56 rfl .z rfl rfl rfl ?_
    refine .skips 1 rfl ?_
    refine .lookM (El := eFrame) (ag := true) (zv := .agg #[.int .i64 0, .int .i64 0, .int .i64 0, .int .i64 0, .int .i64 0, .int .i64 0, .slice none 0 0, .slice none 0 0, .slice none 0 0, .int .i64 0, .bool false]) (z := ({ Kind := 0, From := 0, To := 0, Seq := 0, Round := 0, Vec := ({ N := 0, Items := ([] : List Item) } : Vec), Sums := ([] : List Sum), Triples := ([] : List Triple), N := 0, Over := false } : Frame)) (keyInt Try.underlying3) Try.underlying56 Try.zeroValue34 ⟨[.int .i64 0, .int .i64 0, .int .i64 0, .int .i64 0, .int .i64 0, .int .i64 0, .slice none 0 0, .slice none 0 0, .slice none 0 0, .int .i64 0, .bool false], ⟨_, _, _, _, _, _, rfl, .nil _ _ _, .nil _ _ _, .nil _ _ _⟩, .a⟩ (.s (.s .z)) rfl rfl hd rfl rfl fun v152 r149 cs153 hd hr150 hv151 => ?_
    obtain ⟨p155, c156, p158, c159, p161, c162, rfl, R157, R160, R163⟩ := hr150
    cases hv151
    have hw179 := W_post_own (I := I134) R157 R160 R163 hd
    refine .call Try.call23 rfl hw179 rfl rfl fun v168 I165 hl166 hv167 => ?_
    obtain ⟨r164, p170, c171, p173, c174, p176, c177, rfl, R172, R175, R178, hd⟩ := hv167
    have le180 := IH.le.trans le136 hl166
    replace R157 := R157.mono hl166
    replace R160 := R160.mono hl166
    replace R163 := R163.mono hl166
    refine .buildSlice 1 Try.underlying45 Try.sizeOf34 Try.zeroValue34 rfl rfl (.c rfl rfl rfl .n) rfl rfl fun b181 => ?_
    obtain ⟨hl183, hd⟩ := hd
    refine .append (ys := [r164]) 136 (.s (.s (.s (.s (.s .z))))) Try.underlying45 Try.underlying45 IN34 rfl rfl rfl rfl rfl rfl rfl rfl rfl (.box .z (.one ⟨_, _, _, _, _, _, rfl, R172, R175, R178⟩) rfl) hl183 rfl rfl fun p184 c185 => ?_
    refine .sub (E' := [(0, _), (11, _), (12, _), (13, _), (5, _), (17, _), (18, _), (19, _), (20, _), (21, _), (22, _), (23, _), (24, _), (25, _), (26, _)]) ⟨rfl, rfl, rfl, rfl, rfl, rfl, rfl, rfl, rfl, rfl, rfl, rfl, rfl, rfl, rfl, trivial⟩ ?_
    refine .skips 1 rfl ?_
    refine .nil' fun c w ho hs => Cod.at (E := [(0, _), (11, _), (12, _), (13, _), (3, _)]) (ho.sub ⟨rfl, rfl, rfl, rfl, rfl, trivial⟩) hs ?_
    refine .drop (.s .z) ?_
    refine .region ?_
    refine .add rfl rfl rfl rfl ?_
    refine .sub (E' := [(0, _), (11, _), (12, _), (3, _), (27, _)]) ⟨rfl, rfl, rfl, rfl, rfl, trivial⟩ ?_
    refine .skips 1 rfl ?_
    exact .nil' fun c w ho hs => ⟨((s127 ++ ([r164])), w64 (s131 + 1)), hd, I165, _, _, le180, ho.sub ⟨rfl, rfl, rfl, rfl, rfl, trivial⟩, hs.pick (.c (.s .z) (.c (.s .z) (.c (.s .z) (.c (.s .z) (.c .z .n)))))⟩
  · have hd := hd.2 hb138
    refine .exit fun c w ho hs => Cod.at (E := [(0, _), (3, _)]) (ho.sub ⟨rfl, rfl, trivial⟩) hs ?_
    refine .seq ?_
    refine .region ?_
    refine .skips 2 rfl ?_
    refine .nil' fun c w ho hs => Cod.at (E := [(0, _), (2, _)]) (ho.sub ⟨rfl, rfl, trivial⟩) hs ?_
    refine .pub (.s (.s (.s (.s .z)))) fun I187 hl188 R189 => ?_
    have le190 := IH.le.trans le136 hl188
    exact .ret (oret Try.results18 (.t rfl .n) le190 (.c .z (.c .z (.c .z (.c .z .n)))) ⟨s127, _, _, rfl, R189, rfl, hd⟩)

theorem W_law20_live {I : IH}   {Q : Bool → Prop}  (hd : law20_live Q) :
    PFun Try.prog 11 [] I (fun I_ v => ∃ r, v = .bool r ∧ Q r) := by
  refine Fun.enter Try.func11 rfl Try.ntmps11 rfl .n fun w0 M => ?_
  refine .seq ?_
  refine .region ?_
  refine .skips 1 rfl ?_
  refine .nil' fun c w ho hs => Cod.at (E := []) (ho.sub trivial) hs ?_
  refine .seq ?_
  refine .region ?_
  have hw19 := W_post_New_i0 (I := I)  hd
  refine .callS (.f Try.call6 rfl) .n hw19 rfl rfl fun v23 I20 l24 hl21 hv22 => ?_
  obtain ⟨r25, b27, p28, c29, b33, b35, rfl, rfl, hd⟩ := hv22
  have le36 := IH.le.trans (.refl _) hl21
  refine .re (m' := [pto b27 (.cells #[.int .i64 r25.2.room, .slice p28 r25.2.row.length c29, .map (some b33), .map (some b35), .int .i64 r25.2.sent, .int .i64 r25.2.taken] 60 (0, 0)), OwnSl eI64 3 p28 c29 r25.2.row, OwnMap (Value.int .i64) eFrame true b33 r25.2.by_, OwnMap (Value.int .i64) eI64 false b35 r25.2.often]) rfl ?_
  refine .skips 1 rfl ?_
  refine .extract rfl rfl rfl rfl ?_
  refine .extract rfl rfl rfl rfl ?_
  refine .skips 2 rfl ?_
  refine .nil' fun c w ho hs => Cod.at (E := [(1, _), (2, _)]) (ho.sub ⟨rfl, rfl, trivial⟩) hs ?_
  refine .seq ?_
  refine .region ?_
  have hw45 := W_post_New_i1 (I := I20)  hd
  refine .callS (.f Try.call6 rfl) .n hw45 rfl rfl fun v49 I46 l50 hl47 hv48 => ?_
  obtain ⟨r51, rfl, rfl, hd⟩ := hv48
  have le52 := IH.le.trans le36 hl47
  refine .re (m' := [pto b27 (.cells #[.int .i64 r25.2.room, .slice p28 r25.2.row.length c29, .map (some b33), .map (some b35), .int .i64 r25.2.sent, .int .i64 r25.2.taken] 60 (0, 0)), OwnSl eI64 3 p28 c29 r25.2.row, OwnMap (Value.int .i64) eFrame true b33 r25.2.by_, OwnMap (Value.int .i64) eI64 false b35 r25.2.often]) rfl ?_
  refine .skips 1 rfl ?_
  refine .extract rfl rfl rfl rfl ?_
  refine .extract rfl rfl rfl rfl ?_
  refine .skips 2 rfl ?_
  refine .nil' fun c w ho hs => Cod.at (E := [(1, _), (2, _), (4, _)]) (ho.sub ⟨rfl, rfl, rfl, trivial⟩) hs ?_
  refine .seq ?_
  refine .region ?_
  refine .skips 1 rfl ?_
  refine .build Try.zeroValue34 Try.underlying34 BI34 (.c rfl rfl rfl (.s (.s (.s (.s (.s (.s (.s (.s (.s (.t .nil)))))))))) .n) (by exact ⟨⟨_, _, rfl, rfl, rfl⟩, trivial⟩) rfl rfl ?_
  have hw89 := W_post_Box_Send_i2 (I := I46) (o0 := r25.2) (a0 := ({ Kind := 0, From := 0, To := 0, Seq := 0, Round := 0, Vec := ({ N := 0, Items := ([] : List Item) } : Vec), Sums := ([] : List Sum), Triples := ([] : List Triple), N := 7, Over := false } : Frame)) (b2 := b27) (p3 := p28) (c4 := c29) (b8 := b33) (b10 := b35) (.nil _ none 0) (.nil _ none 0) (.nil _ none 0) hd
  refine .callS (.f Try.call7 rfl) (.c .z (.c .z (.c .z (.c .z .n)))) hw89 rfl rfl fun v93 I90 l94 hl91 hv92 => ?_
  obtain ⟨r95, p98, c99, rfl, rfl, hd⟩ := hv92
  have le106 := IH.le.trans le52 hl91
  refine .re (m' := [pto b27 (.cells #[.int .i64 r95.2.room, .slice p98 r95.2.row.length c99, .map (some b33), .map (some b35), .int .i64 r95.2.sent, .int .i64 r95.2.taken] 60 (0, 0)), OwnSl eI64 3 p98 c99 r95.2.row, OwnMap (Value.int .i64) eFrame true b33 r95.2.by_, OwnMap (Value.int .i64) eI64 false b35 r95.2.often]) rfl ?_
  refine .skips 1 rfl ?_
  refine .build Try.zeroValue34 Try.underlying34 BI34 (.c rfl rfl rfl (.s (.s (.s (.s (.s (.s (.s (.s (.s (.t .nil)))))))))) .n) (by exact ⟨⟨_, _, rfl, rfl, rfl⟩, trivial⟩) rfl rfl ?_
  have hw107 := W_post_Box_Send_i2 (I := I90) (o0 := r95.2) (a0 := ({ Kind := 0, From := 0, To := 0, Seq := 0, Round := 0, Vec := ({ N := 0, Items := ([] : List Item) } : Vec), Sums := ([] : List Sum), Triples := ([] : List Triple), N := 8, Over := false } : Frame)) (b2 := b27) (p3 := p98) (c4 := c99) (b8 := b33) (b10 := b35) (.nil _ none 0) (.nil _ none 0) (.nil _ none 0) hd
  refine .callS (.f Try.call7 rfl) (.c .z (.c .z (.c .z (.c .z .n)))) hw107 rfl rfl fun v111 I108 l112 hl109 hv110 => ?_
  obtain ⟨r113, p116, c117, rfl, rfl, hd⟩ := hv110
  have le124 := IH.le.trans le106 hl109
  refine .re (m' := [pto b27 (.cells #[.int .i64 r113.2.room, .slice p116 r113.2.row.length c117, .map (some b33), .map (some b35), .int .i64 r113.2.sent, .int .i64 r113.2.taken] 60 (0, 0)), OwnSl eI64 3 p116 c117 r113.2.row, OwnMap (Value.int .i64) eFrame true b33 r113.2.by_, OwnMap (Value.int .i64) eI64 false b35 r113.2.often]) rfl ?_
  refine .skips 2 rfl ?_
  refine .nil' fun c w ho hs => Cod.at (E := [(1, _), (2, _), (4, _), (5, _), (6, _)]) (ho.sub ⟨rfl, rfl, rfl, rfl, rfl, trivial⟩) hs ?_
  refine .seq ?_
  refine .region ?_
  refine .skips 1 rfl ?_
  refine .build Try.zeroValue34 Try.underlying34 BI34 (.c rfl rfl rfl (.s (.s (.s (.s (.s (.s (.s (.s (.s (.t .nil)))))))))) .n) (by exact ⟨⟨_, _, rfl, rfl, rfl⟩, trivial⟩) rfl rfl ?_
  have hw143 := W_post_Box_Send_i2 (I := I108) (o0 := r113.2) (a0 := ({ Kind := 0, From := 0, To := 0, Seq := 0, Round := 0, Vec := ({ N := 0, Items := ([] : List Item) } : Vec), Sums := ([] : List Sum), Triples := ([] : List Triple), N := 9, Over := false } : Frame)) (b2 := b27) (p3 := p116) (c4 := c117) (b8 := b33) (b10 := b35) (.nil _ none 0) (.nil _ none 0) (.nil _ none 0) hd
  refine .callS (.f Try.call7 rfl) (.c .z (.c .z (.c .z (.c .z .n)))) hw143 rfl rfl fun v147 I144 l148 hl145 hv146 => ?_
  obtain ⟨r149, p152, c153, rfl, rfl, hd⟩ := hv146
  have le160 := IH.le.trans le124 hl145
  refine .re (m' := [pto b27 (.cells #[.int .i64 r149.2.room, .slice p152 r149.2.row.length c153, .map (some b33), .map (some b35), .int .i64 r149.2.sent, .int .i64 r149.2.taken] 60 (0, 0)), OwnSl eI64 3 p152 c153 r149.2.row, OwnMap (Value.int .i64) eFrame true b33 r149.2.by_, OwnMap (Value.int .i64) eI64 false b35 r149.2.often]) rfl ?_
  refine .skips 1 rfl ?_
  refine .nil' fun c w ho hs => Cod.at (E := [(1, _), (2, _), (4, _), (5, _), (6, _), (7, _)]) (ho.sub ⟨rfl, rfl, rfl, rfl, rfl, rfl, trivial⟩) hs ?_
  refine .seq ?_
  refine .region ?_
  refine .skips 1 rfl ?_
  have hw190 := W_post_Box_Take_i5 (I := I144) (o0 := r149.2) (a0 := 1) (b2 := b27) (p3 := p152) (c4 := c153) (b8 := b33) (b10 := b35) hd
  refine .callS (.f Try.call9 rfl) (.c .z (.c .z (.c .z (.c .z .n)))) hw190 rfl rfl fun v194 I191 l195 hl192 hv193 => ?_
  obtain ⟨r196, p197, c198, p200, c201, p203, c204, p208, c209, rfl, R199, R202, R205, rfl, hd⟩ := hv193
  have le216 := IH.le.trans le160 hl192
  refine .re (m' := [pto b27 (.cells #[.int .i64 r196.2.2.2.room, .slice p208 r196.2.2.2.row.length c209, .map (some b33), .map (some b35), .int .i64 r196.2.2.2.sent, .int .i64 r196.2.2.2.taken] 60 (0, 0)), OwnSl eI64 3 p208 c209 r196.2.2.2.row, OwnMap (Value.int .i64) eFrame true b33 r196.2.2.2.by_, OwnMap (Value.int .i64) eI64 false b35 r196.2.2.2.often]) rfl ?_
  refine .skips 1 rfl ?_
  refine .extract rfl rfl rfl rfl ?_
  refine .extract rfl rfl rfl rfl ?_
  refine .extract rfl rfl rfl rfl ?_
  refine .allocA Try.zeroValue34 rfl rfl fun b217 => ?_
  refine .storeA Try.sizeOf34 rfl rfl .z (.t (.t (.t (.t (.t (.t (.t (.t (.t (.t (.t .nil))))))))))) rfl rfl ?_
  refine .skips 2 rfl ?_
  refine .nil' fun c w ho hs => Cod.at (E := [(1, _), (2, _), (4, _), (5, _), (6, _), (7, _), (9, _)]) (ho.sub ⟨rfl, rfl, rfl, rfl, rfl, rfl, rfl, trivial⟩) hs ?_
  refine .drop .z ?_
  refine .seq ?_
  refine .region ?_
  refine .skips 1 rfl ?_
  have hw248 := W_post_Box_Take_i5 (I := I191) (o0 := r196.2.2.2) (a0 := 0) (b2 := b27) (p3 := p208) (c4 := c209) (b8 := b33) (b10 := b35) hd
  refine .callS (.f Try.call9 rfl) (.c .z (.c .z (.c .z (.c .z .n)))) hw248 rfl rfl fun v252 I249 l253 hl250 hv251 => ?_
  obtain ⟨r254, p255, c256, p258, c259, p261, c262, p266, c267, rfl, R257, R260, R263, rfl, hd⟩ := hv251
  have le274 := IH.le.trans le216 hl250
  refine .re (m' := [pto b27 (.cells #[.int .i64 r254.2.2.2.room, .slice p266 r254.2.2.2.row.length c267, .map (some b33), .map (some b35), .int .i64 r254.2.2.2.sent, .int .i64 r254.2.2.2.taken] 60 (0, 0)), OwnSl eI64 3 p266 c267 r254.2.2.2.row, OwnMap (Value.int .i64) eFrame true b33 r254.2.2.2.by_, OwnMap (Value.int .i64) eI64 false b35 r254.2.2.2.often]) rfl ?_
  refine .skips 1 rfl ?_
  refine .extract rfl rfl rfl rfl ?_
  refine .extract rfl rfl rfl rfl ?_
  refine .extract rfl rfl rfl rfl ?_
  refine .allocA Try.zeroValue34 rfl rfl fun b275 => ?_
  refine .storeA Try.sizeOf34 rfl rfl .z (.t (.t (.t (.t (.t (.t (.t (.t (.t (.t (.t .nil))))))))))) rfl rfl ?_
  refine .skips 2 rfl ?_
  refine .nil' fun c w ho hs => Cod.at (E := [(1, _), (2, _), (4, _), (5, _), (6, _), (7, _), (9, _), (11, _), (12, _), (13, _)]) (ho.sub ⟨rfl, rfl, rfl, rfl, rfl, rfl, rfl, rfl, rfl, rfl, trivial⟩) hs ?_
  refine .seq ?_
  refine .region ?_
  refine .skips 1 rfl ?_
  have hw306 := W_post_Box_Take_i5 (I := I249) (o0 := r254.2.2.2) (a0 := 5) (b2 := b27) (p3 := p266) (c4 := c267) (b8 := b33) (b10 := b35) hd
  refine .callS (.f Try.call9 rfl) (.c (.s .z) (.c (.s .z) (.c (.s .z) (.c (.s .z) .n)))) hw306 rfl rfl fun v310 I307 l311 hl308 hv309 => ?_
  obtain ⟨r312, p313, c314, p316, c317, p319, c320, p324, c325, rfl, R315, R318, R321, rfl, hd⟩ := hv309
  have le332 := IH.le.trans le274 hl308
  replace R257 := R257.mono hl308
  replace R260 := R260.mono hl308
  replace R263 := R263.mono hl308
  refine .re (m' := [pto b27 (.cells #[.int .i64 r312.2.2.2.room, .slice p324 r312.2.2.2.row.length c325, .map (some b33), .map (some b35), .int .i64 r312.2.2.2.sent, .int .i64 r312.2.2.2.taken] 60 (0, 0)), OwnSl eI64 3 p324 c325 r312.2.2.2.row, OwnMap (Value.int .i64) eFrame true b33 r312.2.2.2.by_, OwnMap (Value.int .i64) eI64 false b35 r312.2.2.2.often, pto b275 (.cells #[.int .i64 r254.1.Kind, .int .i64 r254.1.From, .int .i64 r254.1.To, .int .i64 r254.1.Seq, .int .i64 r254.1.Round, .int .i64 r254.1.Vec.N, .slice p255 r254.1.Vec.Items.length c256, .slice p258 r254.1.Sums.length c259, .slice p261 r254.1.Triples.length c262, .int .i64 r254.1.N, .bool r254.1.Over] 34 (0, 0))]) rfl ?_
  refine .skips 1 rfl ?_
  refine .extract rfl rfl rfl rfl ?_
  refine .extract rfl rfl rfl rfl ?_
  refine .extract rfl rfl rfl rfl ?_
  refine .allocA Try.zeroValue34 rfl rfl fun b333 => ?_
  refine .storeA Try.sizeOf34 rfl rfl .z (.t (.t (.t (.t (.t (.t (.t (.t (.t (.t (.t .nil))))))))))) rfl rfl ?_
  refine .skips 2 rfl ?_
  refine .nil' fun c w ho hs => Cod.at (E := [(1, _), (2, _), (4, _), (5, _), (6, _), (7, _), (9, _), (11, _), (12, _), (13, _), (16, _)]) (ho.sub ⟨rfl, rfl, rfl, rfl, rfl, rfl, rfl, rfl, rfl, rfl, rfl, trivial⟩) hs ?_
  refine .drop .z ?_
  refine .seq ?_
  refine .region ?_
  refine .skips 2 rfl ?_
  have hw372 := W_post_Box_Oldest_i9 (I := I307) (o0 := r312.2.2.2) (b2 := b27) (p3 := p324) (c4 := c325) (b8 := b33) (b10 := b35) hd
  refine .callS (.f Try.call10 rfl) (.c .z (.c .z (.c .z (.c .z .n)))) hw372 rfl rfl fun v376 I373 l377 hl374 hv375 => ?_
  obtain ⟨r378, rfl, rfl, hd⟩ := hv375
  have le379 := IH.le.trans le332 hl374
  replace R257 := R257.mono hl374
  replace R260 := R260.mono hl374
  replace R263 := R263.mono hl374
  refine .re (m' := [pto b27 (.cells #[.int .i64 r312.2.2.2.room, .slice p324 r312.2.2.2.row.length c325, .map (some b33), .map (some b35), .int .i64 r312.2.2.2.sent, .int .i64 r312.2.2.2.taken] 60 (0, 0)), OwnSl eI64 3 p324 c325 r312.2.2.2.row, OwnMap (Value.int .i64) eFrame true b33 r312.2.2.2.by_, OwnMap (Value.int .i64) eI64 false b35 r312.2.2.2.often, pto b275 (.cells #[.int .i64 r254.1.Kind, .int .i64 r254.1.From, .int .i64 r254.1.To, .int .i64 r254.1.Seq, .int .i64 r254.1.Round, .int .i64 r254.1.Vec.N, .slice p255 r254.1.Vec.Items.length c256, .slice p258 r254.1.Sums.length c259, .slice p261 r254.1.Triples.length c262, .int .i64 r254.1.N, .bool r254.1.Over] 34 (0, 0))]) rfl ?_
  have hw380 := W_post_Box_Take_i5 (I := I373) (o0 := r312.2.2.2) (a0 := r378) (b2 := b27) (p3 := p324) (c4 := c325) (b8 := b33) (b10 := b35) hd
  refine .callS (.f Try.call9 rfl) (.c .z (.c .z (.c .z (.c .z .n)))) hw380 rfl rfl fun v384 I381 l385 hl382 hv383 => ?_
  obtain ⟨r386, p387, c388, p390, c391, p393, c394, p398, c399, rfl, R389, R392, R395, rfl, hd⟩ := hv383
  have le406 := IH.le.trans le379 hl382
  replace R257 := R257.mono hl382
  replace R260 := R260.mono hl382
  replace R263 := R263.mono hl382
  refine .re (m' := [pto b27 (.cells #[.int .i64 r386.2.2.2.room, .slice p398 r386.2.2.2.row.length c399, .map (some b33), .map (some b35), .int .i64 r386.2.2.2.sent, .int .i64 r386.2.2.2.taken] 60 (0, 0)), OwnSl eI64 3 p398 c399 r386.2.2.2.row, OwnMap (Value.int .i64) eFrame true b33 r386.2.2.2.by_, OwnMap (Value.int .i64) eI64 false b35 r386.2.2.2.often, pto b275 (.cells #[.int .i64 r254.1.Kind, .int .i64 r254.1.From, .int .i64 r254.1.To, .int .i64 r254.1.Seq, .int .i64 r254.1.Round, .int .i64 r254.1.Vec.N, .slice p255 r254.1.Vec.Items.length c256, .slice p258 r254.1.Sums.length c259, .slice p261 r254.1.Triples.length c262, .int .i64 r254.1.N, .bool r254.1.Over] 34 (0, 0))]) rfl ?_
  refine .skips 1 rfl ?_
  refine .extract rfl rfl rfl rfl ?_
  refine .extract rfl rfl rfl rfl ?_
  refine .extract rfl rfl rfl rfl ?_
  refine .allocA Try.zeroValue34 rfl rfl fun b407 => ?_
  refine .storeA Try.sizeOf34 rfl rfl .z (.t (.t (.t (.t (.t (.t (.t (.t (.t (.t (.t .nil))))))))))) rfl rfl ?_
  refine .skips 2 rfl ?_
  refine .nil' fun c w ho hs => Cod.at (E := [(1, _), (2, _), (4, _), (5, _), (6, _), (7, _), (9, _), (11, _), (12, _), (13, _), (16, _), (17, _), (18, _)]) (ho.sub ⟨rfl, rfl, rfl, rfl, rfl, rfl, rfl, rfl, rfl, rfl, rfl, rfl, rfl, trivial⟩) hs ?_
  refine .seq ?_
  refine .region ?_
  refine .skips 1 rfl ?_
  refine .eq rfl rfl rfl rfl ?_
  refine .skips 1 rfl ?_
  refine split (r25.1 == 0) (fun hb409 => ?_) (fun hb409 => ?_)
  · have hd := hd.1 hb409
    rw [hb409]
    refine .gyes rfl rfl rfl (.move rfl rfl rfl ?_)
    refine .gyes rfl rfl rfl (.eq rfl rfl rfl rfl ?_)
    refine .skips 2 rfl ?_
    refine split (r51 == 3) (fun hb410 => ?_) (fun hb410 => ?_)
    · have hd := hd.1 hb410
      rw [hb410]
      refine .gyes rfl rfl rfl (.move rfl rfl rfl ?_)
      refine .gyes rfl rfl rfl (.eq rfl rfl rfl rfl ?_)
      refine .skips 2 rfl ?_
      refine split (r95.1 == 0) (fun hb411 => ?_) (fun hb411 => ?_)
      · have hd := hd.1 hb411
        rw [hb411]
        refine .gyes rfl rfl rfl (.move rfl rfl rfl ?_)
        refine .gyes rfl rfl rfl (.eq rfl rfl rfl rfl ?_)
        refine .skips 2 rfl ?_
        refine split (r113.1 == 0) (fun hb412 => ?_) (fun hb412 => ?_)
        · have hd := hd.1 hb412
          rw [hb412]
          refine .gyes rfl rfl rfl (.move rfl rfl rfl ?_)
          refine .gyes rfl rfl rfl (.eq rfl rfl rfl rfl ?_)
          refine .skips 2 rfl ?_
          refine split (r149.1 == 9) (fun hb413 => ?_) (fun hb413 => ?_)
          · have hd := hd.1 hb413
            rw [hb413]
            refine .gyes rfl rfl rfl (.move rfl rfl rfl ?_)
            refine .gyes rfl rfl rfl (.not rfl rfl rfl ?_)
            refine .skips 2 rfl ?_
            refine split (!r196.2.1) (fun hb414 => ?_) (fun hb414 => ?_)
            · have hd := hd.1 hb414
              rw [hb414]
              refine .gyes rfl rfl rfl (.move rfl rfl rfl ?_)
              refine .skips 2 rfl ?_
              refine split r254.2.1 (fun hb415 => ?_) (fun hb415 => ?_)
              · have hd := hd.1 hb415
                rw [hb415]
                refine .gyes rfl rfl rfl (.move rfl rfl rfl ?_)
                refine .gyes rfl rfl rfl (.eq rfl rfl rfl rfl ?_)
                refine .skips 2 rfl ?_
                refine split (r254.2.2.1 == 0) (fun hb416 => ?_) (fun hb416 => ?_)
                · have hd := hd.1 hb416
                  rw [hb416]
                  refine .gyes rfl rfl rfl (.fieldAddr Try.underlying34 rfl Try.sizeOf2 rfl (o := 9) rfl rfl rfl ?_)
                  refine .gyes rfl rfl rfl (.load1 Try.isAgg2 rfl (.s (.s (.s (.s (.s .z))))) rfl rfl rfl ?_)
                  refine .gyes rfl rfl rfl (.eq rfl rfl rfl rfl ?_)
                  refine .skips 2 rfl ?_
                  refine split (r254.1.N == 7) (fun hb417 => ?_) (fun hb417 => ?_)
                  · have hd := hd.1 hb417
                    rw [hb417]
                    refine .gyes rfl rfl rfl (.move rfl rfl rfl ?_)
                    refine .skips 2 rfl ?_
                    refine split r386.2.1 (fun hb418 => ?_) (fun hb418 => ?_)
                    · have hd := hd.1 hb418
                      rw [hb418]
                      refine .gyes rfl rfl rfl (.fieldAddr Try.underlying34 rfl Try.sizeOf2 rfl (o := 9) rfl rfl rfl ?_)
                      refine .gyes rfl rfl rfl (.load1 Try.isAgg2 rfl .z rfl rfl rfl ?_)
                      refine .gyes rfl rfl rfl (.eq rfl rfl rfl rfl ?_)
                      refine .skips 2 rfl ?_
                      refine split (r386.1.N == 8) (fun hb419 => ?_) (fun hb419 => ?_)
                      · have hd := hd.1 hb419
                        rw [hb419]
                        refine .gyes rfl rfl rfl (.fieldAddr Try.underlying34 rfl Try.sizeOf3 rfl (o := 3) rfl rfl rfl ?_)
                        refine .gyes rfl rfl rfl (.load1 Try.isAgg3 rfl .z rfl rfl rfl ?_)
                        refine .gyes rfl rfl rfl (.eq rfl rfl rfl rfl ?_)
                        refine .skips 2 rfl ?_
                        refine split (r386.1.Seq == 1) (fun hb420 => ?_) (fun hb420 => ?_)
                        · have hd := hd.1 hb420
                          rw [hb420]
                          refine .gyes rfl rfl rfl (.move rfl rfl rfl ?_)
                          refine .gyes rfl rfl rfl (.eq rfl rfl rfl rfl ?_)
                          refine .skips 2 rfl ?_
                          refine split (r312.2.2.1 == 3) (fun hb421 => ?_) (fun hb421 => ?_)
                          · have hd := hd.1 hb421
                            rw [hb421]
                            refine .gyes rfl rfl rfl (.move rfl rfl rfl ?_)
                            have hw422 := W_post_Box_Len_i10 (I := I381) (o0 := r386.2.2.2) (b2 := b27) (p3 := p398) (c4 := c399) (b8 := b33) (b10 := b35) hd
                            refine .gyes rfl rfl rfl (.callS (.f Try.call12 rfl) (.c (.s .z) (.c (.s .z) (.c (.s .z) (.c (.s .z) .n)))) hw422 rfl rfl fun v426 I423 l427 hl424 hv425 => ?_)
                            obtain ⟨r428, rfl, rfl, hd⟩ := hv425
                            have le429 := IH.le.trans le406 hl424
                            replace R257 := R257.mono hl424
                            replace R260 := R260.mono hl424
                            replace R263 := R263.mono hl424
                            replace R389 := R389.mono hl424
                            replace R392 := R392.mono hl424
                            replace R395 := R395.mono hl424
                            refine .re (m' := [pto b27 (.cells #[.int .i64 r386.2.2.2.room, .slice p398 r386.2.2.2.row.length c399, .map (some b33), .map (some b35), .int .i64 r386.2.2.2.sent, .int .i64 r386.2.2.2.taken] 60 (0, 0)), OwnSl eI64 3 p398 c399 r386.2.2.2.row, OwnMap (Value.int .i64) eFrame true b33 r386.2.2.2.by_, OwnMap (Value.int .i64) eI64 false b35 r386.2.2.2.often, pto b407 (.cells #[.int .i64 r386.1.Kind, .int .i64 r386.1.From, .int .i64 r386.1.To, .int .i64 r386.1.Seq, .int .i64 r386.1.Round, .int .i64 r386.1.Vec.N, .slice p387 r386.1.Vec.Items.length c388, .slice p390 r386.1.Sums.length c391, .slice p393 r386.1.Triples.length c394, .int .i64 r386.1.N, .bool r386.1.Over] 34 (0, 0)), pto b275 (.cells #[.int .i64 r254.1.Kind, .int .i64 r254.1.From, .int .i64 r254.1.To, .int .i64 r254.1.Seq, .int .i64 r254.1.Round, .int .i64 r254.1.Vec.N, .slice p255 r254.1.Vec.Items.length c256, .slice p258 r254.1.Sums.length c259, .slice p261 r254.1.Triples.length c262, .int .i64 r254.1.N, .bool r254.1.Over] 34 (0, 0))]) rfl ?_
                            refine .gyes rfl rfl rfl (.eq rfl rfl rfl rfl ?_)
                            refine .skips 2 rfl ?_
                            refine split (r428 == 0) (fun hb430 => ?_) (fun hb430 => ?_)
                            · have hd := hd.1 hb430
                              rw [hb430]
                              refine .gyes rfl rfl rfl (.move rfl rfl rfl ?_)
                              have hw431 := W_post_Box_Room_i13 (I := I423) (o0 := r386.2.2.2) (b2 := b27) (p3 := p398) (c4 := c399) (b8 := b33) (b10 := b35) hd
                              refine .gyes rfl rfl rfl (.callS (.f Try.call16 rfl) (.c .z (.c .z (.c .z (.c .z .n)))) hw431 rfl rfl fun v435 I432 l436 hl433 hv434 => ?_)
                              obtain ⟨r437, rfl, rfl, hd⟩ := hv434
                              have le438 := IH.le.trans le429 hl433
                              replace R257 := R257.mono hl433
                              replace R260 := R260.mono hl433
                              replace R263 := R263.mono hl433
                              replace R389 := R389.mono hl433
                              replace R392 := R392.mono hl433
                              replace R395 := R395.mono hl433
                              refine .re (m' := [pto b27 (.cells #[.int .i64 r386.2.2.2.room, .slice p398 r386.2.2.2.row.length c399, .map (some b33), .map (some b35), .int .i64 r386.2.2.2.sent, .int .i64 r386.2.2.2.taken] 60 (0, 0)), OwnSl eI64 3 p398 c399 r386.2.2.2.row, OwnMap (Value.int .i64) eFrame true b33 r386.2.2.2.by_, OwnMap (Value.int .i64) eI64 false b35 r386.2.2.2.often, pto b407 (.cells #[.int .i64 r386.1.Kind, .int .i64 r386.1.From, .int .i64 r386.1.To, .int .i64 r386.1.Seq, .int .i64 r386.1.Round, .int .i64 r386.1.Vec.N, .slice p387 r386.1.Vec.Items.length c388, .slice p390 r386.1.Sums.length c391, .slice p393 r386.1.Triples.length c394, .int .i64 r386.1.N, .bool r386.1.Over] 34 (0, 0)), pto b275 (.cells #[.int .i64 r254.1.Kind, .int .i64 r254.1.From, .int .i64 r254.1.To, .int .i64 r254.1.Seq, .int .i64 r254.1.Round, .int .i64 r254.1.Vec.N, .slice p255 r254.1.Vec.Items.length c256, .slice p258 r254.1.Sums.length c259, .slice p261 r254.1.Triples.length c262, .int .i64 r254.1.N, .bool r254.1.Over] 34 (0, 0))]) rfl ?_
                              refine .gyes rfl rfl rfl (.eq rfl rfl rfl rfl ?_)
                              refine .skips 2 rfl ?_
                              refine split (r437 == 2) (fun hb439 => ?_) (fun hb439 => ?_)
                              · have hd := hd.1 hb439
                                rw [hb439]
                                refine .gyes rfl rfl rfl (.move rfl rfl rfl ?_)
                                have hw440 := W_post_Box_Sent_i14 (I := I432) (o0 := r386.2.2.2) (b2 := b27) (p3 := p398) (c4 := c399) (b8 := b33) (b10 := b35) hd
                                refine .gyes rfl rfl rfl (.callS (.f Try.call13 rfl) (.c .z (.c .z (.c .z (.c .z .n)))) hw440 rfl rfl fun v444 I441 l445 hl442 hv443 => ?_)
                                obtain ⟨r446, rfl, rfl, hd⟩ := hv443
                                have le447 := IH.le.trans le438 hl442
                                replace R257 := R257.mono hl442
                                replace R260 := R260.mono hl442
                                replace R263 := R263.mono hl442
                                replace R389 := R389.mono hl442
                                replace R392 := R392.mono hl442
                                replace R395 := R395.mono hl442
                                refine .re (m' := [pto b27 (.cells #[.int .i64 r386.2.2.2.room, .slice p398 r386.2.2.2.row.length c399, .map (some b33), .map (some b35), .int .i64 r386.2.2.2.sent, .int .i64 r386.2.2.2.taken] 60 (0, 0)), OwnSl eI64 3 p398 c399 r386.2.2.2.row, OwnMap (Value.int .i64) eFrame true b33 r386.2.2.2.by_, OwnMap (Value.int .i64) eI64 false b35 r386.2.2.2.often, pto b407 (.cells #[.int .i64 r386.1.Kind, .int .i64 r386.1.From, .int .i64 r386.1.To, .int .i64 r386.1.Seq, .int .i64 r386.1.Round, .int .i64 r386.1.Vec.N, .slice p387 r386.1.Vec.Items.length c388, .slice p390 r386.1.Sums.length c391, .slice p393 r386.1.Triples.length c394, .int .i64 r386.1.N, .bool r386.1.Over] 34 (0, 0)), pto b275 (.cells #[.int .i64 r254.1.Kind, .int .i64 r254.1.From, .int .i64 r254.1.To, .int .i64 r254.1.Seq, .int .i64 r254.1.Round, .int .i64 r254.1.Vec.N, .slice p255 r254.1.Vec.Items.length c256, .slice p258 r254.1.Sums.length c259, .slice p261 r254.1.Triples.length c262, .int .i64 r254.1.N, .bool r254.1.Over] 34 (0, 0))]) rfl ?_
                                refine .gyes rfl rfl rfl (.eq rfl rfl rfl rfl ?_)
                                refine .skips 2 rfl ?_
                                refine split (r446 == 2) (fun hb448 => ?_) (fun hb448 => ?_)
                                · have hd := hd.1 hb448
                                  rw [hb448]
                                  refine .gyes rfl rfl rfl (.move rfl rfl rfl ?_)
                                  have hw449 := W_post_Box_Taken_i15 (I := I441) (o0 := r386.2.2.2) (b2 := b27) (p3 := p398) (c4 := c399) (b8 := b33) (b10 := b35) hd
                                  refine .gyes rfl rfl rfl (.callS (.f Try.call17 rfl) (.c .z (.c .z (.c .z (.c .z .n)))) hw449 rfl rfl fun v453 I450 l454 hl451 hv452 => ?_)
                                  obtain ⟨r455, rfl, rfl, hd⟩ := hv452
                                  have le456 := IH.le.trans le447 hl451
                                  replace R257 := R257.mono hl451
                                  replace R260 := R260.mono hl451
                                  replace R263 := R263.mono hl451
                                  replace R389 := R389.mono hl451
                                  replace R392 := R392.mono hl451
                                  replace R395 := R395.mono hl451
                                  refine .re (m' := [pto b27 (.cells #[.int .i64 r386.2.2.2.room, .slice p398 r386.2.2.2.row.length c399, .map (some b33), .map (some b35), .int .i64 r386.2.2.2.sent, .int .i64 r386.2.2.2.taken] 60 (0, 0)), OwnSl eI64 3 p398 c399 r386.2.2.2.row, OwnMap (Value.int .i64) eFrame true b33 r386.2.2.2.by_, OwnMap (Value.int .i64) eI64 false b35 r386.2.2.2.often, pto b407 (.cells #[.int .i64 r386.1.Kind, .int .i64 r386.1.From, .int .i64 r386.1.To, .int .i64 r386.1.Seq, .int .i64 r386.1.Round, .int .i64 r386.1.Vec.N, .slice p387 r386.1.Vec.Items.length c388, .slice p390 r386.1.Sums.length c391, .slice p393 r386.1.Triples.length c394, .int .i64 r386.1.N, .bool r386.1.Over] 34 (0, 0)), pto b275 (.cells #[.int .i64 r254.1.Kind, .int .i64 r254.1.From, .int .i64 r254.1.To, .int .i64 r254.1.Seq, .int .i64 r254.1.Round, .int .i64 r254.1.Vec.N, .slice p255 r254.1.Vec.Items.length c256, .slice p258 r254.1.Sums.length c259, .slice p261 r254.1.Triples.length c262, .int .i64 r254.1.N, .bool r254.1.Over] 34 (0, 0))]) rfl ?_
                                  refine .gyes rfl rfl rfl (.eq rfl rfl rfl rfl ?_)
                                  refine .skips 2 rfl ?_
                                  refine split (r455 == 2) (fun hb457 => ?_) (fun hb457 => ?_)
                                  · have hd := hd.1 hb457
                                    rw [hb457]
                                    refine .gyes rfl rfl rfl (.move rfl rfl rfl ?_)
                                    have hw458 := W_post_Box_Oldest_i9 (I := I450) (o0 := r386.2.2.2) (b2 := b27) (p3 := p398) (c4 := c399) (b8 := b33) (b10 := b35) hd
                                    refine .gyes rfl rfl rfl (.callS (.f Try.call10 rfl) (.c .z (.c .z (.c .z (.c .z .n)))) hw458 rfl rfl fun v462 I459 l463 hl460 hv461 => ?_)
                                    obtain ⟨r464, rfl, rfl, hd⟩ := hv461
                                    have le465 := IH.le.trans le456 hl460
                                    replace R257 := R257.mono hl460
                                    replace R260 := R260.mono hl460
                                    replace R263 := R263.mono hl460
                                    replace R389 := R389.mono hl460
                                    replace R392 := R392.mono hl460
                                    replace R395 := R395.mono hl460
                                    refine .re (m' := [pto b27 (.cells #[.int .i64 r386.2.2.2.room, .slice p398 r386.2.2.2.row.length c399, .map (some b33), .map (some b35), .int .i64 r386.2.2.2.sent, .int .i64 r386.2.2.2.taken] 60 (0, 0)), OwnSl eI64 3 p398 c399 r386.2.2.2.row, OwnMap (Value.int .i64) eFrame true b33 r386.2.2.2.by_, OwnMap (Value.int .i64) eI64 false b35 r386.2.2.2.often, pto b407 (.cells #[.int .i64 r386.1.Kind, .int .i64 r386.1.From, .int .i64 r386.1.To, .int .i64 r386.1.Seq, .int .i64 r386.1.Round, .int .i64 r386.1.Vec.N, .slice p387 r386.1.Vec.Items.length c388, .slice p390 r386.1.Sums.length c391, .slice p393 r386.1.Triples.length c394, .int .i64 r386.1.N, .bool r386.1.Over] 34 (0, 0)), pto b275 (.cells #[.int .i64 r254.1.Kind, .int .i64 r254.1.From, .int .i64 r254.1.To, .int .i64 r254.1.Seq, .int .i64 r254.1.Round, .int .i64 r254.1.Vec.N, .slice p255 r254.1.Vec.Items.length c256, .slice p258 r254.1.Sums.length c259, .slice p261 r254.1.Triples.length c262, .int .i64 r254.1.N, .bool r254.1.Over] 34 (0, 0))]) rfl ?_
                                    refine .gyes rfl rfl rfl (.eq rfl rfl rfl rfl ?_)
                                    refine .skips 2 rfl ?_
                                    refine split (r464 == (-1)) (fun hb466 => ?_) (fun hb466 => ?_)
                                    · have hd := hd.1 hb466
                                      rw [hb466]
                                      refine .gyes rfl rfl rfl (.move rfl rfl rfl ?_)
                                      have hw467 := W_post_Box_Frames_i16 (I := I459) (o0 := r386.2.2.2) (b2 := b27) (p3 := p398) (c4 := c399) (b8 := b33) (b10 := b35) hd
                                      refine .gyes rfl rfl rfl (.callS (.f Try.call18 rfl) (.c .z (.c .z (.c .z (.c .z .n)))) hw467 rfl rfl fun v471 I468 l472 hl469 hv470 => ?_)
                                      obtain ⟨r473, p474, c475, rfl, R476, rfl, hd⟩ := hv470
                                      have le477 := IH.le.trans le465 hl469
                                      replace R257 := R257.mono hl469
                                      replace R260 := R260.mono hl469
                                      replace R263 := R263.mono hl469
                                      replace R389 := R389.mono hl469
                                      replace R392 := R392.mono hl469
                                      replace R395 := R395.mono hl469
                                      refine .re (m' := [pto b27 (.cells #[.int .i64 r386.2.2.2.room, .slice p398 r386.2.2.2.row.length c399, .map (some b33), .map (some b35), .int .i64 r386.2.2.2.sent, .int .i64 r386.2.2.2.taken] 60 (0, 0)), OwnSl eI64 3 p398 c399 r386.2.2.2.row, OwnMap (Value.int .i64) eFrame true b33 r386.2.2.2.by_, OwnMap (Value.int .i64) eI64 false b35 r386.2.2.2.often, pto b407 (.cells #[.int .i64 r386.1.Kind, .int .i64 r386.1.From, .int .i64 r386.1.To, .int .i64 r386.1.Seq, .int .i64 r386.1.Round, .int .i64 r386.1.Vec.N, .slice p387 r386.1.Vec.Items.length c388, .slice p390 r386.1.Sums.length c391, .slice p393 r386.1.Triples.length c394, .int .i64 r386.1.N, .bool r386.1.Over] 34 (0, 0)), pto b275 (.cells #[.int .i64 r254.1.Kind, .int .i64 r254.1.From, .int .i64 r254.1.To, .int .i64 r254.1.Seq, .int .i64 r254.1.Round, .int .i64 r254.1.Vec.N, .slice p255 r254.1.Vec.Items.length c256, .slice p258 r254.1.Sums.length c259, .slice p261 r254.1.Triples.length c262, .int .i64 r254.1.N, .bool r254.1.Over] 34 (0, 0))]) rfl ?_
                                      refine .gyes rfl rfl rfl (.len Try.underlying45 rfl rfl rfl rfl ?_)
                                      refine .gyes rfl rfl rfl (.eq rfl rfl rfl rfl ?_)
                                      refine .skips 2 rfl ?_
                                      refine .nil' fun c w ho hs => Cod.at (E := [(0, _)]) (ho.sub ⟨rfl, trivial⟩) hs ?_
                                      refine .drop .z ?_
                                      refine .drop .z ?_
                                      refine .drop .z ?_
                                      refine .drop .z ?_
                                      refine .drop .z ?_
                                      refine .drop .z ?_
                                      exact .ret (pret Try.results11 (.t rfl .n) le477 ⟨((r473.length : Int) == 0), rfl, hd⟩)
                                    · have hd := hd.2 hb466
                                      rw [hb466]
                                      refine .skips 6 rfl ?_
                                      refine .nil' fun c w ho hs => Cod.at (E := [(0, _)]) (ho.sub ⟨rfl, trivial⟩) hs ?_
                                      refine .drop .z ?_
                                      refine .drop .z ?_
                                      refine .drop .z ?_
                                      refine .drop .z ?_
                                      refine .drop .z ?_
                                      refine .drop .z ?_
                                      exact .ret (pret Try.results11 (.t rfl .n) le465 ⟨false, rfl, hd⟩)
                                  · have hd := hd.2 hb457
                                    rw [hb457]
                                    refine .skips 11 rfl ?_
                                    refine .nil' fun c w ho hs => Cod.at (E := [(0, _)]) (ho.sub ⟨rfl, trivial⟩) hs ?_
                                    refine .drop .z ?_
                                    refine .drop .z ?_
                                    refine .drop .z ?_
                                    refine .drop .z ?_
                                    refine .drop .z ?_
                                    refine .drop .z ?_
                                    exact .ret (pret Try.results11 (.t rfl .n) le456 ⟨false, rfl, hd⟩)
                                · have hd := hd.2 hb448
                                  rw [hb448]
                                  refine .skips 16 rfl ?_
                                  refine .nil' fun c w ho hs => Cod.at (E := [(0, _)]) (ho.sub ⟨rfl, trivial⟩) hs ?_
                                  refine .drop .z ?_
                                  refine .drop .z ?_
                                  refine .drop .z ?_
                                  refine .drop .z ?_
                                  refine .drop .z ?_
                                  refine .drop .z ?_
                                  exact .ret (pret Try.results11 (.t rfl .n) le447 ⟨false, rfl, hd⟩)
                              · have hd := hd.2 hb439
                                rw [hb439]
                                refine .skips 21 rfl ?_
                                refine .nil' fun c w ho hs => Cod.at (E := [(0, _)]) (ho.sub ⟨rfl, trivial⟩) hs ?_
                                refine .drop .z ?_
                                refine .drop .z ?_
                                refine .drop .z ?_
                                refine .drop .z ?_
                                refine .drop .z ?_
                                refine .drop .z ?_
                                exact .ret (pret Try.results11 (.t rfl .n) le438 ⟨false, rfl, hd⟩)
                            · have hd := hd.2 hb430
                              rw [hb430]
                              refine .skips 26 rfl ?_
                              refine .nil' fun c w ho hs => Cod.at (E := [(0, _)]) (ho.sub ⟨rfl, trivial⟩) hs ?_
                              refine .drop .z ?_
                              refine .drop .z ?_
                              refine .drop .z ?_
                              refine .drop .z ?_
                              refine .drop .z ?_
                              refine .drop .z ?_
                              exact .ret (pret Try.results11 (.t rfl .n) le429 ⟨false, rfl, hd⟩)
                          · have hd := hd.2 hb421
                            rw [hb421]
                            refine .skips 31 rfl ?_
                            refine .nil' fun c w ho hs => Cod.at (E := [(0, _)]) (ho.sub ⟨rfl, trivial⟩) hs ?_
                            refine .drop .z ?_
                            refine .drop .z ?_
                            refine .drop .z ?_
                            refine .drop .z ?_
                            refine .drop .z ?_
                            refine .drop .z ?_
                            exact .ret (pret Try.results11 (.t rfl .n) le406 ⟨false, rfl, hd⟩)
                        · have hd := hd.2 hb420
                          rw [hb420]
                          refine .skips 35 rfl ?_
                          refine .nil' fun c w ho hs => Cod.at (E := [(0, _)]) (ho.sub ⟨rfl, trivial⟩) hs ?_
                          refine .drop .z ?_
                          refine .drop .z ?_
                          refine .drop .z ?_
                          refine .drop .z ?_
                          refine .drop .z ?_
                          refine .drop .z ?_
                          exact .ret (pret Try.results11 (.t rfl .n) le406 ⟨false, rfl, hd⟩)
                      · have hd := hd.2 hb419
                        rw [hb419]
                        refine .skips 40 rfl ?_
                        refine .nil' fun c w ho hs => Cod.at (E := [(0, _)]) (ho.sub ⟨rfl, trivial⟩) hs ?_
                        refine .drop .z ?_
                        refine .drop .z ?_
                        refine .drop .z ?_
                        refine .drop .z ?_
                        refine .drop .z ?_
                        refine .drop .z ?_
                        exact .ret (pret Try.results11 (.t rfl .n) le406 ⟨false, rfl, hd⟩)
                    · have hd := hd.2 hb418
                      rw [hb418]
                      refine .skips 45 rfl ?_
                      refine .nil' fun c w ho hs => Cod.at (E := [(0, _)]) (ho.sub ⟨rfl, trivial⟩) hs ?_
                      refine .drop .z ?_
                      refine .drop .z ?_
                      refine .drop .z ?_
                      refine .drop .z ?_
                      refine .drop .z ?_
                      refine .drop .z ?_
                      exact .ret (pret Try.results11 (.t rfl .n) le406 ⟨false, rfl, hd⟩)
                  · have hd := hd.2 hb417
                    rw [hb417]
                    refine .skips 48 rfl ?_
                    refine .nil' fun c w ho hs => Cod.at (E := [(0, _)]) (ho.sub ⟨rfl, trivial⟩) hs ?_
                    refine .drop .z ?_
                    refine .drop .z ?_
                    refine .drop .z ?_
                    refine .drop .z ?_
                    refine .drop .z ?_
                    refine .drop .z ?_
                    exact .ret (pret Try.results11 (.t rfl .n) le406 ⟨false, rfl, hd⟩)
                · have hd := hd.2 hb416
                  rw [hb416]
                  refine .skips 53 rfl ?_
                  refine .nil' fun c w ho hs => Cod.at (E := [(0, _)]) (ho.sub ⟨rfl, trivial⟩) hs ?_
                  refine .drop .z ?_
                  refine .drop .z ?_
                  refine .drop .z ?_
                  refine .drop .z ?_
                  refine .drop .z ?_
                  refine .drop .z ?_
                  exact .ret (pret Try.results11 (.t rfl .n) le406 ⟨false, rfl, hd⟩)
              · have hd := hd.2 hb415
                rw [hb415]
                refine .skips 57 rfl ?_
                refine .nil' fun c w ho hs => Cod.at (E := [(0, _)]) (ho.sub ⟨rfl, trivial⟩) hs ?_
                refine .drop .z ?_
                refine .drop .z ?_
                refine .drop .z ?_
                refine .drop .z ?_
                refine .drop .z ?_
                refine .drop .z ?_
                exact .ret (pret Try.results11 (.t rfl .n) le406 ⟨false, rfl, hd⟩)
            · have hd := hd.2 hb414
              rw [hb414]
              refine .skips 60 rfl ?_
              refine .nil' fun c w ho hs => Cod.at (E := [(0, _)]) (ho.sub ⟨rfl, trivial⟩) hs ?_
              refine .drop .z ?_
              refine .drop .z ?_
              refine .drop .z ?_
              refine .drop .z ?_
              refine .drop .z ?_
              refine .drop .z ?_
              exact .ret (pret Try.results11 (.t rfl .n) le406 ⟨false, rfl, hd⟩)
          · have hd := hd.2 hb413
            rw [hb413]
            refine .skips 64 rfl ?_
            refine .nil' fun c w ho hs => Cod.at (E := [(0, _)]) (ho.sub ⟨rfl, trivial⟩) hs ?_
            refine .drop .z ?_
            refine .drop .z ?_
            refine .drop .z ?_
            refine .drop .z ?_
            refine .drop .z ?_
            refine .drop .z ?_
            exact .ret (pret Try.results11 (.t rfl .n) le406 ⟨false, rfl, hd⟩)
        · have hd := hd.2 hb412
          rw [hb412]
          refine .skips 68 rfl ?_
          refine .nil' fun c w ho hs => Cod.at (E := [(0, _)]) (ho.sub ⟨rfl, trivial⟩) hs ?_
          refine .drop .z ?_
          refine .drop .z ?_
          refine .drop .z ?_
          refine .drop .z ?_
          refine .drop .z ?_
          refine .drop .z ?_
          exact .ret (pret Try.results11 (.t rfl .n) le406 ⟨false, rfl, hd⟩)
      · have hd := hd.2 hb411
        rw [hb411]
        refine .skips 72 rfl ?_
        refine .nil' fun c w ho hs => Cod.at (E := [(0, _)]) (ho.sub ⟨rfl, trivial⟩) hs ?_
        refine .drop .z ?_
        refine .drop .z ?_
        refine .drop .z ?_
        refine .drop .z ?_
        refine .drop .z ?_
        refine .drop .z ?_
        exact .ret (pret Try.results11 (.t rfl .n) le406 ⟨false, rfl, hd⟩)
    · have hd := hd.2 hb410
      rw [hb410]
      refine .skips 76 rfl ?_
      refine .nil' fun c w ho hs => Cod.at (E := [(0, _)]) (ho.sub ⟨rfl, trivial⟩) hs ?_
      refine .drop .z ?_
      refine .drop .z ?_
      refine .drop .z ?_
      refine .drop .z ?_
      refine .drop .z ?_
      refine .drop .z ?_
      exact .ret (pret Try.results11 (.t rfl .n) le406 ⟨false, rfl, hd⟩)
  · have hd := hd.2 hb409
    rw [hb409]
    refine .skips 80 rfl ?_
    refine .nil' fun c w ho hs => Cod.at (E := [(0, _)]) (ho.sub ⟨rfl, trivial⟩) hs ?_
    refine .drop .z ?_
    refine .drop .z ?_
    refine .drop .z ?_
    refine .drop .z ?_
    refine .drop .z ?_
    refine .drop .z ?_
    exact .ret (pret Try.results11 (.t rfl .n) le406 ⟨false, rfl, hd⟩)

theorem W_post_New_i17 {I : IH} {a0 : Int}  {Q0 : Int → Prop} {Q1 : (Int × Post_Box) → Prop}  (hd : post_New_i17 a0 Q0 Q1) :
    Fun Try.prog 6 #[.int .i64 a0] I [] (fun I_ v l => (∃ r, v = .tuple #[.pointer none, .int .i64 r] ∧ l = [] ∧ Q0 r) ∨ (∃ r b1 p2 c3 b7 b9, v = .tuple #[.pointer (some ⟨b1, 0, none⟩), .int .i64 r.1] ∧ l = [pto b1 (.cells #[.int .i64 r.2.room, .slice p2 r.2.row.length c3, .map (some b7), .map (some b9), .int .i64 r.2.sent, .int .i64 r.2.taken] 60 (0, 0)), OwnSl eI64 3 p2 c3 r.2.row, OwnMap (Value.int .i64) eFrame true b7 r.2.by_, OwnMap (Value.int .i64) eI64 false b9 r.2.often] ∧ Q1 r)) := by
  refine Fun.enter (vs := [.int .i64 a0]) Try.func6 rfl Try.ntmps6 rfl (.c .n) fun w0 M => ?_
  refine .seq ?_
  refine .region ?_
  refine .skips 2 rfl ?_
  refine .nil' fun c w ho hs => Cod.at (E := [(0, _)]) (ho.sub ⟨rfl, trivial⟩) hs ?_
  refine .seq ?_
  refine .seq ?_
  refine .region ?_
  refine .skips 1 rfl ?_
  refine .lt rfl rfl rfl rfl ?_
  refine .skips 1 rfl ?_
  refine split (decide (a0 < 1)) (fun hb1 => ?_) (fun hb1 => ?_)
  · have hd := hd.1 hb1
    rw [hb1]
    refine .skips 3 rfl ?_
    refine .nil' fun c w ho hs => Cod.at (E := [(0, _), (9, _)]) (ho.sub ⟨rfl, rfl, trivial⟩) hs ?_
    refine .condKT rfl rfl ?_
    refine .seq ?_
    refine .region ?_
    refine .skips 2 rfl ?_
    refine .nil' fun c w ho hs => Cod.at (E := [(2, _), (3, _)]) (ho.sub ⟨rfl, rfl, trivial⟩) hs ?_
    exact .ret (oret Try.results6 (.t rfl (.t rfl .n)) (.refl _) .n (.inl ⟨3, rfl, rfl, hd⟩))
  · have hd := hd.2 hb1
    rw [hb1]
    refine .gyes rfl rfl rfl (.move rfl rfl rfl ?_)
    refine .gyes rfl rfl rfl (.gt rfl rfl rfl rfl ?_)
    refine .skips 1 rfl ?_
    refine .nil' fun c w ho hs => Cod.at (E := [(0, _), (9, _)]) (ho.sub ⟨rfl, rfl, trivial⟩) hs ?_
    refine .cond rfl (fun hb2 => ?_) (fun hb2 => ?_)
    · have hd := hd.1 hb2
      refine .seq ?_
      refine .region ?_
      refine .skips 2 rfl ?_
      refine .nil' fun c w ho hs => Cod.at (E := [(2, _), (3, _)]) (ho.sub ⟨rfl, rfl, trivial⟩) hs ?_
      exact .ret (oret Try.results6 (.t rfl (.t rfl .n)) (.refl _) .n (.inl ⟨3, rfl, rfl, hd⟩))
    · have hd := hd.2 hb2
      refine .skip' fun c w ho hs => Cod.at (E := [(0, _)]) (ho.sub ⟨rfl, trivial⟩) hs ?_
      refine .seq ?_
      refine .region ?_
      refine .skips 1 rfl ?_
      refine .mkMap (Value.int .i64) eFrame true rfl rfl fun b3 => ?_
      refine .mkMap (Value.int .i64) eI64 false rfl rfl fun b5 => ?_
      refine .build Try.zeroValue60 Try.underlying60 BI60 (.c rfl rfl rfl (.t .nil) (.c rfl rfl rfl (.s (.s (.t .nil))) (.c rfl rfl rfl (.s (.s (.s (.t .nil)))) .n))) (by exact ⟨⟨_, _, rfl, rfl, rfl⟩, ⟨⟨_, _, rfl, rfl, rfl⟩, ⟨⟨_, _, rfl, rfl, rfl⟩, trivial⟩⟩⟩) rfl rfl ?_
      refine .boxA rfl rfl rfl fun b7 => ?_
      refine .skips 2 rfl ?_
      refine .nil' fun c w ho hs => Cod.at (E := [(2, _), (3, _)]) (ho.sub ⟨rfl, rfl, trivial⟩) hs ?_
      refine .own0 eI64 3 ?_
      exact .ret (oret Try.results6 (.t rfl (.t rfl .n)) (.refl _) (.c (.s .z) (.c .z (.c (.s .z) (.c .z .n)))) (.inr ⟨(0, ({ room := a0, row := ([] : List Int), by_ := ([] : List (Int × Frame)), often := ([] : List (Int × Int)), sent := 0, taken := 0 } : Post_Box)), _, _, _, _, _, rfl, rfl, hd⟩))

theorem W_post_Box_Double_i18 {I : IH} {o0 : Post_Box} {a0 : Int} {b2 : Nat} {p3 : Option Addr} {c4 : Nat} {b8 : Nat} {b10 : Nat} {Q : (Int × Post_Box) → Prop}  (hd : post_Box_Double_i18 o0 a0 Q) :
    Fun Try.prog 8 #[.pointer (some ⟨b2, 0, none⟩), .int .i64 a0] I [pto b2 (.cells #[.int .i64 o0.room, .slice p3 o0.row.length c4, .map (some b8), .map (some b10), .int .i64 o0.sent, .int .i64 o0.taken] 60 (0, 0)), OwnSl eI64 3 p3 c4 o0.row, OwnMap (Value.int .i64) eFrame true b8 o0.by_, OwnMap (Value.int .i64) eI64 false b10 o0.often] (fun I_ v l => ∃ r p12 c13, v = .int .i64 r.1 ∧ l = [pto b2 (.cells #[.int .i64 r.2.room, .slice p12 r.2.row.length c13, .map (some b8), .map (some b10), .int .i64 r.2.sent, .int .i64 r.2.taken] 60 (0, 0)), OwnSl eI64 3 p12 c13 r.2.row, OwnMap (Value.int .i64) eFrame true b8 r.2.by_, OwnMap (Value.int .i64) eI64 false b10 r.2.often] ∧ Q r) := by
  refine Fun.enter (vs := [.pointer (some ⟨b2, 0, none⟩), .int .i64 a0]) Try.func8 rfl Try.ntmps8 rfl (.c (.c .n)) fun w0 M => ?_
  refine .seq ?_
  refine .region ?_
  refine .skips 1 rfl ?_
  refine .nil' fun c w ho hs => Cod.at (E := [(0, _), (1, _)]) (ho.sub ⟨rfl, rfl, trivial⟩) hs ?_
  refine .seq ?_
  refine .seq ?_
  refine .region ?_
  refine .skips 2 rfl ?_
  have hw20 := W_post_Box_at_i6 (I := I) (o0 := o0) (a0 := a0) (b2 := b2) (p3 := p3) (c4 := c4) (b8 := b8) (b10 := b10) hd
  refine .callS (.f Try.call25 rfl) (.c .z (.c .z (.c .z (.c .z .n)))) hw20 rfl rfl fun v24 I21 l25 hl22 hv23 => ?_
  obtain ⟨r26, rfl, rfl, hd⟩ := hv23
  have le27 := IH.le.trans (.refl _) hl22
  refine .re (m' := [pto b2 (.cells #[.int .i64 o0.room, .slice p3 o0.row.length c4, .map (some b8), .map (some b10), .int .i64 o0.sent, .int .i64 o0.taken] 60 (0, 0)), OwnSl eI64 3 p3 c4 o0.row, OwnMap (Value.int .i64) eFrame true b8 o0.by_, OwnMap (Value.int .i64) eI64 false b10 o0.often]) rfl ?_
  refine .skips 1 rfl ?_
  refine .nil' fun c w ho hs => Cod.at (E := [(0, _), (1, _), (5, _)]) (ho.sub ⟨rfl, rfl, rfl, trivial⟩) hs ?_
  refine .seq ?_
  refine .region ?_
  refine .skips 1 rfl ?_
  refine .ne rfl rfl rfl rfl ?_
  refine .nil' fun c w ho hs => Cod.at (E := [(0, _), (1, _), (5, _), (10, _)]) (ho.sub ⟨rfl, rfl, rfl, rfl, trivial⟩) hs ?_
  refine .cond rfl (fun hb28 => ?_) (fun hb28 => ?_)
  · have hd := hd.1 hb28
    refine .seq ?_
    refine .region ?_
    refine .skips 2 rfl ?_
    refine .nil' fun c w ho hs => Cod.at (E := [(0, _), (4, _)]) (ho.sub ⟨rfl, rfl, trivial⟩) hs ?_
    exact .ret (oret Try.results8 (.t rfl .n) le27 (.c .z (.c .z (.c .z (.c .z .n)))) ⟨(r26, o0), _, _, rfl, rfl, hd⟩)
  · have hd := hd.2 hb28
    refine .skip' fun c w ho hs => Cod.at (E := [(0, _), (1, _)]) (ho.sub ⟨rfl, rfl, trivial⟩) hs ?_
    refine .seq ?_
    refine .seq ?_
    refine .region ?_
    refine .skips 1 rfl ?_
    have hw38 := W_post_Box_full_i3 (I := I21) (o0 := o0) (b2 := b2) (p3 := p3) (c4 := c4) (b8 := b8) (b10 := b10) hd
    refine .callS (.f Try.call22 rfl) (.c .z (.c .z (.c .z (.c .z .n)))) hw38 rfl rfl fun v42 I39 l43 hl40 hv41 => ?_
    obtain ⟨r44, rfl, rfl, hd⟩ := hv41
    have le45 := IH.le.trans le27 hl40
    refine .re (m' := [pto b2 (.cells #[.int .i64 o0.room, .slice p3 o0.row.length c4, .map (some b8), .map (some b10), .int .i64 o0.sent, .int .i64 o0.taken] 60 (0, 0)), OwnSl eI64 3 p3 c4 o0.row, OwnMap (Value.int .i64) eFrame true b8 o0.by_, OwnMap (Value.int .i64) eI64 false b10 o0.often]) rfl ?_
    refine .nil' fun c w ho hs => Cod.at (E := [(0, _), (1, _), (13, _)]) (ho.sub ⟨rfl, rfl, rfl, trivial⟩) hs ?_
    refine .cond rfl (fun hb46 => ?_) (fun hb46 => ?_)
    · have hd := hd.1 hb46
      refine .seq ?_
      refine .region ?_
      refine .skips 1 rfl ?_
      refine .nil' fun c w ho hs => Cod.at (E := [(0, _), (4, _)]) (ho.sub ⟨rfl, rfl, trivial⟩) hs ?_
      exact .ret (oret Try.results8 (.t rfl .n) le45 (.c .z (.c .z (.c .z (.c .z .n)))) ⟨(9, o0), _, _, rfl, rfl, hd⟩)
    · have hd := hd.2 hb46
      refine .skip' fun c w ho hs => Cod.at (E := [(0, _), (1, _)]) (ho.sub ⟨rfl, rfl, trivial⟩) hs ?_
      refine .seq ?_
      refine .region ?_
      refine .skips 2 rfl ?_
      refine .nilCheckP rfl rfl rfl ?_
      refine .fieldAddr Try.underlying60 rfl Try.sizeOf58 rfl (o := 1) rfl rfl rfl ?_
      refine .load1 Try.isAgg58 rfl .z rfl rfl rfl ?_
      refine .skips 1 rfl ?_
      obtain ⟨h47, x48, hx49, hd⟩ := hd
      refine .ownNe (.s .z) (idx_ne hx49) fun b50 e51 => ?_
      cases e51
      refine .ixa0 Try.underlying58 Try.sizeOf3 rfl rfl h47 (idx_lt hx49 h47) rfl rfl ?_
      refine .lo1 (j := 0) Try.isAgg3 (.s .z) hx49 rfl rfl rfl rfl rfl ?_
      have hw52 := W_post_Box_put_i4 (I := I39) (o0 := o0) (a0 := x48) (b2 := b2) (p3 := some ⟨b50, 0, none⟩) (c4 := c4) (b8 := b8) (b10 := b10) hd
      refine .callS (.f Try.call24 rfl) (.c .z (.c .z (.c .z (.c .z .n)))) hw52 rfl rfl fun v56 I53 l57 hl54 hv55 => ?_
      obtain ⟨r58, p61, c62, rfl, rfl, hd⟩ := hv55
      have le69 := IH.le.trans le45 hl54
      refine .re (m' := [pto b2 (.cells #[.int .i64 r58.room, .slice p61 r58.row.length c62, .map (some b8), .map (some b10), .int .i64 r58.sent, .int .i64 r58.taken] 60 (0, 0)), OwnSl eI64 3 p61 c62 r58.row, OwnMap (Value.int .i64) eFrame true b8 r58.by_, OwnMap (Value.int .i64) eI64 false b10 r58.often]) rfl ?_
      refine .nil' fun c w ho hs => Cod.at (E := [(0, _)]) (ho.sub ⟨rfl, trivial⟩) hs ?_
      refine .seq ?_
      refine .region ?_
      refine .skips 1 rfl ?_
      refine .nil' fun c w ho hs => Cod.at (E := [(0, _), (4, _)]) (ho.sub ⟨rfl, rfl, trivial⟩) hs ?_
      exact .ret (oret Try.results8 (.t rfl .n) le69 (.c .z (.c .z (.c .z (.c .z .n)))) ⟨(0, r58), _, _, rfl, rfl, hd⟩)

theorem W_law20_PostFull {I : IH} {a0 : Int}  {Q : Bool → Prop}  (hd : law20_PostFull a0 Q) :
    PFun Try.prog 3 [.int .u8 a0] I (fun I_ v => ∃ r, v = .bool r ∧ Q r) := by
  refine Fun.enter Try.func3 rfl Try.ntmps3 rfl (.c .n) fun w0 M => ?_
  refine .seq ?_
  refine .region ?_
  refine .skips 1 rfl ?_
  refine .nil' fun c w ho hs => Cod.at (E := [(0, _)]) (ho.sub ⟨rfl, trivial⟩) hs ?_
  refine .seq ?_
  refine .region ?_
  refine .skips 1 rfl ?_
  refine .conv Try.underlying5 Try.underlying3 rfl rfl rfl ?_
  refine .rem rfl rfl (by decide) rfl rfl ?_
  refine .add rfl rfl rfl rfl ?_
  refine .skips 1 rfl ?_
  refine .nil' fun c w ho hs => Cod.at (E := [(3, _)]) (ho.sub ⟨rfl, trivial⟩) hs ?_
  refine .seq ?_
  refine .region ?_
  refine .skips 1 rfl ?_
  have hw41 := W_post_New_i17 (I := I) (a0 := (w64 (((w64 (a0)).tmod 64) + 1))) hd
  refine .callS (.f Try.call6 rfl) .n hw41 rfl rfl fun v45 I42 l46 hl43 hv44 => ?_
  rcases hv44 with hv44 | hv44
  · obtain ⟨r47, rfl, rfl, hd⟩ := hv44
    have le59 := IH.le.trans (.refl _) hl43
    refine .re (m' := []) rfl ?_
    refine .skips 1 rfl ?_
    refine .extract rfl rfl rfl rfl ?_
    refine .extract rfl rfl rfl rfl ?_
    refine .skips 2 rfl ?_
    refine .nil' fun c w ho hs => Cod.at (E := [(3, _), (4, _)]) (ho.sub ⟨rfl, rfl, trivial⟩) hs ?_
    refine .seq ?_
    refine .seq ?_
    refine .region ?_
    refine .skips 1 rfl ?_
    refine .eqNilP Try.underlying22 rfl rfl rfl rfl ?_
    refine .skips 6 rfl ?_
    refine .nil' fun c w ho hs => Cod.at (E := [(3, _), (4, _), (28, _)]) (ho.sub ⟨rfl, rfl, rfl, trivial⟩) hs ?_
    refine .condKT rfl rfl ?_
    refine .seq ?_
    refine .region ?_
    refine .skips 1 rfl ?_
    refine .nil' fun c w ho hs => Cod.at (E := [(2, _)]) (ho.sub ⟨rfl, trivial⟩) hs ?_
    exact .ret (pret Try.results3 (.t rfl .n) le59 ⟨false, rfl, hd⟩)
  · obtain ⟨r48, b50, p51, c52, b56, b58, rfl, rfl, hd⟩ := hv44
    have le60 := IH.le.trans (.refl _) hl43
    refine .re (m' := [pto b50 (.cells #[.int .i64 r48.2.room, .slice p51 r48.2.row.length c52, .map (some b56), .map (some b58), .int .i64 r48.2.sent, .int .i64 r48.2.taken] 60 (0, 0)), OwnSl eI64 3 p51 c52 r48.2.row, OwnMap (Value.int .i64) eFrame true b56 r48.2.by_, OwnMap (Value.int .i64) eI64 false b58 r48.2.often]) rfl ?_
    refine .skips 1 rfl ?_
    refine .extract rfl rfl rfl rfl ?_
    refine .extract rfl rfl rfl rfl ?_
    refine .skips 2 rfl ?_
    refine .nil' fun c w ho hs => Cod.at (E := [(3, _), (4, _)]) (ho.sub ⟨rfl, rfl, trivial⟩) hs ?_
    refine .seq ?_
    refine .seq ?_
    refine .region ?_
    refine .skips 1 rfl ?_
    refine .eqNilP Try.underlying22 rfl rfl rfl rfl ?_
    refine .skips 1 rfl ?_
    refine .gyes rfl rfl rfl (.move rfl rfl rfl ?_)
    refine .gyes rfl rfl rfl (.build Try.zeroValue34 Try.underlying34 BI34 (.c rfl rfl rfl (.s (.s (.s (.s (.s (.s (.s (.s (.s (.t .nil)))))))))) .n) (by exact ⟨⟨_, _, rfl, rfl, rfl⟩, trivial⟩) rfl rfl ?_)
    have hw80 := W_post_Box_Send_i2 (I := I42) (o0 := r48.2) (a0 := ({ Kind := 0, From := 0, To := 0, Seq := 0, Round := 0, Vec := ({ N := 0, Items := ([] : List Item) } : Vec), Sums := ([] : List Sum), Triples := ([] : List Triple), N := 5, Over := false } : Frame)) (b2 := b50) (p3 := p51) (c4 := c52) (b8 := b56) (b10 := b58) (.nil _ none 0) (.nil _ none 0) (.nil _ none 0) hd
    refine .gyes rfl rfl rfl (.callS (.f Try.call7 rfl) (.c .z (.c .z (.c .z (.c .z .n)))) hw80 rfl rfl fun v84 I81 l85 hl82 hv83 => ?_)
    obtain ⟨r86, p89, c90, rfl, rfl, hd⟩ := hv83
    have le97 := IH.le.trans le60 hl82
    refine .re (m' := [pto b50 (.cells #[.int .i64 r86.2.room, .slice p89 r86.2.row.length c90, .map (some b56), .map (some b58), .int .i64 r86.2.sent, .int .i64 r86.2.taken] 60 (0, 0)), OwnSl eI64 3 p89 c90 r86.2.row, OwnMap (Value.int .i64) eFrame true b56 r86.2.by_, OwnMap (Value.int .i64) eI64 false b58 r86.2.often]) rfl ?_
    refine .gyes rfl rfl rfl (.ne rfl rfl rfl rfl ?_)
    refine .skips 1 rfl ?_
    refine .nil' fun c w ho hs => Cod.at (E := [(3, _), (4, _), (28, _)]) (ho.sub ⟨rfl, rfl, rfl, trivial⟩) hs ?_
    refine .cond rfl (fun hb98 => ?_) (fun hb98 => ?_)
    · have hd := hd.1 hb98
      refine .seq ?_
      refine .region ?_
      refine .skips 1 rfl ?_
      refine .nil' fun c w ho hs => Cod.at (E := [(2, _)]) (ho.sub ⟨rfl, trivial⟩) hs ?_
      refine .drop .z ?_
      refine .drop .z ?_
      refine .drop .z ?_
      refine .drop .z ?_
      exact .ret (pret Try.results3 (.t rfl .n) le97 ⟨false, rfl, hd⟩)
    · have hd := hd.2 hb98
      refine .skip' fun c w ho hs => Cod.at (E := [(3, _), (4, _)]) (ho.sub ⟨rfl, rfl, trivial⟩) hs ?_
      refine .seq ?_
      refine .seq ?_
      refine .region ?_
      refine .skips 1 rfl ?_
      refine .nil' fun c w ho hs => Cod.at (E := [(3, _), (4, _), (6, _)]) (ho.sub ⟨rfl, rfl, rfl, trivial⟩) hs ?_
      refine .block ?_
      refine .loop hd (fun (s : Int × (List Int) × (List (Int × Frame)) × (List (Int × Int)) × Int × Int × Int) c w => match s with | (s284, s285, s289, s290, s291, s292, s293) => ∃ I_ p286 c287, IH.le I81 I_ ∧ Ok 77 [(3, .int .i64 (w64 (((w64 (a0)).tmod 64) + 1))), (4, .pointer (some ⟨b50, 0, none⟩)), (6, .int .i64 s293)] c ∧ Sym w0 M I I_ [pto b50 (.cells #[.int .i64 s284, .slice p286 s285.length c287, .map (some b56), .map (some b58), .int .i64 s291, .int .i64 s292] 60 (0, 0)), OwnSl eI64 3 p286 c287 s285, OwnMap (Value.int .i64) eFrame true b56 s289, OwnMap (Value.int .i64) eI64 false b58 s290] w) (fun c w ho hs => ⟨I81, _, _, (.refl _), ho.sub ⟨rfl, rfl, rfl, trivial⟩, hs.pick (.c .z (.c .z (.c .z (.c .z .n))))⟩) ?_
      rintro ⟨s284, s285, s289, s290, s291, s292, s293⟩ next294 hd c w hst
      obtain ⟨I295, p286, c287, hl296, hok, hsym⟩ := hst
      have le297 := IH.le.trans le97 hl296
      have le298 := IH.le.trans (.refl _) hl296
      refine Cod.at hok hsym ?_
      refine .seq ?_
      refine .seq ?_
      refine .region ?_
      refine .skips 2 rfl ?_
      refine .lt rfl rfl rfl rfl ?_
      refine .nil' fun c w ho hs => Cod.at (E := [(3, _), (4, _), (6, _), (31, _)]) (ho.sub ⟨rfl, rfl, rfl, rfl, trivial⟩) hs ?_
      refine .cond rfl (fun hb300 => ?_) (fun hb300 => ?_)
      · have hd := hd.1 hb300
        refine .skip' fun c w ho hs => Cod.at (E := [(3, _), (4, _), (6, _)]) (ho.sub ⟨rfl, rfl, rfl, trivial⟩) hs ?_
        refine .seq ?_
        refine .block ?_
        refine .seq ?_
        refine .region ?_
        refine .skips 1 rfl ?_
        have hw301 := W_post_Box_Double_i18 (I := I295) (o0 := ({ room := s284, row := s285, by_ := s289, often := s290, sent := s291, taken := s292 } : Post_Box)) (a0 := 0) (b2 := b50) (p3 := p286) (c4 := c287) (b8 := b56) (b10 := b58) hd
        refine .callS (.f Try.call8 rfl) (.c .z (.c .z (.c .z (.c .z .n)))) hw301 rfl rfl fun v305 I302 l306 hl303 hv304 => ?_
        obtain ⟨r307, p310, c311, rfl, rfl, hd⟩ := hv304
        have le318 := IH.le.trans le297 hl303
        have le319 := IH.le.trans le298 hl303
        refine .re (m' := [pto b50 (.cells #[.int .i64 r307.2.room, .slice p310 r307.2.row.length c311, .map (some b56), .map (some b58), .int .i64 r307.2.sent, .int .i64 r307.2.taken] 60 (0, 0)), OwnSl eI64 3 p310 c311 r307.2.row, OwnMap (Value.int .i64) eFrame true b56 r307.2.by_, OwnMap (Value.int .i64) eI64 false b58 r307.2.often]) rfl ?_
        refine .ne rfl rfl rfl rfl ?_
        refine .nil' fun c w ho hs => Cod.at (E := [(3, _), (4, _), (6, _), (36, _)]) (ho.sub ⟨rfl, rfl, rfl, rfl, trivial⟩) hs ?_
        refine .cond rfl (fun hb320 => ?_) (fun hb320 => ?_)
        · have hd := hd.1 hb320
          refine .seq ?_
          refine .region ?_
          refine .skips 1 rfl ?_
          refine .nil' fun c w ho hs => Cod.at (E := [(2, _)]) (ho.sub ⟨rfl, trivial⟩) hs ?_
          refine .drop .z ?_
          refine .drop .z ?_
          refine .drop .z ?_
          refine .drop .z ?_
          exact .ret (pret Try.results3 (.t rfl .n) le318 ⟨false, rfl, hd⟩)
        · have hd := hd.2 hb320
          refine .skip' fun c w ho hs => Cod.at (E := [(3, _), (4, _), (6, _)]) (ho.sub ⟨rfl, rfl, rfl, trivial⟩) hs ?_
          refine .region ?_
          refine .skips 1 rfl ?_
          refine .add rfl rfl rfl rfl ?_
          refine .sub (E' := [(3, _), (4, _), (32, _), (33, _)]) ⟨rfl, rfl, rfl, rfl, trivial⟩ ?_
          refine .skips 1 rfl ?_
          exact .nil' fun c w ho hs => ⟨(r307.2.room, r307.2.row, r307.2.by_, r307.2.often, r307.2.sent, r307.2.taken, w64 (s293 + 1)), hd, I302, _, _, le319, ho.sub ⟨rfl, rfl, rfl, trivial⟩, hs.pick (.c .z (.c .z (.c .z (.c .z .n))))⟩
      · have hd := hd.2 hb300
        refine .exit fun c w ho hs => Cod.at (E := [(3, _), (4, _)]) (ho.sub ⟨rfl, rfl, trivial⟩) hs ?_
        refine .seq ?_
        refine .seq ?_
        refine .region ?_
        refine .skips 1 rfl ?_
        have hw361 := W_post_Box_Double_i18 (I := I295) (o0 := ({ room := s284, row := s285, by_ := s289, often := s290, sent := s291, taken := s292 } : Post_Box)) (a0 := 0) (b2 := b50) (p3 := p286) (c4 := c287) (b8 := b56) (b10 := b58) hd
        refine .callS (.f Try.call8 rfl) (.c .z (.c .z (.c .z (.c .z .n)))) hw361 rfl rfl fun v365 I362 l366 hl363 hv364 => ?_
        obtain ⟨r367, p370, c371, rfl, rfl, hd⟩ := hv364
        have le378 := IH.le.trans le297 hl363
        have le379 := IH.le.trans le298 hl363
        refine .re (m' := [pto b50 (.cells #[.int .i64 r367.2.room, .slice p370 r367.2.row.length c371, .map (some b56), .map (some b58), .int .i64 r367.2.sent, .int .i64 r367.2.taken] 60 (0, 0)), OwnSl eI64 3 p370 c371 r367.2.row, OwnMap (Value.int .i64) eFrame true b56 r367.2.by_, OwnMap (Value.int .i64) eI64 false b58 r367.2.often]) rfl ?_
        refine .ne rfl rfl rfl rfl ?_
        refine .skips 1 rfl ?_
        refine split (r367.1 != 9) (fun hb380 => ?_) (fun hb380 => ?_)
        · have hd := hd.1 hb380
          rw [hb380]
          refine .skips 5 rfl ?_
          refine .nil' fun c w ho hs => Cod.at (E := [(3, _), (4, _), (45, _)]) (ho.sub ⟨rfl, rfl, rfl, trivial⟩) hs ?_
          refine .condKT rfl rfl ?_
          refine .seq ?_
          refine .region ?_
          refine .skips 1 rfl ?_
          refine .nil' fun c w ho hs => Cod.at (E := [(2, _)]) (ho.sub ⟨rfl, trivial⟩) hs ?_
          refine .drop .z ?_
          refine .drop .z ?_
          refine .drop .z ?_
          refine .drop .z ?_
          exact .ret (pret Try.results3 (.t rfl .n) le378 ⟨false, rfl, hd⟩)
        · have hd := hd.2 hb380
          rw [hb380]
          refine .gyes rfl rfl rfl (.move rfl rfl rfl ?_)
          refine .gyes rfl rfl rfl (.build Try.zeroValue34 Try.underlying34 BI34 .n (by exact trivial) rfl rfl ?_)
          have hw381 := W_post_Box_Send_i2 (I := I362) (o0 := r367.2) (a0 := ({ Kind := 0, From := 0, To := 0, Seq := 0, Round := 0, Vec := ({ N := 0, Items := ([] : List Item) } : Vec), Sums := ([] : List Sum), Triples := ([] : List Triple), N := 0, Over := false } : Frame)) (b2 := b50) (p3 := p370) (c4 := c371) (b8 := b56) (b10 := b58) (.nil _ none 0) (.nil _ none 0) (.nil _ none 0) hd
          refine .gyes rfl rfl rfl (.callS (.f Try.call7 rfl) (.c .z (.c .z (.c .z (.c .z .n)))) hw381 rfl rfl fun v385 I382 l386 hl383 hv384 => ?_)
          obtain ⟨r387, p390, c391, rfl, rfl, hd⟩ := hv384
          have le398 := IH.le.trans le378 hl383
          have le399 := IH.le.trans le379 hl383
          refine .re (m' := [pto b50 (.cells #[.int .i64 r387.2.room, .slice p390 r387.2.row.length c391, .map (some b56), .map (some b58), .int .i64 r387.2.sent, .int .i64 r387.2.taken] 60 (0, 0)), OwnSl eI64 3 p390 c391 r387.2.row, OwnMap (Value.int .i64) eFrame true b56 r387.2.by_, OwnMap (Value.int .i64) eI64 false b58 r387.2.often]) rfl ?_
          refine .gyes rfl rfl rfl (.ne rfl rfl rfl rfl ?_)
          refine .skips 1 rfl ?_
          refine .nil' fun c w ho hs => Cod.at (E := [(3, _), (4, _), (45, _)]) (ho.sub ⟨rfl, rfl, rfl, trivial⟩) hs ?_
          refine .cond rfl (fun hb400 => ?_) (fun hb400 => ?_)
          · have hd := hd.1 hb400
            refine .seq ?_
            refine .region ?_
            refine .skips 1 rfl ?_
            refine .nil' fun c w ho hs => Cod.at (E := [(2, _)]) (ho.sub ⟨rfl, trivial⟩) hs ?_
            refine .drop .z ?_
            refine .drop .z ?_
            refine .drop .z ?_
            refine .drop .z ?_
            exact .ret (pret Try.results3 (.t rfl .n) le398 ⟨false, rfl, hd⟩)
          · have hd := hd.2 hb400
            refine .skip' fun c w ho hs => Cod.at (E := [(3, _), (4, _)]) (ho.sub ⟨rfl, rfl, trivial⟩) hs ?_
            refine .seq ?_
            refine .region ?_
            refine .skips 1 rfl ?_
            refine .nil' fun c w ho hs => Cod.at (E := [(3, _), (4, _), (7, _)]) (ho.sub ⟨rfl, rfl, rfl, trivial⟩) hs ?_
            refine .seq ?_
            refine .seq ?_
            refine .region ?_
            refine .skips 1 rfl ?_
            refine .nil' fun c w ho hs => Cod.at (E := [(3, _), (4, _), (7, _), (8, _)]) (ho.sub ⟨rfl, rfl, rfl, rfl, trivial⟩) hs ?_
            refine .block ?_
            refine .loop hd (fun (s : Int × (List Int) × (List (Int × Frame)) × (List (Int × Int)) × Int × Int × Int × Int) c w => match s with | (s704, s705, s709, s710, s711, s712, s713, s714) => ∃ I_ p706 c707, IH.le I382 I_ ∧ Ok 77 [(3, .int .i64 (w64 (((w64 (a0)).tmod 64) + 1))), (4, .pointer (some ⟨b50, 0, none⟩)), (7, .int .i64 s713), (8, .int .i64 s714)] c ∧ Sym w0 M I I_ [pto b50 (.cells #[.int .i64 s704, .slice p706 s705.length c707, .map (some b56), .map (some b58), .int .i64 s711, .int .i64 s712] 60 (0, 0)), OwnSl eI64 3 p706 c707 s705, OwnMap (Value.int .i64) eFrame true b56 s709, OwnMap (Value.int .i64) eI64 false b58 s710] w) (fun c w ho hs => ⟨I382, _, _, (.refl _), ho.sub ⟨rfl, rfl, rfl, rfl, trivial⟩, hs.pick (.c .z (.c .z (.c .z (.c .z .n))))⟩) ?_
            rintro ⟨s704, s705, s709, s710, s711, s712, s713, s714⟩ next715 hd c w hst
            obtain ⟨I716, p706, c707, hl717, hok, hsym⟩ := hst
            have le718 := IH.le.trans le398 hl717
            have le719 := IH.le.trans le399 hl717
            have le720 := IH.le.trans (.refl _) hl717
            refine Cod.at hok hsym ?_
            refine .seq ?_
            refine .seq ?_
            refine .region ?_
            refine .skips 2 rfl ?_
            refine .lt rfl rfl rfl rfl ?_
            refine .nil' fun c w ho hs => Cod.at (E := [(3, _), (4, _), (7, _), (8, _), (48, _)]) (ho.sub ⟨rfl, rfl, rfl, rfl, rfl, trivial⟩) hs ?_
            refine .cond rfl (fun hb722 => ?_) (fun hb722 => ?_)
            · have hd := hd.1 hb722
              refine .skip' fun c w ho hs => Cod.at (E := [(3, _), (4, _), (7, _), (8, _)]) (ho.sub ⟨rfl, rfl, rfl, rfl, trivial⟩) hs ?_
              refine .seq ?_
              refine .block ?_
              refine .seq ?_
              refine .region ?_
              refine .skips 2 rfl ?_
              have hw723 := W_post_Box_Oldest_i9 (I := I716) (o0 := ({ room := s704, row := s705, by_ := s709, often := s710, sent := s711, taken := s712 } : Post_Box)) (b2 := b50) (p3 := p706) (c4 := c707) (b8 := b56) (b10 := b58) hd
              refine .callS (.f Try.call10 rfl) (.c .z (.c .z (.c .z (.c .z .n)))) hw723 rfl rfl fun v727 I724 l728 hl725 hv726 => ?_
              obtain ⟨r729, rfl, rfl, hd⟩ := hv726
              have le730 := IH.le.trans le718 hl725
              have le731 := IH.le.trans le719 hl725
              have le732 := IH.le.trans le720 hl725
              refine .re (m' := [pto b50 (.cells #[.int .i64 s704, .slice p706 s705.length c707, .map (some b56), .map (some b58), .int .i64 s711, .int .i64 s712] 60 (0, 0)), OwnSl eI64 3 p706 c707 s705, OwnMap (Value.int .i64) eFrame true b56 s709, OwnMap (Value.int .i64) eI64 false b58 s710]) rfl ?_
              have hw733 := W_post_Box_Take_i5 (I := I724) (o0 := ({ room := s704, row := s705, by_ := s709, often := s710, sent := s711, taken := s712 } : Post_Box)) (a0 := r729) (b2 := b50) (p3 := p706) (c4 := c707) (b8 := b56) (b10 := b58) hd
              refine .callS (.f Try.call9 rfl) (.c .z (.c .z (.c .z (.c .z .n)))) hw733 rfl rfl fun v737 I734 l738 hl735 hv736 => ?_
              obtain ⟨r739, p740, c741, p743, c744, p746, c747, p751, c752, rfl, R742, R745, R748, rfl, hd⟩ := hv736
              have le759 := IH.le.trans le730 hl735
              have le760 := IH.le.trans le731 hl735
              have le761 := IH.le.trans le732 hl735
              refine .re (m' := [pto b50 (.cells #[.int .i64 r739.2.2.2.room, .slice p751 r739.2.2.2.row.length c752, .map (some b56), .map (some b58), .int .i64 r739.2.2.2.sent, .int .i64 r739.2.2.2.taken] 60 (0, 0)), OwnSl eI64 3 p751 c752 r739.2.2.2.row, OwnMap (Value.int .i64) eFrame true b56 r739.2.2.2.by_, OwnMap (Value.int .i64) eI64 false b58 r739.2.2.2.often]) rfl ?_
              refine .skips 1 rfl ?_
              refine .extract rfl rfl rfl rfl ?_
              refine .extract rfl rfl rfl rfl ?_
              refine .extract rfl rfl rfl rfl ?_
              refine .allocA Try.zeroValue34 rfl rfl fun b762 => ?_
              refine .storeA Try.sizeOf34 rfl rfl .z (.t (.t (.t (.t (.t (.t (.t (.t (.t (.t (.t .nil))))))))))) rfl rfl ?_
              refine .skips 2 rfl ?_
              refine .nil' fun c w ho hs => Cod.at (E := [(3, _), (4, _), (7, _), (8, _), (10, _)]) (ho.sub ⟨rfl, rfl, rfl, rfl, rfl, trivial⟩) hs ?_
              refine .drop .z ?_
              refine .seq ?_
              refine .region ?_
              refine .skips 1 rfl ?_
              refine .nil' fun c w ho hs => Cod.at (E := [(3, _), (4, _), (7, _), (8, _), (59, _)]) (ho.sub ⟨rfl, rfl, rfl, rfl, rfl, trivial⟩) hs ?_
              refine .cond rfl (fun hb764 => ?_) (fun hb764 => ?_)
              · have hd := hd.1 hb764
                refine .region ?_
                refine .skips 1 rfl ?_
                refine .add rfl rfl rfl rfl ?_
                refine .sub (E' := [(3, _), (4, _), (8, _), (59, _), (60, _), (61, _)]) ⟨rfl, rfl, rfl, rfl, rfl, rfl, trivial⟩ ?_
                refine .skips 1 rfl ?_
                refine .nil' fun c w ho hs => Cod.at (E := [(3, _), (4, _), (8, _), (7, _)]) (ho.sub ⟨rfl, rfl, rfl, rfl, trivial⟩) hs ?_
                refine .region ?_
                refine .skips 1 rfl ?_
                refine .add rfl rfl rfl rfl ?_
                refine .sub (E' := [(3, _), (4, _), (7, _), (49, _), (50, _)]) ⟨rfl, rfl, rfl, rfl, rfl, trivial⟩ ?_
                refine .skips 1 rfl ?_
                exact .nil' fun c w ho hs => ⟨(r739.2.2.2.room, r739.2.2.2.row, r739.2.2.2.by_, r739.2.2.2.often, r739.2.2.2.sent, r739.2.2.2.taken, w64 (s713 + 1), w64 (s714 + 1)), hd, I734, _, _, le761, ho.sub ⟨rfl, rfl, rfl, rfl, trivial⟩, hs.pick (.c .z (.c .z (.c .z (.c .z .n))))⟩
              · have hd := hd.2 hb764
                refine .skip' fun c w ho hs => Cod.at (E := [(3, _), (4, _), (7, _), (8, _)]) (ho.sub ⟨rfl, rfl, rfl, rfl, trivial⟩) hs ?_
                refine .region ?_
                refine .skips 1 rfl ?_
                refine .add rfl rfl rfl rfl ?_
                refine .sub (E' := [(3, _), (4, _), (7, _), (49, _), (50, _)]) ⟨rfl, rfl, rfl, rfl, rfl, trivial⟩ ?_
                refine .skips 1 rfl ?_
                exact .nil' fun c w ho hs => ⟨(r739.2.2.2.room, r739.2.2.2.row, r739.2.2.2.by_, r739.2.2.2.often, r739.2.2.2.sent, r739.2.2.2.taken, s713, w64 (s714 + 1)), hd, I734, _, _, le761, ho.sub ⟨rfl, rfl, rfl, rfl, trivial⟩, hs.pick (.c .z (.c .z (.c .z (.c .z .n))))⟩
            · have hd := hd.2 hb722
              refine .exit fun c w ho hs => Cod.at (E := [(4, _), (7, _)]) (ho.sub ⟨rfl, rfl, trivial⟩) hs ?_
              refine .seq ?_
              refine .region ?_
              have hw771 := W_law20_live (I := I716) hd
              refine .call Try.call11 rfl hw771 rfl rfl fun v769 I766 hl767 hv768 => ?_
              obtain ⟨r765, rfl, hd⟩ := hv768
              have le772 := IH.le.trans le718 hl767
              have le773 := IH.le.trans le719 hl767
              have le774 := IH.le.trans le720 hl767
              refine .skips 1 rfl ?_
              refine split r765 (fun hb775 => ?_) (fun hb775 => ?_)
              · have hd := hd.1 hb775
                rw [hb775]
                refine .gyes rfl rfl rfl (.move rfl rfl rfl ?_)
                refine .gyes rfl rfl rfl (.eq rfl rfl rfl rfl ?_)
                refine .skips 2 rfl ?_
                refine split (s713 == 1) (fun hb776 => ?_) (fun hb776 => ?_)
                · have hd := hd.1 hb776
                  rw [hb776]
                  refine .gyes rfl rfl rfl (.move rfl rfl rfl ?_)
                  have hw777 := W_post_Box_Len_i10 (I := I766) (o0 := ({ room := s704, row := s705, by_ := s709, often := s710, sent := s711, taken := s712 } : Post_Box)) (b2 := b50) (p3 := p706) (c4 := c707) (b8 := b56) (b10 := b58) hd
                  refine .gyes rfl rfl rfl (.callS (.f Try.call12 rfl) (.c .z (.c .z (.c .z (.c .z .n)))) hw777 rfl rfl fun v781 I778 l782 hl779 hv780 => ?_)
                  obtain ⟨r783, rfl, rfl, hd⟩ := hv780
                  have le784 := IH.le.trans le772 hl779
                  have le785 := IH.le.trans le773 hl779
                  have le786 := IH.le.trans le774 hl779
                  refine .re (m' := [pto b50 (.cells #[.int .i64 s704, .slice p706 s705.length c707, .map (some b56), .map (some b58), .int .i64 s711, .int .i64 s712] 60 (0, 0)), OwnSl eI64 3 p706 c707 s705, OwnMap (Value.int .i64) eFrame true b56 s709, OwnMap (Value.int .i64) eI64 false b58 s710]) rfl ?_
                  refine .gyes rfl rfl rfl (.eq rfl rfl rfl rfl ?_)
                  refine .skips 2 rfl ?_
                  refine split (r783 == 0) (fun hb787 => ?_) (fun hb787 => ?_)
                  · have hd := hd.1 hb787
                    rw [hb787]
                    refine .gyes rfl rfl rfl (.move rfl rfl rfl ?_)
                    have hw788 := W_post_Box_Sent_i14 (I := I778) (o0 := ({ room := s704, row := s705, by_ := s709, often := s710, sent := s711, taken := s712 } : Post_Box)) (b2 := b50) (p3 := p706) (c4 := c707) (b8 := b56) (b10 := b58) hd
                    refine .gyes rfl rfl rfl (.callS (.f Try.call13 rfl) (.c .z (.c .z (.c .z (.c .z .n)))) hw788 rfl rfl fun v792 I789 l793 hl790 hv791 => ?_)
                    obtain ⟨r794, rfl, rfl, hd⟩ := hv791
                    have le795 := IH.le.trans le784 hl790
                    have le796 := IH.le.trans le785 hl790
                    have le797 := IH.le.trans le786 hl790
                    refine .re (m' := [pto b50 (.cells #[.int .i64 s704, .slice p706 s705.length c707, .map (some b56), .map (some b58), .int .i64 s711, .int .i64 s712] 60 (0, 0)), OwnSl eI64 3 p706 c707 s705, OwnMap (Value.int .i64) eFrame true b56 s709, OwnMap (Value.int .i64) eI64 false b58 s710]) rfl ?_
                    refine .gyes rfl rfl rfl (.eq rfl rfl rfl rfl ?_)
                    refine .skips 2 rfl ?_
                    refine .nil' fun c w ho hs => Cod.at (E := [(2, _)]) (ho.sub ⟨rfl, trivial⟩) hs ?_
                    refine .drop .z ?_
                    refine .drop .z ?_
                    refine .drop .z ?_
                    refine .drop .z ?_
                    exact .ret (pret Try.results3 (.t rfl .n) le795 ⟨(r794 == 1), rfl, hd⟩)
                  · have hd := hd.2 hb787
                    rw [hb787]
                    refine .skips 5 rfl ?_
                    refine .nil' fun c w ho hs => Cod.at (E := [(2, _)]) (ho.sub ⟨rfl, trivial⟩) hs ?_
                    refine .drop .z ?_
                    refine .drop .z ?_
                    refine .drop .z ?_
                    refine .drop .z ?_
                    exact .ret (pret Try.results3 (.t rfl .n) le784 ⟨false, rfl, hd⟩)
                · have hd := hd.2 hb776
                  rw [hb776]
                  refine .skips 10 rfl ?_
                  refine .nil' fun c w ho hs => Cod.at (E := [(2, _)]) (ho.sub ⟨rfl, trivial⟩) hs ?_
                  refine .drop .z ?_
                  refine .drop .z ?_
                  refine .drop .z ?_
                  refine .drop .z ?_
                  exact .ret (pret Try.results3 (.t rfl .n) le772 ⟨false, rfl, hd⟩)
              · have hd := hd.2 hb775
                rw [hb775]
                refine .skips 14 rfl ?_
                refine .nil' fun c w ho hs => Cod.at (E := [(2, _)]) (ho.sub ⟨rfl, trivial⟩) hs ?_
                refine .drop .z ?_
                refine .drop .z ?_
                refine .drop .z ?_
                refine .drop .z ?_
                exact .ret (pret Try.results3 (.t rfl .n) le772 ⟨false, rfl, hd⟩)

theorem W_law20_Near {I : IH} {a0 : Int} {a1 : Int}  {Q : Int → Prop}  (hd : law20_Near a0 a1 Q) :
    PFun Try.prog 21 [.int .i64 a0, .int .i64 a1] I (fun I_ v => ∃ r, v = .int .i64 r ∧ Q r) := by
  refine Fun.enter Try.func21 rfl Try.ntmps21 rfl (.c (.c .n)) fun w0 M => ?_
  refine .seq ?_
  refine .region ?_
  refine .skips 1 rfl ?_
  refine .nil' fun c w ho hs => Cod.at (E := [(0, _), (1, _)]) (ho.sub ⟨rfl, rfl, trivial⟩) hs ?_
  refine .seq ?_
  refine .seq ?_
  refine .region ?_
  refine .skips 1 rfl ?_
  refine .lt rfl rfl rfl rfl ?_
  refine .skips 1 rfl ?_
  refine split (decide (a0 < 0)) (fun hb1 => ?_) (fun hb1 => ?_)
  · have hd := hd.1 hb1
    rw [hb1]
    refine .skips 8 rfl ?_
    refine .nil' fun c w ho hs => Cod.at (E := [(0, _), (1, _), (15, _)]) (ho.sub ⟨rfl, rfl, rfl, trivial⟩) hs ?_
    refine .condKT rfl rfl ?_
    refine .seq ?_
    refine .region ?_
    refine .skips 2 rfl ?_
    refine .nil' fun c w ho hs => Cod.at (E := [(4, _)]) (ho.sub ⟨rfl, trivial⟩) hs ?_
    exact .ret (pret Try.results21 (.t rfl .n) (.refl _) ⟨a0, rfl, hd⟩)
  · have hd := hd.2 hb1
    rw [hb1]
    refine .gyes rfl rfl rfl (.move rfl rfl rfl ?_)
    refine .gyes rfl rfl rfl (.lt rfl rfl rfl rfl ?_)
    refine .skips 2 rfl ?_
    refine split (decide (a1 < 1)) (fun hb2 => ?_) (fun hb2 => ?_)
    · have hd := hd.1 hb2
      rw [hb2]
      refine .skips 4 rfl ?_
      refine .nil' fun c w ho hs => Cod.at (E := [(0, _), (1, _), (15, _)]) (ho.sub ⟨rfl, rfl, rfl, trivial⟩) hs ?_
      refine .condKT rfl rfl ?_
      refine .seq ?_
      refine .region ?_
      refine .skips 2 rfl ?_
      refine .nil' fun c w ho hs => Cod.at (E := [(4, _)]) (ho.sub ⟨rfl, trivial⟩) hs ?_
      exact .ret (pret Try.results21 (.t rfl .n) (.refl _) ⟨a0, rfl, hd⟩)
    · have hd := hd.2 hb2
      rw [hb2]
      refine .gyes rfl rfl rfl (.move rfl rfl rfl ?_)
      refine .gyes rfl rfl rfl (.rem rfl rfl (by decide) rfl rfl ?_)
      refine .gyes rfl rfl rfl (.eq rfl rfl rfl rfl ?_)
      refine .skips 1 rfl ?_
      refine .nil' fun c w ho hs => Cod.at (E := [(0, _), (1, _), (15, _)]) (ho.sub ⟨rfl, rfl, rfl, trivial⟩) hs ?_
      refine .cond rfl (fun hb3 => ?_) (fun hb3 => ?_)
      · have hd := hd.1 hb3
        refine .seq ?_
        refine .region ?_
        refine .skips 2 rfl ?_
        refine .nil' fun c w ho hs => Cod.at (E := [(4, _)]) (ho.sub ⟨rfl, trivial⟩) hs ?_
        exact .ret (pret Try.results21 (.t rfl .n) (.refl _) ⟨a0, rfl, hd⟩)
      · have hd := hd.2 hb3
        refine .skip' fun c w ho hs => Cod.at (E := [(0, _), (1, _)]) (ho.sub ⟨rfl, rfl, trivial⟩) hs ?_
        refine .seq ?_
        refine .region ?_
        refine .skips 2 rfl ?_
        obtain ⟨hz4, hd⟩ := hd
        refine .rem rfl rfl hz4 rfl rfl ?_
        refine .skips 1 rfl ?_
        refine .nil' fun c w ho hs => Cod.at (E := [(4, _)]) (ho.sub ⟨rfl, trivial⟩) hs ?_
        exact .ret (pret Try.results21 (.t rfl .n) (.refl _) ⟨(a0.tmod a1), rfl, hd⟩)

theorem W_ref20_own {I : IH} {a0 : Frame} {p1 : Option Addr} {c2 : Nat} {p4 : Option Addr} {c5 : Nat} {p7 : Option Addr} {c8 : Nat} {Q : Frame → Prop} (R3 : RepSl eItem I p1 c2 a0.Vec.Items) (R6 : RepSl eSum I p4 c5 a0.Sums) (R9 : RepSl eTriple I p7 c8 a0.Triples) (hd : ref20_own a0 Q) :
    PFun Try.prog 43 [.agg #[.int .i64 a0.Kind, .int .i64 a0.From, .int .i64 a0.To, .int .i64 a0.Seq, .int .i64 a0.Round, .int .i64 a0.Vec.N, .slice p1 a0.Vec.Items.length c2, .slice p4 a0.Sums.length c5, .slice p7 a0.Triples.length c8, .int .i64 a0.N, .bool a0.Over]] I (fun I_ v => ∃ r p10 c11 p13 c14 p16 c17, v = .agg #[.int .i64 r.Kind, .int .i64 r.From, .int .i64 r.To, .int .i64 r.Seq, .int .i64 r.Round, .int .i64 r.Vec.N, .slice p10 r.Vec.Items.length c11, .slice p13 r.Sums.length c14, .slice p16 r.Triples.length c17, .int .i64 r.N, .bool r.Over] ∧ RepSl eItem I_ p10 c11 r.Vec.Items ∧ RepSl eSum I_ p13 c14 r.Sums ∧ RepSl eTriple I_ p16 c17 r.Triples ∧ Q r) := by
  refine Fun.enter Try.func43 rfl Try.ntmps43 rfl (.c .n) fun w0 M => ?_
  refine .seq ?_
  refine .region ?_
  refine .boxA rfl rfl rfl fun b23 => ?_
  refine .allocA Try.zeroValue34 rfl rfl fun b25 => ?_
  refine .nil' fun c w ho hs => Cod.at (E := [(1, _), (2, _)]) (ho.sub ⟨rfl, rfl, trivial⟩) hs ?_
  refine .seq ?_
  refine .region ?_
  refine .skips 1 rfl ?_
  refine .nil' fun c w ho hs => Cod.at (E := [(1, _), (2, _), (3, _)]) (ho.sub ⟨rfl, rfl, rfl, trivial⟩) hs ?_
  refine .seq ?_
  refine .region ?_
  refine .skips 1 rfl ?_
  refine .nil' fun c w ho hs => Cod.at (E := [(1, _), (2, _), (3, _), (4, _)]) (ho.sub ⟨rfl, rfl, rfl, rfl, trivial⟩) hs ?_
  refine .seq ?_
  refine .region ?_
  refine .skips 1 rfl ?_
  refine .nil' fun c w ho hs => Cod.at (E := [(1, _), (2, _), (3, _), (4, _), (5, _)]) (ho.sub ⟨rfl, rfl, rfl, rfl, rfl, trivial⟩) hs ?_
  refine .seq ?_
  refine .region ?_
  refine .skips 1 rfl ?_
  refine .fieldAddr Try.underlying34 rfl Try.sizeOf30 rfl (o := 5) rfl rfl rfl ?_
  refine .fieldAddr Try.underlying30 rfl Try.sizeOf28 rfl (o := 6) rfl rfl rfl ?_
  refine .load1 Try.isAgg28 rfl (.s .z) rfl rfl rfl ?_
  refine .own0 eItem 71 ?_
  obtain ⟨hl33, hd⟩ := hd
  refine .append (ys := a0.Vec.Items) 16 .z Try.underlying28 Try.underlying28 IN71 rfl rfl rfl rfl rfl rfl rfl rfl rfl (.imm R3 rfl) hl33 rfl rfl fun p34 c35 => ?_
  refine .sub (E' := [(1, _), (2, _), (4, _), (5, _), (6, _), (7, _), (8, _), (9, _), (10, _)]) ⟨rfl, rfl, rfl, rfl, rfl, rfl, rfl, rfl, rfl, trivial⟩ ?_
  refine .skips 1 rfl ?_
  refine .nil' fun c w ho hs => Cod.at (E := [(1, _), (2, _), (4, _), (5, _), (3, _)]) (ho.sub ⟨rfl, rfl, rfl, rfl, rfl, trivial⟩) hs ?_
  refine .seq ?_
  refine .region ?_
  refine .skips 1 rfl ?_
  refine .fieldAddr Try.underlying34 rfl Try.sizeOf31 rfl (o := 7) rfl rfl rfl ?_
  refine .load1 Try.isAgg31 rfl (.s (.s .z)) rfl rfl rfl ?_
  refine .own0 eSum 80 ?_
  obtain ⟨hl43, hd⟩ := hd
  refine .append (ys := a0.Sums) 24 .z Try.underlying31 Try.underlying31 IN80 rfl rfl rfl rfl rfl rfl rfl rfl rfl (.imm R6 rfl) hl43 rfl rfl fun p44 c45 => ?_
  refine .sub (E' := [(1, _), (2, _), (5, _), (3, _), (11, _), (12, _), (13, _), (14, _)]) ⟨rfl, rfl, rfl, rfl, rfl, rfl, rfl, rfl, trivial⟩ ?_
  refine .skips 1 rfl ?_
  refine .nil' fun c w ho hs => Cod.at (E := [(1, _), (2, _), (5, _), (3, _), (4, _)]) (ho.sub ⟨rfl, rfl, rfl, rfl, rfl, trivial⟩) hs ?_
  refine .seq ?_
  refine .region ?_
  refine .skips 1 rfl ?_
  refine .fieldAddr Try.underlying34 rfl Try.sizeOf32 rfl (o := 8) rfl rfl rfl ?_
  refine .load1 Try.isAgg32 rfl (.s (.s (.s .z))) rfl rfl rfl ?_
  refine .own0 eTriple 83 ?_
  obtain ⟨hl53, hd⟩ := hd
  refine .append (ys := a0.Triples) 24 .z Try.underlying32 Try.underlying32 IN83 rfl rfl rfl rfl rfl rfl rfl rfl rfl (.imm R9 rfl) hl53 rfl rfl fun p54 c55 => ?_
  refine .sub (E' := [(1, _), (2, _), (3, _), (4, _), (15, _), (16, _), (17, _), (18, _)]) ⟨rfl, rfl, rfl, rfl, rfl, rfl, rfl, rfl, trivial⟩ ?_
  refine .skips 1 rfl ?_
  refine .nil' fun c w ho hs => Cod.at (E := [(1, _), (2, _), (3, _), (4, _), (5, _)]) (ho.sub ⟨rfl, rfl, rfl, rfl, rfl, trivial⟩) hs ?_
  refine .seq ?_
  refine .region ?_
  refine .skips 1 rfl ?_
  refine .fieldAddr Try.underlying34 rfl Try.sizeOf30 rfl (o := 5) rfl rfl rfl ?_
  refine .fieldAddr Try.underlying30 rfl Try.sizeOf28 rfl (o := 6) rfl rfl rfl ?_
  refine .store1 Try.sizeOf28 rfl rfl (.s (.s (.s (.s .z)))) (.s (.s (.s (.s (.s (.s (.t .nil))))))) rfl ?_
  refine .nil' fun c w ho hs => Cod.at (E := [(1, _), (2, _), (4, _), (5, _)]) (ho.sub ⟨rfl, rfl, rfl, rfl, trivial⟩) hs ?_
  refine .seq ?_
  refine .region ?_
  refine .skips 1 rfl ?_
  refine .fieldAddr Try.underlying34 rfl Try.sizeOf31 rfl (o := 7) rfl rfl rfl ?_
  refine .store1 Try.sizeOf31 rfl rfl (.s (.s (.s (.s .z)))) (.s (.s (.s (.s (.s (.s (.s (.t .nil)))))))) rfl ?_
  refine .nil' fun c w ho hs => Cod.at (E := [(1, _), (2, _), (5, _)]) (ho.sub ⟨rfl, rfl, rfl, trivial⟩) hs ?_
  refine .seq ?_
  refine .region ?_
  refine .skips 1 rfl ?_
  refine .fieldAddr Try.underlying34 rfl Try.sizeOf32 rfl (o := 8) rfl rfl rfl ?_
  refine .store1 Try.sizeOf32 rfl rfl (.s (.s (.s (.s .z)))) (.s (.s (.s (.s (.s (.s (.s (.s (.t .nil))))))))) rfl ?_
  refine .nil' fun c w ho hs => Cod.at (E := [(1, _), (2, _)]) (ho.sub ⟨rfl, rfl, trivial⟩) hs ?_
  refine .seq ?_
  refine .region ?_
  refine .loadW Try.isAgg34 Try.sizeOf34 rfl (.s (.s (.s (.s .z)))) rfl rfl rfl ?_
  refine .storeA Try.sizeOf34 rfl rfl (.s (.s (.s .z))) (.t (.t (.t (.t (.t (.t (.t (.t (.t (.t (.t .nil))))))))))) rfl rfl ?_
  refine .nil' fun c w ho hs => Cod.at (E := [(2, _)]) (ho.sub ⟨rfl, trivial⟩) hs ?_
  refine .drop (.s (.s (.s (.s .z)))) ?_
  refine .pub (.s (.s .z)) fun I57 hl58 R59 => ?_
  have le60 := IH.le.trans (.refl _) hl58
  refine .pub (.s .z) fun I61 hl62 R63 => ?_
  have le64 := IH.le.trans le60 hl62
  replace R59 := R59.mono hl62
  refine .pub .z fun I65 hl66 R67 => ?_
  have le68 := IH.le.trans le64 hl66
  replace R59 := R59.mono hl66
  replace R63 := R63.mono hl66
  exact .ret (pret Try.results43 (.w Try.isAgg34 Try.sizeOf34 rfl .z rfl .n) le68 ⟨({ Kind := a0.Kind, From := a0.From, To := a0.To, Seq := a0.Seq, Round := a0.Round, Vec := ({ N := a0.Vec.N, Items := (([] : List Item) ++ a0.Vec.Items) } : Vec), Sums := (([] : List Sum) ++ a0.Sums), Triples := (([] : List Triple) ++ a0.Triples), N := a0.N, Over := a0.Over } : Frame), _, _, _, _, _, _, rfl, R59, R63, R67, hd⟩)

theorem W_ref07_SameItems {I : IH} {a0 : List Item} {a1 : List Item} {p1 : Option Addr} {c2 : Nat} {p4 : Option Addr} {c5 : Nat} {Q : Bool → Prop} (R3 : RepSl eItem I p1 c2 a0) (R6 : RepSl eItem I p4 c5 a1) (hd : ref07_SameItems a0 a1 Q) :
    PFun Try.prog 49 [.slice p1 a0.length c2, .slice p4 a1.length c5] I (fun I_ v => ∃ r, v = .bool r ∧ Q r) := by
  refine Fun.enter Try.func49 rfl Try.ntmps49 rfl (.c (.c .n)) fun w0 M => ?_
  refine .seq ?_
  refine .region ?_
  refine .skips 1 rfl ?_
  refine .nil' fun c w ho hs => Cod.at (E := [(0, _), (1, _)]) (ho.sub ⟨rfl, rfl, trivial⟩) hs ?_
  refine .seq ?_
  refine .seq ?_
  refine .region ?_
  refine .skips 1 rfl ?_
  refine .len Try.underlying28 rfl rfl rfl rfl ?_
  refine .skips 1 rfl ?_
  refine .len Try.underlying28 rfl rfl rfl rfl ?_
  refine .ne rfl rfl rfl rfl ?_
  refine .nil' fun c w ho hs => Cod.at (E := [(0, _), (1, _), (10, _)]) (ho.sub ⟨rfl, rfl, rfl, trivial⟩) hs ?_
  refine .cond rfl (fun hb8 => ?_) (fun hb8 => ?_)
  · have hd := hd.1 hb8
    refine .seq ?_
    refine .region ?_
    refine .skips 1 rfl ?_
    refine .nil' fun c w ho hs => Cod.at (E := [(4, _)]) (ho.sub ⟨rfl, trivial⟩) hs ?_
    exact .ret (pret Try.results49 (.t rfl .n) (.refl _) ⟨false, rfl, hd⟩)
  · have hd := hd.2 hb8
    refine .skip' fun c w ho hs => Cod.at (E := [(0, _), (1, _)]) (ho.sub ⟨rfl, rfl, trivial⟩) hs ?_
    refine .seq ?_
    refine .seq ?_
    refine .region ?_
    refine .skips 1 rfl ?_
    refine .nil' fun c w ho hs => Cod.at (E := [(0, _), (1, _), (5, _)]) (ho.sub ⟨rfl, rfl, rfl, trivial⟩) hs ?_
    refine .block ?_
    refine .loop hd (fun (s54 : Int) c w => ∃ I_, IH.le I I_ ∧ Ok 26 [(0, .slice p1 a0.length c2), (1, .slice p4 a1.length c5), (5, .int .i64 s54)] c ∧ Sym w0 M I I_ [] w) (fun c w ho hs => ⟨I, (.refl _), ho.sub ⟨rfl, rfl, rfl, trivial⟩, hs.pick .n⟩) ?_
    rintro s54 next55 hd c w hst
    obtain ⟨I56, hl57, hok, hsym⟩ := hst
    have le58 := IH.le.trans (.refl _) hl57
    replace R3 := R3.mono hl57
    replace R6 := R6.mono hl57
    refine Cod.at hok hsym ?_
    refine .seq ?_
    refine .seq ?_
    refine .region ?_
    refine .skips 2 rfl ?_
    refine .len Try.underlying28 rfl rfl rfl rfl ?_
    refine .lt rfl rfl rfl rfl ?_
    refine .nil' fun c w ho hs => Cod.at (E := [(0, _), (1, _), (5, _), (14, _)]) (ho.sub ⟨rfl, rfl, rfl, rfl, trivial⟩) hs ?_
    refine .cond rfl (fun hb60 => ?_) (fun hb60 => ?_)
    · have hd := hd.1 hb60
      refine .skip' fun c w ho hs => Cod.at (E := [(0, _), (1, _), (5, _)]) (ho.sub ⟨rfl, rfl, rfl, trivial⟩) hs ?_
      refine .seq ?_
      refine .block ?_
      refine .seq ?_
      refine .draw [some 0, some 1, some 2, some 3, some 4, some 5, some 6, some 7, some 8] 9 MX (by kernel_rfl) (by kernel_rfl) (by kernel_rfl) (by kernel_rfl) (by kernel_rfl) (by kernel_rfl) (by kernel_rfl) (fun ex => ex) (fun _ _ => .z) rfl ?_
      refine .f [] rfl (by kernel_rfl) rfl rfl (fun ex => .move rfl rfl rfl .mk) ?_
      refine .f [] rfl (by kernel_rfl) rfl rfl (fun ex => .move rfl rfl rfl .mk) ?_
      obtain ⟨h61, x62, hx63, hd⟩ := hd
      obtain ⟨b64, o65, cs66, e67, hC68, hr69⟩ := R3.2 _ _ hx63
      cases hr69
      refine .f [0, 1] rfl (by kernel_rfl) rfl rfl (fun ex => .ixa Try.underlying28 Try.sizeOf71 rfl e67 rfl h61 (idx_lt hx63 h61) rfl rfl .mk) ?_
      refine .f [2] rfl (by kernel_rfl) rfl rfl (fun ex => .ldW Try.isAgg71 Try.sizeOf71 hC68 rfl rfl rfl rfl .mk) ?_
      refine .f [] rfl (by kernel_rfl) rfl rfl (fun ex => .move rfl rfl rfl .mk) ?_
      refine .f [] rfl (by kernel_rfl) rfl rfl (fun ex => .move rfl rfl rfl .mk) ?_
      obtain ⟨h70, x71, hx72, hd⟩ := hd
      obtain ⟨b73, o74, cs75, e76, hC77, hr78⟩ := R6.2 _ _ hx72
      cases hr78
      refine .f [4, 5] rfl (by kernel_rfl) rfl rfl (fun ex => .ixa Try.underlying28 Try.sizeOf71 rfl e76 rfl h70 (idx_lt hx72 h70) rfl rfl .mk) ?_
      refine .f [6] rfl (by kernel_rfl) rfl rfl (fun ex => .ldW Try.isAgg71 Try.sizeOf71 hC77 rfl rfl rfl rfl .mk) ?_
      refine .f [3, 7] rfl (by kernel_rfl) rfl rfl (fun ex => .neV rfl rfl (EQ71 x62 x71) (EG71 _ _ _ _ _) rfl rfl rfl .mk) ?_
      refine .e 9 (by kernel_rfl) (by kernel_rfl) (by kernel_rfl) ?_
      refine .nil' fun c w ho hs => Cod.at (E := [(0, _), (1, _), (5, _), (25, _)]) (ho.sub ⟨rfl, rfl, rfl, rfl, trivial⟩) hs ?_
      refine .cond rfl (fun hb79 => ?_) (fun hb79 => ?_)
      · have hd := hd.1 hb79
        refine .seq ?_
        refine .region ?_
        refine .skips 1 rfl ?_
        refine .nil' fun c w ho hs => Cod.at (E := [(4, _)]) (ho.sub ⟨rfl, trivial⟩) hs ?_
        exact .ret (pret Try.results49 (.t rfl .n) le58 ⟨false, rfl, hd⟩)
      · have hd := hd.2 hb79
        refine .skip' fun c w ho hs => Cod.at (E := [(0, _), (1, _), (5, _)]) (ho.sub ⟨rfl, rfl, rfl, trivial⟩) hs ?_
        refine .region ?_
        refine .skips 1 rfl ?_
        refine .add rfl rfl rfl rfl ?_
        refine .sub (E' := [(0, _), (1, _), (15, _), (16, _)]) ⟨rfl, rfl, rfl, rfl, trivial⟩ ?_
        refine .skips 1 rfl ?_
        exact .nil' fun c w ho hs => ⟨(w64 (s54 + 1)), hd, I56, le58, ho.sub ⟨rfl, rfl, rfl, trivial⟩, hs.pick .n⟩
    · have hd := hd.2 hb60
      refine .exit fun c w ho hs => Cod.at (E := []) (ho.sub trivial) hs ?_
      refine .seq ?_
      refine .region ?_
      refine .skips 1 rfl ?_
      refine .nil' fun c w ho hs => Cod.at (E := [(4, _)]) (ho.sub ⟨rfl, trivial⟩) hs ?_
      exact .ret (pret Try.results49 (.t rfl .n) le58 ⟨true, rfl, hd⟩)

theorem W_ref09_Same {I : IH} {a0 : Vec} {a1 : Vec} {p1 : Option Addr} {c2 : Nat} {p4 : Option Addr} {c5 : Nat} {Q : Bool → Prop} (R3 : RepSl eItem I p1 c2 a0.Items) (R6 : RepSl eItem I p4 c5 a1.Items) (hd : ref09_Same a0 a1 Q) :
    PFun Try.prog 46 [.agg #[.int .i64 a0.N, .slice p1 a0.Items.length c2], .agg #[.int .i64 a1.N, .slice p4 a1.Items.length c5]] I (fun I_ v => ∃ r, v = .bool r ∧ Q r) := by
  refine Fun.enter Try.func46 rfl Try.ntmps46 rfl (.c (.c .n)) fun w0 M => ?_
  refine .seq ?_
  refine .region ?_
  refine .boxA rfl rfl rfl fun b11 => ?_
  refine .boxA rfl rfl rfl fun b13 => ?_
  refine .skips 1 rfl ?_
  refine .nil' fun c w ho hs => Cod.at (E := [(2, _), (3, _)]) (ho.sub ⟨rfl, rfl, trivial⟩) hs ?_
  refine .seq ?_
  refine .region ?_
  refine .fieldAddr Try.underlying30 rfl Try.sizeOf3 rfl (o := 0) rfl rfl rfl ?_
  refine .load1 Try.isAgg3 rfl (.s .z) rfl rfl rfl ?_
  refine .fieldAddr Try.underlying30 rfl Try.sizeOf3 rfl (o := 0) rfl rfl rfl ?_
  refine .load1 Try.isAgg3 rfl .z rfl rfl rfl ?_
  refine .eq rfl rfl rfl rfl ?_
  refine .skips 1 rfl ?_
  refine split (a0.N == a1.N) (fun hb15 => ?_) (fun hb15 => ?_)
  · have hd := hd.1 hb15
    rw [hb15]
    refine .gyes rfl rfl rfl (.fieldAddr Try.underlying30 rfl Try.sizeOf28 rfl (o := 1) rfl rfl rfl ?_)
    refine .gyes rfl rfl rfl (.load1 Try.isAgg28 rfl (.s .z) rfl rfl rfl ?_)
    refine .gyes rfl rfl rfl (.fieldAddr Try.underlying30 rfl Try.sizeOf28 rfl (o := 1) rfl rfl rfl ?_)
    refine .gyes rfl rfl rfl (.load1 Try.isAgg28 rfl .z rfl rfl rfl ?_)
    have hw22 := W_ref07_SameItems (I := I) R3 R6 hd
    refine .gyes rfl rfl rfl (.call Try.call49 rfl hw22 rfl rfl fun v20 I17 hl18 hv19 => ?_)
    obtain ⟨r16, rfl, hd⟩ := hv19
    have le23 := IH.le.trans (.refl _) hl18
    replace R3 := R3.mono hl18
    replace R6 := R6.mono hl18
    refine .skips 2 rfl ?_
    refine .nil' fun c w ho hs => Cod.at (E := [(4, _)]) (ho.sub ⟨rfl, trivial⟩) hs ?_
    refine .drop .z ?_
    refine .drop .z ?_
    exact .ret (pret Try.results46 (.t rfl .n) le23 ⟨r16, rfl, hd⟩)
  · have hd := hd.2 hb15
    rw [hb15]
    refine .skips 7 rfl ?_
    refine .nil' fun c w ho hs => Cod.at (E := [(4, _)]) (ho.sub ⟨rfl, trivial⟩) hs ?_
    refine .drop .z ?_
    refine .drop .z ?_
    exact .ret (pret Try.results46 (.t rfl .n) (.refl _) ⟨false, rfl, hd⟩)

theorem W_ref13_SameSums {I : IH} {a0 : List Sum} {a1 : List Sum} {p1 : Option Addr} {c2 : Nat} {p4 : Option Addr} {c5 : Nat} {Q : Bool → Prop} (R3 : RepSl eSum I p1 c2 a0) (R6 : RepSl eSum I p4 c5 a1) (hd : ref13_SameSums a0 a1 Q) :
    PFun Try.prog 47 [.slice p1 a0.length c2, .slice p4 a1.length c5] I (fun I_ v => ∃ r, v = .bool r ∧ Q r) := by
  refine Fun.enter Try.func47 rfl Try.ntmps47 rfl (.c (.c .n)) fun w0 M => ?_
  refine .seq ?_
  refine .region ?_
  refine .skips 1 rfl ?_
  refine .nil' fun c w ho hs => Cod.at (E := [(0, _), (1, _)]) (ho.sub ⟨rfl, rfl, trivial⟩) hs ?_
  refine .seq ?_
  refine .seq ?_
  refine .region ?_
  refine .skips 1 rfl ?_
  refine .len Try.underlying31 rfl rfl rfl rfl ?_
  refine .skips 1 rfl ?_
  refine .len Try.underlying31 rfl rfl rfl rfl ?_
  refine .ne rfl rfl rfl rfl ?_
  refine .nil' fun c w ho hs => Cod.at (E := [(0, _), (1, _), (10, _)]) (ho.sub ⟨rfl, rfl, rfl, trivial⟩) hs ?_
  refine .cond rfl (fun hb8 => ?_) (fun hb8 => ?_)
  · have hd := hd.1 hb8
    refine .seq ?_
    refine .region ?_
    refine .skips 1 rfl ?_
    refine .nil' fun c w ho hs => Cod.at (E := [(4, _)]) (ho.sub ⟨rfl, trivial⟩) hs ?_
    exact .ret (pret Try.results47 (.t rfl .n) (.refl _) ⟨false, rfl, hd⟩)
  · have hd := hd.2 hb8
    refine .skip' fun c w ho hs => Cod.at (E := [(0, _), (1, _)]) (ho.sub ⟨rfl, rfl, trivial⟩) hs ?_
    refine .seq ?_
    refine .seq ?_
    refine .region ?_
    refine .skips 1 rfl ?_
    refine .nil' fun c w ho hs => Cod.at (E := [(0, _), (1, _), (5, _)]) (ho.sub ⟨rfl, rfl, rfl, trivial⟩) hs ?_
    refine .block ?_
    refine .loop hd (fun (s54 : Int) c w => ∃ I_, IH.le I I_ ∧ Ok 26 [(0, .slice p1 a0.length c2), (1, .slice p4 a1.length c5), (5, .int .i64 s54)] c ∧ Sym w0 M I I_ [] w) (fun c w ho hs => ⟨I, (.refl _), ho.sub ⟨rfl, rfl, rfl, trivial⟩, hs.pick .n⟩) ?_
    rintro s54 next55 hd c w hst
    obtain ⟨I56, hl57, hok, hsym⟩ := hst
    have le58 := IH.le.trans (.refl _) hl57
    replace R3 := R3.mono hl57
    replace R6 := R6.mono hl57
    refine Cod.at hok hsym ?_
    refine .seq ?_
    refine .seq ?_
    refine .region ?_
    refine .skips 2 rfl ?_
    refine .len Try.underlying31 rfl rfl rfl rfl ?_
    refine .lt rfl rfl rfl rfl ?_
    refine .nil' fun c w ho hs => Cod.at (E := [(0, _), (1, _), (5, _), (14, _)]) (ho.sub ⟨rfl, rfl, rfl, rfl, trivial⟩) hs ?_
    refine .cond rfl (fun hb60 => ?_) (fun hb60 => ?_)
    · have hd := hd.1 hb60
      refine .skip' fun c w ho hs => Cod.at (E := [(0, _), (1, _), (5, _)]) (ho.sub ⟨rfl, rfl, rfl, trivial⟩) hs ?_
      refine .seq ?_
      refine .block ?_
      refine .seq ?_
      refine .draw [some 0, some 1, some 2, some 3, some 4, some 5, some 6, some 7, some 8] 9 MX (by kernel_rfl) (by kernel_rfl) (by kernel_rfl) (by kernel_rfl) (by kernel_rfl) (by kernel_rfl) (by kernel_rfl) (fun ex => ex) (fun _ _ => .z) rfl ?_
      refine .f [] rfl (by kernel_rfl) rfl rfl (fun ex => .move rfl rfl rfl .mk) ?_
      refine .f [] rfl (by kernel_rfl) rfl rfl (fun ex => .move rfl rfl rfl .mk) ?_
      obtain ⟨h61, x62, hx63, hd⟩ := hd
      obtain ⟨b64, o65, cs66, e67, hC68, hr69⟩ := R3.2 _ _ hx63
      cases hr69
      refine .f [0, 1] rfl (by kernel_rfl) rfl rfl (fun ex => .ixa Try.underlying31 Try.sizeOf80 rfl e67 rfl h61 (idx_lt hx63 h61) rfl rfl .mk) ?_
      refine .f [2] rfl (by kernel_rfl) rfl rfl (fun ex => .ldW Try.isAgg80 Try.sizeOf80 hC68 rfl rfl rfl rfl .mk) ?_
      refine .f [] rfl (by kernel_rfl) rfl rfl (fun ex => .move rfl rfl rfl .mk) ?_
      refine .f [] rfl (by kernel_rfl) rfl rfl (fun ex => .move rfl rfl rfl .mk) ?_
      obtain ⟨h70, x71, hx72, hd⟩ := hd
      obtain ⟨b73, o74, cs75, e76, hC77, hr78⟩ := R6.2 _ _ hx72
      cases hr78
      refine .f [4, 5] rfl (by kernel_rfl) rfl rfl (fun ex => .ixa Try.underlying31 Try.sizeOf80 rfl e76 rfl h70 (idx_lt hx72 h70) rfl rfl .mk) ?_
      refine .f [6] rfl (by kernel_rfl) rfl rfl (fun ex => .ldW Try.isAgg80 Try.sizeOf80 hC77 rfl rfl rfl rfl .mk) ?_
      refine .f [3, 7] rfl (by kernel_rfl) rfl rfl (fun ex => .neV rfl rfl (EQ80 x62 x71) (EG80 _ _ _ _ _) rfl rfl rfl .mk) ?_
      refine .e 9 (by kernel_rfl) (by kernel_rfl) (by kernel_rfl) ?_
      refine .nil' fun c w ho hs => Cod.at (E := [(0, _), (1, _), (5, _), (25, _)]) (ho.sub ⟨rfl, rfl, rfl, rfl, trivial⟩) hs ?_
      refine .cond rfl (fun hb79 => ?_) (fun hb79 => ?_)
      · have hd := hd.1 hb79
        refine .seq ?_
        refine .region ?_
        refine .skips 1 rfl ?_
        refine .nil' fun c w ho hs => Cod.at (E := [(4, _)]) (ho.sub ⟨rfl, trivial⟩) hs ?_
        exact .ret (pret Try.results47 (.t rfl .n) le58 ⟨false, rfl, hd⟩)
      · have hd := hd.2 hb79
        refine .skip' fun c w ho hs => Cod.at (E := [(0, _), (1, _), (5, _)]) (ho.sub ⟨rfl, rfl, rfl, trivial⟩) hs ?_
        refine .region ?_
        refine .skips 1 rfl ?_
        refine .add rfl rfl rfl rfl ?_
        refine .sub (E' := [(0, _), (1, _), (15, _), (16, _)]) ⟨rfl, rfl, rfl, rfl, trivial⟩ ?_
        refine .skips 1 rfl ?_
        exact .nil' fun c w ho hs => ⟨(w64 (s54 + 1)), hd, I56, le58, ho.sub ⟨rfl, rfl, rfl, trivial⟩, hs.pick .n⟩
    · have hd := hd.2 hb60
      refine .exit fun c w ho hs => Cod.at (E := []) (ho.sub trivial) hs ?_
      refine .seq ?_
      refine .region ?_
      refine .skips 1 rfl ?_
      refine .nil' fun c w ho hs => Cod.at (E := [(4, _)]) (ho.sub ⟨rfl, trivial⟩) hs ?_
      exact .ret (pret Try.results47 (.t rfl .n) le58 ⟨true, rfl, hd⟩)

theorem W_ref06_SameTriples {I : IH} {a0 : List Triple} {a1 : List Triple} {p1 : Option Addr} {c2 : Nat} {p4 : Option Addr} {c5 : Nat} {Q : Bool → Prop} (R3 : RepSl eTriple I p1 c2 a0) (R6 : RepSl eTriple I p4 c5 a1) (hd : ref06_SameTriples a0 a1 Q) :
    PFun Try.prog 48 [.slice p1 a0.length c2, .slice p4 a1.length c5] I (fun I_ v => ∃ r, v = .bool r ∧ Q r) := by
  refine Fun.enter Try.func48 rfl Try.ntmps48 rfl (.c (.c .n)) fun w0 M => ?_
  refine .seq ?_
  refine .region ?_
  refine .skips 1 rfl ?_
  refine .nil' fun c w ho hs => Cod.at (E := [(0, _), (1, _)]) (ho.sub ⟨rfl, rfl, trivial⟩) hs ?_
  refine .seq ?_
  refine .seq ?_
  refine .region ?_
  refine .skips 1 rfl ?_
  refine .len Try.underlying32 rfl rfl rfl rfl ?_
  refine .skips 1 rfl ?_
  refine .len Try.underlying32 rfl rfl rfl rfl ?_
  refine .ne rfl rfl rfl rfl ?_
  refine .nil' fun c w ho hs => Cod.at (E := [(0, _), (1, _), (10, _)]) (ho.sub ⟨rfl, rfl, rfl, trivial⟩) hs ?_
  refine .cond rfl (fun hb8 => ?_) (fun hb8 => ?_)
  · have hd := hd.1 hb8
    refine .seq ?_
    refine .region ?_
    refine .skips 1 rfl ?_
    refine .nil' fun c w ho hs => Cod.at (E := [(4, _)]) (ho.sub ⟨rfl, trivial⟩) hs ?_
    exact .ret (pret Try.results48 (.t rfl .n) (.refl _) ⟨false, rfl, hd⟩)
  · have hd := hd.2 hb8
    refine .skip' fun c w ho hs => Cod.at (E := [(0, _), (1, _)]) (ho.sub ⟨rfl, rfl, trivial⟩) hs ?_
    refine .seq ?_
    refine .seq ?_
    refine .region ?_
    refine .skips 1 rfl ?_
    refine .nil' fun c w ho hs => Cod.at (E := [(0, _), (1, _), (5, _)]) (ho.sub ⟨rfl, rfl, rfl, trivial⟩) hs ?_
    refine .block ?_
    refine .loop hd (fun (s54 : Int) c w => ∃ I_, IH.le I I_ ∧ Ok 26 [(0, .slice p1 a0.length c2), (1, .slice p4 a1.length c5), (5, .int .i64 s54)] c ∧ Sym w0 M I I_ [] w) (fun c w ho hs => ⟨I, (.refl _), ho.sub ⟨rfl, rfl, rfl, trivial⟩, hs.pick .n⟩) ?_
    rintro s54 next55 hd c w hst
    obtain ⟨I56, hl57, hok, hsym⟩ := hst
    have le58 := IH.le.trans (.refl _) hl57
    replace R3 := R3.mono hl57
    replace R6 := R6.mono hl57
    refine Cod.at hok hsym ?_
    refine .seq ?_
    refine .seq ?_
    refine .region ?_
    refine .skips 2 rfl ?_
    refine .len Try.underlying32 rfl rfl rfl rfl ?_
    refine .lt rfl rfl rfl rfl ?_
    refine .nil' fun c w ho hs => Cod.at (E := [(0, _), (1, _), (5, _), (14, _)]) (ho.sub ⟨rfl, rfl, rfl, rfl, trivial⟩) hs ?_
    refine .cond rfl (fun hb60 => ?_) (fun hb60 => ?_)
    · have hd := hd.1 hb60
      refine .skip' fun c w ho hs => Cod.at (E := [(0, _), (1, _), (5, _)]) (ho.sub ⟨rfl, rfl, rfl, trivial⟩) hs ?_
      refine .seq ?_
      refine .block ?_
      refine .seq ?_
      refine .draw [some 0, some 1, some 2, some 3, some 4, some 5, some 6, some 7, some 8] 9 MX (by kernel_rfl) (by kernel_rfl) (by kernel_rfl) (by kernel_rfl) (by kernel_rfl) (by kernel_rfl) (by kernel_rfl) (fun ex => ex) (fun _ _ => .z) rfl ?_
      refine .f [] rfl (by kernel_rfl) rfl rfl (fun ex => .move rfl rfl rfl .mk) ?_
      refine .f [] rfl (by kernel_rfl) rfl rfl (fun ex => .move rfl rfl rfl .mk) ?_
      obtain ⟨h61, x62, hx63, hd⟩ := hd
      obtain ⟨b64, o65, cs66, e67, hC68, hr69⟩ := R3.2 _ _ hx63
      cases hr69
      refine .f [0, 1] rfl (by kernel_rfl) rfl rfl (fun ex => .ixa Try.underlying32 Try.sizeOf83 rfl e67 rfl h61 (idx_lt hx63 h61) rfl rfl .mk) ?_
      refine .f [2] rfl (by kernel_rfl) rfl rfl (fun ex => .ldW Try.isAgg83 Try.sizeOf83 hC68 rfl rfl rfl rfl .mk) ?_
      refine .f [] rfl (by kernel_rfl) rfl rfl (fun ex => .move rfl rfl rfl .mk) ?_
      refine .f [] rfl (by kernel_rfl) rfl rfl (fun ex => .move rfl rfl rfl .mk) ?_
      obtain ⟨h70, x71, hx72, hd⟩ := hd
      obtain ⟨b73, o74, cs75, e76, hC77, hr78⟩ := R6.2 _ _ hx72
      cases hr78
      refine .f [4, 5] rfl (by kernel_rfl) rfl rfl (fun ex => .ixa Try.underlying32 Try.sizeOf83 rfl e76 rfl h70 (idx_lt hx72 h70) rfl rfl .mk) ?_
      refine .f [6] rfl (by kernel_rfl) rfl rfl (fun ex => .ldW Try.isAgg83 Try.sizeOf83 hC77 rfl rfl rfl rfl .mk) ?_
      refine .f [3, 7] rfl (by kernel_rfl) rfl rfl (fun ex => .neV rfl rfl (EQ83 x62 x71) (EG83 _ _ _ _ _) rfl rfl rfl .mk) ?_
      refine .e 9 (by kernel_rfl) (by kernel_rfl) (by kernel_rfl) ?_
      refine .nil' fun c w ho hs => Cod.at (E := [(0, _), (1, _), (5, _), (25, _)]) (ho.sub ⟨rfl, rfl, rfl, rfl, trivial⟩) hs ?_
      refine .cond rfl (fun hb79 => ?_) (fun hb79 => ?_)
      · have hd := hd.1 hb79
        refine .seq ?_
        refine .region ?_
        refine .skips 1 rfl ?_
        refine .nil' fun c w ho hs => Cod.at (E := [(4, _)]) (ho.sub ⟨rfl, trivial⟩) hs ?_
        exact .ret (pret Try.results48 (.t rfl .n) le58 ⟨false, rfl, hd⟩)
      · have hd := hd.2 hb79
        refine .skip' fun c w ho hs => Cod.at (E := [(0, _), (1, _), (5, _)]) (ho.sub ⟨rfl, rfl, rfl, trivial⟩) hs ?_
        refine .region ?_
        refine .skips 1 rfl ?_
        refine .add rfl rfl rfl rfl ?_
        refine .sub (E' := [(0, _), (1, _), (15, _), (16, _)]) ⟨rfl, rfl, rfl, rfl, trivial⟩ ?_
        refine .skips 1 rfl ?_
        exact .nil' fun c w ho hs => ⟨(w64 (s54 + 1)), hd, I56, le58, ho.sub ⟨rfl, rfl, rfl, trivial⟩, hs.pick .n⟩
    · have hd := hd.2 hb60
      refine .exit fun c w ho hs => Cod.at (E := []) (ho.sub trivial) hs ?_
      refine .seq ?_
      refine .region ?_
      refine .skips 1 rfl ?_
      refine .nil' fun c w ho hs => Cod.at (E := [(4, _)]) (ho.sub ⟨rfl, trivial⟩) hs ?_
      exact .ret (pret Try.results48 (.t rfl .n) le58 ⟨true, rfl, hd⟩)

end Go.Proofs.Ytjpmbedipdkakaa
