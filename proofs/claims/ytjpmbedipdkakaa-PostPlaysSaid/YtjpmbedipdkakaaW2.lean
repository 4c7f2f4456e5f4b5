/- The walks (printed by a program of ours). -/
import Derived.Test.YtjpmbedipdkakaaW1
namespace Go.Proofs.Ytjpmbedipdkakaa
open Go Go.Fw
set_option linter.unusedVariables false
set_option maxRecDepth 8000
set_option maxHeartbeats 1000000
theorem W_ref19_Same {I : IH} {a0 : Frame} {a1 : Frame} {p1 : Option Addr} {c2 : Nat} {p4 : Option Addr} {c5 : Nat} {p7 : Option Addr} {c8 : Nat} {p10 : Option Addr} {c11 : Nat} {p13 : Option Addr} {c14 : Nat} {p16 : Option Addr} {c17 : Nat} {Q : Bool → Prop} (R3 : RepSl eItem I p1 c2 a0.Vec.Items) (R6 : RepSl eSum I p4 c5 a0.Sums) (R9 : RepSl eTriple I p7 c8 a0.Triples) (R12 : RepSl eItem I p10 c11 a1.Vec.Items) (R15 : RepSl eSum I p13 c14 a1.Sums) (R18 : RepSl eTriple I p16 c17 a1.Triples) (hd : ref19_Same a0 a1 Q) :
    PFun Try.prog 37 [.agg #[.int .i64 a0.Kind, .int .i64 a0.From, .int .i64 a0.To, .int .i64 a0.Seq, .int .i64 a0.Round, .int .i64 a0.Vec.N, .slice p1 a0.Vec.Items.length c2, .slice p4 a0.Sums.length c5, .slice p7 a0.Triples.length c8, .int .i64 a0.N, .bool a0.Over], .agg #[.int .i64 a1.Kind, .int .i64 a1.From, .int .i64 a1.To, .int .i64 a1.Seq, .int .i64 a1.Round, .int .i64 a1.Vec.N, .slice p10 a1.Vec.Items.length c11, .slice p13 a1.Sums.length c14, .slice p16 a1.Triples.length c17, .int .i64 a1.N, .bool a1.Over]] I (fun I_ v => ∃ r, v = .bool r ∧ Q r) := by
  refine Fun.enter Try.func37 rfl Try.ntmps37 rfl (.c (.c .n)) fun w0 M => ?_
  refine .seq ?_
  refine .region ?_
  refine .boxA rfl rfl rfl fun b23 => ?_
  refine .boxA rfl rfl rfl fun b25 => ?_
  refine .skips 1 rfl ?_
  refine .nil' fun c w ho hs => Cod.at (E := [(2, _), (3, _)]) (ho.sub ⟨rfl, rfl, trivial⟩) hs ?_
  refine .seq ?_
  refine .region ?_
  refine .fieldAddr Try.underlying34 rfl Try.sizeOf27 rfl (o := 0) rfl rfl rfl ?_
  refine .load1 Try.isAgg27 rfl (.s .z) rfl rfl rfl ?_
  refine .fieldAddr Try.underlying34 rfl Try.sizeOf27 rfl (o := 0) rfl rfl rfl ?_
  refine .load1 Try.isAgg27 rfl .z rfl rfl rfl ?_
  refine .eq rfl rfl rfl rfl ?_
  refine .skips 1 rfl ?_
  refine split (a0.Kind == a1.Kind) (fun hb27 => ?_) (fun hb27 => ?_)
  · have hd := hd.1 hb27
    rw [hb27]
    refine .gyes rfl rfl rfl (.fieldAddr Try.underlying34 rfl Try.sizeOf3 rfl (o := 1) rfl rfl rfl ?_)
    refine .gyes rfl rfl rfl (.load1 Try.isAgg3 rfl (.s .z) rfl rfl rfl ?_)
    refine .gyes rfl rfl rfl (.fieldAddr Try.underlying34 rfl Try.sizeOf3 rfl (o := 1) rfl rfl rfl ?_)
    refine .gyes rfl rfl rfl (.load1 Try.isAgg3 rfl .z rfl rfl rfl ?_)
    refine .gyes rfl rfl rfl (.eq rfl rfl rfl rfl ?_)
    refine .skips 2 rfl ?_
    refine split (a0.From == a1.From) (fun hb28 => ?_) (fun hb28 => ?_)
    · have hd := hd.1 hb28
      rw [hb28]
      refine .gyes rfl rfl rfl (.fieldAddr Try.underlying34 rfl Try.sizeOf3 rfl (o := 2) rfl rfl rfl ?_)
      refine .gyes rfl rfl rfl (.load1 Try.isAgg3 rfl (.s .z) rfl rfl rfl ?_)
      refine .gyes rfl rfl rfl (.fieldAddr Try.underlying34 rfl Try.sizeOf3 rfl (o := 2) rfl rfl rfl ?_)
      refine .gyes rfl rfl rfl (.load1 Try.isAgg3 rfl .z rfl rfl rfl ?_)
      refine .gyes rfl rfl rfl (.eq rfl rfl rfl rfl ?_)
      refine .skips 2 rfl ?_
      refine split (a0.To == a1.To) (fun hb29 => ?_) (fun hb29 => ?_)
      · have hd := hd.1 hb29
        rw [hb29]
        refine .gyes rfl rfl rfl (.fieldAddr Try.underlying34 rfl Try.sizeOf3 rfl (o := 3) rfl rfl rfl ?_)
        refine .gyes rfl rfl rfl (.load1 Try.isAgg3 rfl (.s .z) rfl rfl rfl ?_)
        refine .gyes rfl rfl rfl (.fieldAddr Try.underlying34 rfl Try.sizeOf3 rfl (o := 3) rfl rfl rfl ?_)
        refine .gyes rfl rfl rfl (.load1 Try.isAgg3 rfl .z rfl rfl rfl ?_)
        refine .gyes rfl rfl rfl (.eq rfl rfl rfl rfl ?_)
        refine .skips 2 rfl ?_
        refine split (a0.Seq == a1.Seq) (fun hb30 => ?_) (fun hb30 => ?_)
        · have hd := hd.1 hb30
          rw [hb30]
          refine .gyes rfl rfl rfl (.fieldAddr Try.underlying34 rfl Try.sizeOf3 rfl (o := 4) rfl rfl rfl ?_)
          refine .gyes rfl rfl rfl (.load1 Try.isAgg3 rfl (.s .z) rfl rfl rfl ?_)
          refine .gyes rfl rfl rfl (.fieldAddr Try.underlying34 rfl Try.sizeOf3 rfl (o := 4) rfl rfl rfl ?_)
          refine .gyes rfl rfl rfl (.load1 Try.isAgg3 rfl .z rfl rfl rfl ?_)
          refine .gyes rfl rfl rfl (.eq rfl rfl rfl rfl ?_)
          refine .skips 2 rfl ?_
          refine split (a0.Round == a1.Round) (fun hb31 => ?_) (fun hb31 => ?_)
          · have hd := hd.1 hb31
            rw [hb31]
            refine .gyes rfl rfl rfl (.fieldAddr Try.underlying34 rfl Try.sizeOf30 rfl (o := 5) rfl rfl rfl ?_)
            refine .gyes rfl rfl rfl (.loadA Try.isAgg30 Try.sizeOf30 rfl (.s .z) (.s (.s (.s (.s (.s (.t (.t .nil))))))) rfl rfl rfl ?_)
            refine .gyes rfl rfl rfl (.fieldAddr Try.underlying34 rfl Try.sizeOf30 rfl (o := 5) rfl rfl rfl ?_)
            refine .gyes rfl rfl rfl (.loadA Try.isAgg30 Try.sizeOf30 rfl .z (.s (.s (.s (.s (.s (.t (.t .nil))))))) rfl rfl rfl ?_)
            have hw38 := W_ref09_Same (I := I) R3 R12 hd
            refine .gyes rfl rfl rfl (.call Try.call46 rfl hw38 rfl rfl fun v36 I33 hl34 hv35 => ?_)
            obtain ⟨r32, rfl, hd⟩ := hv35
            have le39 := IH.le.trans (.refl _) hl34
            replace R3 := R3.mono hl34
            replace R6 := R6.mono hl34
            replace R9 := R9.mono hl34
            replace R12 := R12.mono hl34
            replace R15 := R15.mono hl34
            replace R18 := R18.mono hl34
            refine .skips 2 rfl ?_
            refine split r32 (fun hb40 => ?_) (fun hb40 => ?_)
            · have hd := hd.1 hb40
              rw [hb40]
              refine .gyes rfl rfl rfl (.fieldAddr Try.underlying34 rfl Try.sizeOf31 rfl (o := 7) rfl rfl rfl ?_)
              refine .gyes rfl rfl rfl (.load1 Try.isAgg31 rfl (.s .z) rfl rfl rfl ?_)
              refine .gyes rfl rfl rfl (.fieldAddr Try.underlying34 rfl Try.sizeOf31 rfl (o := 7) rfl rfl rfl ?_)
              refine .gyes rfl rfl rfl (.load1 Try.isAgg31 rfl .z rfl rfl rfl ?_)
              have hw47 := W_ref13_SameSums (I := I33) R6 R15 hd
              refine .gyes rfl rfl rfl (.call Try.call47 rfl hw47 rfl rfl fun v45 I42 hl43 hv44 => ?_)
              obtain ⟨r41, rfl, hd⟩ := hv44
              have le48 := IH.le.trans le39 hl43
              replace R3 := R3.mono hl43
              replace R6 := R6.mono hl43
              replace R9 := R9.mono hl43
              replace R12 := R12.mono hl43
              replace R15 := R15.mono hl43
              replace R18 := R18.mono hl43
              refine .skips 2 rfl ?_
              refine split r41 (fun hb49 => ?_) (fun hb49 => ?_)
              · have hd := hd.1 hb49
                rw [hb49]
                refine .gyes rfl rfl rfl (.fieldAddr Try.underlying34 rfl Try.sizeOf32 rfl (o := 8) rfl rfl rfl ?_)
                refine .gyes rfl rfl rfl (.load1 Try.isAgg32 rfl (.s .z) rfl rfl rfl ?_)
                refine .gyes rfl rfl rfl (.fieldAddr Try.underlying34 rfl Try.sizeOf32 rfl (o := 8) rfl rfl rfl ?_)
                refine .gyes rfl rfl rfl (.load1 Try.isAgg32 rfl .z rfl rfl rfl ?_)
                have hw56 := W_ref06_SameTriples (I := I42) R9 R18 hd
                refine .gyes rfl rfl rfl (.call Try.call48 rfl hw56 rfl rfl fun v54 I51 hl52 hv53 => ?_)
                obtain ⟨r50, rfl, hd⟩ := hv53
                have le57 := IH.le.trans le48 hl52
                replace R3 := R3.mono hl52
                replace R6 := R6.mono hl52
                replace R9 := R9.mono hl52
                replace R12 := R12.mono hl52
                replace R15 := R15.mono hl52
                replace R18 := R18.mono hl52
                refine .skips 2 rfl ?_
                refine split r50 (fun hb58 => ?_) (fun hb58 => ?_)
                · have hd := hd.1 hb58
                  rw [hb58]
                  refine .gyes rfl rfl rfl (.fieldAddr Try.underlying34 rfl Try.sizeOf2 rfl (o := 9) rfl rfl rfl ?_)
                  refine .gyes rfl rfl rfl (.load1 Try.isAgg2 rfl (.s .z) rfl rfl rfl ?_)
                  refine .gyes rfl rfl rfl (.fieldAddr Try.underlying34 rfl Try.sizeOf2 rfl (o := 9) rfl rfl rfl ?_)
                  refine .gyes rfl rfl rfl (.load1 Try.isAgg2 rfl .z rfl rfl rfl ?_)
                  refine .gyes rfl rfl rfl (.eq rfl rfl rfl rfl ?_)
                  refine .skips 2 rfl ?_
                  refine split (a0.N == a1.N) (fun hb59 => ?_) (fun hb59 => ?_)
                  · have hd := hd.1 hb59
                    rw [hb59]
                    refine .gyes rfl rfl rfl (.fieldAddr Try.underlying34 rfl Try.sizeOf4 rfl (o := 10) rfl rfl rfl ?_)
                    refine .gyes rfl rfl rfl (.load1 Try.isAgg4 rfl (.s .z) rfl rfl rfl ?_)
                    refine .gyes rfl rfl rfl (.fieldAddr Try.underlying34 rfl Try.sizeOf4 rfl (o := 10) rfl rfl rfl ?_)
                    refine .gyes rfl rfl rfl (.load1 Try.isAgg4 rfl .z rfl rfl rfl ?_)
                    refine .gyes rfl rfl rfl (.eqB Try.underlying4 rfl rfl rfl rfl ?_)
                    refine .skips 2 rfl ?_
                    refine .nil' fun c w ho hs => Cod.at (E := [(4, _)]) (ho.sub ⟨rfl, trivial⟩) hs ?_
                    refine .drop .z ?_
                    refine .drop .z ?_
                    exact .ret (pret Try.results37 (.t rfl .n) le57 ⟨(a0.Over == a1.Over), rfl, hd⟩)
                  · have hd := hd.2 hb59
                    rw [hb59]
                    refine .skips 7 rfl ?_
                    refine .nil' fun c w ho hs => Cod.at (E := [(4, _)]) (ho.sub ⟨rfl, trivial⟩) hs ?_
                    refine .drop .z ?_
                    refine .drop .z ?_
                    exact .ret (pret Try.results37 (.t rfl .n) le57 ⟨false, rfl, hd⟩)
                · have hd := hd.2 hb58
                  rw [hb58]
                  refine .skips 14 rfl ?_
                  refine .nil' fun c w ho hs => Cod.at (E := [(4, _)]) (ho.sub ⟨rfl, trivial⟩) hs ?_
                  refine .drop .z ?_
                  refine .drop .z ?_
                  exact .ret (pret Try.results37 (.t rfl .n) le57 ⟨false, rfl, hd⟩)
              · have hd := hd.2 hb49
                rw [hb49]
                refine .skips 21 rfl ?_
                refine .nil' fun c w ho hs => Cod.at (E := [(4, _)]) (ho.sub ⟨rfl, trivial⟩) hs ?_
                refine .drop .z ?_
                refine .drop .z ?_
                exact .ret (pret Try.results37 (.t rfl .n) le48 ⟨false, rfl, hd⟩)
            · have hd := hd.2 hb40
              rw [hb40]
              refine .skips 28 rfl ?_
              refine .nil' fun c w ho hs => Cod.at (E := [(4, _)]) (ho.sub ⟨rfl, trivial⟩) hs ?_
              refine .drop .z ?_
              refine .drop .z ?_
              exact .ret (pret Try.results37 (.t rfl .n) le39 ⟨false, rfl, hd⟩)
          · have hd := hd.2 hb31
            rw [hb31]
            refine .skips 35 rfl ?_
            refine .nil' fun c w ho hs => Cod.at (E := [(4, _)]) (ho.sub ⟨rfl, trivial⟩) hs ?_
            refine .drop .z ?_
            refine .drop .z ?_
            exact .ret (pret Try.results37 (.t rfl .n) (.refl _) ⟨false, rfl, hd⟩)
        · have hd := hd.2 hb30
          rw [hb30]
          refine .skips 42 rfl ?_
          refine .nil' fun c w ho hs => Cod.at (E := [(4, _)]) (ho.sub ⟨rfl, trivial⟩) hs ?_
          refine .drop .z ?_
          refine .drop .z ?_
          exact .ret (pret Try.results37 (.t rfl .n) (.refl _) ⟨false, rfl, hd⟩)
      · have hd := hd.2 hb29
        rw [hb29]
        refine .skips 49 rfl ?_
        refine .nil' fun c w ho hs => Cod.at (E := [(4, _)]) (ho.sub ⟨rfl, trivial⟩) hs ?_
        refine .drop .z ?_
        refine .drop .z ?_
        exact .ret (pret Try.results37 (.t rfl .n) (.refl _) ⟨false, rfl, hd⟩)
    · have hd := hd.2 hb28
      rw [hb28]
      refine .skips 56 rfl ?_
      refine .nil' fun c w ho hs => Cod.at (E := [(4, _)]) (ho.sub ⟨rfl, trivial⟩) hs ?_
      refine .drop .z ?_
      refine .drop .z ?_
      exact .ret (pret Try.results37 (.t rfl .n) (.refl _) ⟨false, rfl, hd⟩)
  · have hd := hd.2 hb27
    rw [hb27]
    refine .skips 63 rfl ?_
    refine .nil' fun c w ho hs => Cod.at (E := [(4, _)]) (ho.sub ⟨rfl, trivial⟩) hs ?_
    refine .drop .z ?_
    refine .drop .z ?_
    exact .ret (pret Try.results37 (.t rfl .n) (.refl _) ⟨false, rfl, hd⟩)

theorem W_ref19_SameFrames {I : IH} {a0 : List Frame} {a1 : List Frame} {p1 : Option Addr} {c2 : Nat} {p4 : Option Addr} {c5 : Nat} {Q : Bool → Prop} (R3 : RepSl eFrame I p1 c2 a0) (R6 : RepSl eFrame I p4 c5 a1) (hd : ref19_SameFrames a0 a1 Q) :
    PFun Try.prog 38 [.slice p1 a0.length c2, .slice p4 a1.length c5] I (fun I_ v => ∃ r, v = .bool r ∧ Q r) := by
  refine Fun.enter Try.func38 rfl Try.ntmps38 rfl (.c (.c .n)) fun w0 M => ?_
  refine .seq ?_
  refine .region ?_
  refine .skips 1 rfl ?_
  refine .nil' fun c w ho hs => Cod.at (E := [(0, _), (1, _)]) (ho.sub ⟨rfl, rfl, trivial⟩) hs ?_
  refine .seq ?_
  refine .seq ?_
  refine .region ?_
  refine .skips 1 rfl ?_
  refine .len Try.underlying45 rfl rfl rfl rfl ?_
  refine .skips 1 rfl ?_
  refine .len Try.underlying45 rfl rfl rfl rfl ?_
  refine .ne rfl rfl rfl rfl ?_
  refine .nil' fun c w ho hs => Cod.at (E := [(0, _), (1, _), (10, _)]) (ho.sub ⟨rfl, rfl, rfl, trivial⟩) hs ?_
  refine .cond rfl (fun hb8 => ?_) (fun hb8 => ?_)
  · have hd := hd.1 hb8
    refine .seq ?_
    refine .region ?_
    refine .skips 1 rfl ?_
    refine .nil' fun c w ho hs => Cod.at (E := [(4, _)]) (ho.sub ⟨rfl, trivial⟩) hs ?_
    exact .ret (pret Try.results38 (.t rfl .n) (.refl _) ⟨false, rfl, hd⟩)
  · have hd := hd.2 hb8
    refine .skip' fun c w ho hs => Cod.at (E := [(0, _), (1, _)]) (ho.sub ⟨rfl, rfl, trivial⟩) hs ?_
    refine .seq ?_
    refine .seq ?_
    refine .region ?_
    refine .skips 1 rfl ?_
    refine .nil' fun c w ho hs => Cod.at (E := [(0, _), (1, _), (5, _)]) (ho.sub ⟨rfl, rfl, rfl, trivial⟩) hs ?_
    refine .block ?_
    refine .loop hd (fun (s106 : Int) c w => ∃ I_, IH.le I I_ ∧ Ok 27 [(0, .slice p1 a0.length c2), (1, .slice p4 a1.length c5), (5, .int .i64 s106)] c ∧ Sym w0 M I I_ [] w) (fun c w ho hs => ⟨I, (.refl _), ho.sub ⟨rfl, rfl, rfl, trivial⟩, hs.pick .n⟩) ?_
    rintro s106 next107 hd c w hst
    obtain ⟨I108, hl109, hok, hsym⟩ := hst
    have le110 := IH.le.trans (.refl _) hl109
    replace R3 := R3.mono hl109
    replace R6 := R6.mono hl109
    refine Cod.at hok hsym ?_
    refine .seq ?_
    refine .seq ?_
    refine .region ?_
    refine .skips 2 rfl ?_
    refine .len Try.underlying45 rfl rfl rfl rfl ?_
    refine .lt rfl rfl rfl rfl ?_
    refine .nil' fun c w ho hs => Cod.at (E := [(0, _), (1, _), (5, _), (14, _)]) (ho.sub ⟨rfl, rfl, rfl, rfl, trivial⟩) hs ?_
    refine .cond rfl (fun hb112 => ?_) (fun hb112 => ?_)
    · have hd := hd.1 hb112
      refine .skip' fun c w ho hs => Cod.at (E := [(0, _), (1, _), (5, _)]) (ho.sub ⟨rfl, rfl, rfl, trivial⟩) hs ?_
      refine .seq ?_
      refine .block ?_
      refine .seq ?_
      refine .draw [some 0, some 1, some 2, some 3, some 4, some 5, some 6, some 7, some 8, some 9] 10 MX (by kernel_rfl) (by kernel_rfl) (by kernel_rfl) (by kernel_rfl) (by kernel_rfl) (by kernel_rfl) (by kernel_rfl) (fun ex => ex) (fun _ _ => .z) rfl ?_
      refine .f [] rfl (by kernel_rfl) rfl rfl (fun ex => .move rfl rfl rfl .mk) ?_
      refine .f [] rfl (by kernel_rfl) rfl rfl (fun ex => .move rfl rfl rfl .mk) ?_
      obtain ⟨h113, x114, hx115, hd⟩ := hd
      obtain ⟨b116, o117, cs118, e119, hC120, hr121⟩ := R3.2 _ _ hx115
      obtain ⟨p122, c123, p125, c126, p128, c129, rfl, R124, R127, R130⟩ := hr121
      refine .f [0, 1] rfl (by kernel_rfl) rfl rfl (fun ex => .ixa Try.underlying45 Try.sizeOf34 rfl e119 rfl h113 (idx_lt hx115 h113) rfl rfl .mk) ?_
      refine .f [2] rfl (by kernel_rfl) rfl rfl (fun ex => .ldW Try.isAgg34 Try.sizeOf34 hC120 rfl rfl rfl rfl .mk) ?_
      refine .f [] rfl (by kernel_rfl) rfl rfl (fun ex => .move rfl rfl rfl .mk) ?_
      refine .f [] rfl (by kernel_rfl) rfl rfl (fun ex => .move rfl rfl rfl .mk) ?_
      obtain ⟨h131, x132, hx133, hd⟩ := hd
      obtain ⟨b134, o135, cs136, e137, hC138, hr139⟩ := R6.2 _ _ hx133
      obtain ⟨p140, c141, p143, c144, p146, c147, rfl, R142, R145, R148⟩ := hr139
      refine .f [4, 5] rfl (by kernel_rfl) rfl rfl (fun ex => .ixa Try.underlying45 Try.sizeOf34 rfl e137 rfl h131 (idx_lt hx133 h131) rfl rfl .mk) ?_
      refine .f [6] rfl (by kernel_rfl) rfl rfl (fun ex => .ldW Try.isAgg34 Try.sizeOf34 hC138 rfl rfl rfl rfl .mk) ?_
      refine .w [] [[], [7], [6, 7], [6, 7], [], [3], [2, 3], [2, 3]] [3, 7] rfl (by kernel_rfl) (by kernel_rfl) (by kernel_rfl) ((dropE_kept rfl rfl)) (.inr (dropE_kept rfl rfl)) fun ex => ?_
      have hw155 := W_ref19_Same (I := I108) R124 R127 R130 R142 R145 R148 hd
      refine .call Try.call37 rfl hw155 rfl rfl fun v153 I150 hl151 hv152 => ?_
      obtain ⟨r149, rfl, hd⟩ := hv152
      have le156 := IH.le.trans le110 hl151
      replace R3 := R3.mono hl151
      replace R6 := R6.mono hl151
      replace R124 := R124.mono hl151
      replace R127 := R127.mono hl151
      replace R130 := R130.mono hl151
      replace hC120 := hC120.mono hl151
      replace R142 := R142.mono hl151
      replace R145 := R145.mono hl151
      replace R148 := R148.mono hl151
      replace hC138 := hC138.mono hl151
      refine .some (fun ex => ex) rfl (fun _ _ => .z) rfl trivial ?_
      refine .f [8] rfl (by kernel_rfl) rfl rfl (fun ex => .not rfl rfl rfl .mk) ?_
      refine .e 10 (by kernel_rfl) (by kernel_rfl) (by kernel_rfl) ?_
      refine .nil' fun c w ho hs => Cod.at (E := [(0, _), (1, _), (5, _), (26, _)]) (ho.sub ⟨rfl, rfl, rfl, rfl, trivial⟩) hs ?_
      refine .cond rfl (fun hb157 => ?_) (fun hb157 => ?_)
      · have hd := hd.1 hb157
        refine .seq ?_
        refine .region ?_
        refine .skips 1 rfl ?_
        refine .nil' fun c w ho hs => Cod.at (E := [(4, _)]) (ho.sub ⟨rfl, trivial⟩) hs ?_
        exact .ret (pret Try.results38 (.t rfl .n) le156 ⟨false, rfl, hd⟩)
      · have hd := hd.2 hb157
        refine .skip' fun c w ho hs => Cod.at (E := [(0, _), (1, _), (5, _)]) (ho.sub ⟨rfl, rfl, rfl, trivial⟩) hs ?_
        refine .region ?_
        refine .skips 1 rfl ?_
        refine .add rfl rfl rfl rfl ?_
        refine .sub (E' := [(0, _), (1, _), (15, _), (16, _)]) ⟨rfl, rfl, rfl, rfl, trivial⟩ ?_
        refine .skips 1 rfl ?_
        exact .nil' fun c w ho hs => ⟨(w64 (s106 + 1)), hd, I150, le156, ho.sub ⟨rfl, rfl, rfl, trivial⟩, hs.pick .n⟩
    · have hd := hd.2 hb112
      refine .exit fun c w ho hs => Cod.at (E := []) (ho.sub trivial) hs ?_
      refine .seq ?_
      refine .region ?_
      refine .skips 1 rfl ?_
      refine .nil' fun c w ho hs => Cod.at (E := [(4, _)]) (ho.sub ⟨rfl, trivial⟩) hs ?_
      exact .ret (pret Try.results38 (.t rfl .n) le110 ⟨true, rfl, hd⟩)

theorem W_ref20_New_i19 {I : IH} {a0 : Int}  {Q0 : Int → Prop} {Q1 : (Int × Ref20_Box) → Prop}  (hd : ref20_New_i19 a0 Q0 Q1) :
    Fun Try.prog 14 #[.int .i64 a0] I [] (fun I_ v l => (∃ r, v = .tuple #[.pointer none, .int .i64 r] ∧ l = [] ∧ Q0 r) ∨ (∃ r b1 p2 c3, v = .tuple #[.pointer (some ⟨b1, 0, none⟩), .int .i64 r.1] ∧ l = [pto b1 (.cells #[.int .i64 r.2.Many, .int .i64 r.2.Out, .int .i64 r.2.In, .slice p2 r.2.L.length c3] 68 (0, 0)), OwnSl eFrame 34 p2 c3 r.2.L] ∧ Q1 r)) := by
  refine Fun.enter (vs := [.int .i64 a0]) Try.func14 rfl Try.ntmps14 rfl (.c .n) fun w0 M => ?_
  refine .seq ?_
  refine .region ?_
  refine .skips 2 rfl ?_
  refine .nil' fun c w ho hs => Cod.at (E := [(0, _)]) (ho.sub ⟨rfl, trivial⟩) hs ?_
  refine .seq ?_
  refine .seq ?_
  refine .region ?_
  refine .skips 1 rfl ?_
  refine .lt rfl rfl rfl rfl ?_
  refine .skips 1 rfl ?_
  refine split (decide (a0 < 1)) (fun hb1 => ?_) (fun hb1 => ?_)
  · have hd := hd.1 hb1
    rw [hb1]
    refine .skips 3 rfl ?_
    refine .nil' fun c w ho hs => Cod.at (E := [(0, _), (9, _)]) (ho.sub ⟨rfl, rfl, trivial⟩) hs ?_
    refine .condKT rfl rfl ?_
    refine .seq ?_
    refine .region ?_
    refine .skips 2 rfl ?_
    refine .nil' fun c w ho hs => Cod.at (E := [(2, _), (3, _)]) (ho.sub ⟨rfl, rfl, trivial⟩) hs ?_
    exact .ret (oret Try.results14 (.t rfl (.t rfl .n)) (.refl _) .n (.inl ⟨3, rfl, rfl, hd⟩))
  · have hd := hd.2 hb1
    rw [hb1]
    refine .gyes rfl rfl rfl (.move rfl rfl rfl ?_)
    refine .gyes rfl rfl rfl (.gt rfl rfl rfl rfl ?_)
    refine .skips 1 rfl ?_
    refine .nil' fun c w ho hs => Cod.at (E := [(0, _), (9, _)]) (ho.sub ⟨rfl, rfl, trivial⟩) hs ?_
    refine .cond rfl (fun hb2 => ?_) (fun hb2 => ?_)
    · have hd := hd.1 hb2
      refine .seq ?_
      refine .region ?_
      refine .skips 2 rfl ?_
      refine .nil' fun c w ho hs => Cod.at (E := [(2, _), (3, _)]) (ho.sub ⟨rfl, rfl, trivial⟩) hs ?_
      exact .ret (oret Try.results14 (.t rfl (.t rfl .n)) (.refl _) .n (.inl ⟨3, rfl, rfl, hd⟩))
    · have hd := hd.2 hb2
      refine .skip' fun c w ho hs => Cod.at (E := [(0, _)]) (ho.sub ⟨rfl, trivial⟩) hs ?_
      refine .seq ?_
      refine .region ?_
      refine .skips 1 rfl ?_
      refine .build Try.zeroValue68 Try.underlying68 BI68 (.c rfl rfl rfl (.t .nil) .n) (by exact ⟨⟨_, _, rfl, rfl, rfl⟩, trivial⟩) rfl rfl ?_
      refine .boxA rfl rfl rfl fun b3 => ?_
      refine .skips 2 rfl ?_
      refine .nil' fun c w ho hs => Cod.at (E := [(2, _), (3, _)]) (ho.sub ⟨rfl, rfl, trivial⟩) hs ?_
      refine .own0 eFrame 34 ?_
      exact .ret (oret Try.results14 (.t rfl (.t rfl .n)) (.refl _) (.c (.s .z) (.c .z .n)) (.inr ⟨(0, ({ Many := a0, Out := 0, In := 0, L := ([] : List Frame) } : Ref20_Box)), _, _, _, rfl, rfl, hd⟩))

theorem W_post_Box_Send_i20 {I : IH} {a0 : Frame} {p1 : Option Addr} {c2 : Nat} {p4 : Option Addr} {c5 : Nat} {p7 : Option Addr} {c8 : Nat} {Q : Int → Prop} (R3 : RepSl eItem I p1 c2 a0.Vec.Items) (R6 : RepSl eSum I p4 c5 a0.Sums) (R9 : RepSl eTriple I p7 c8 a0.Triples) (hd : post_Box_Send_i20 a0 Q) :
    Fun Try.prog 7 #[.pointer none, .agg #[.int .i64 a0.Kind, .int .i64 a0.From, .int .i64 a0.To, .int .i64 a0.Seq, .int .i64 a0.Round, .int .i64 a0.Vec.N, .slice p1 a0.Vec.Items.length c2, .slice p4 a0.Sums.length c5, .slice p7 a0.Triples.length c8, .int .i64 a0.N, .bool a0.Over]] I [] (fun I_ v l => ∃ r, v = .int .i64 r ∧ l = [] ∧ Q r) := by
  refine Fun.enter (vs := [.pointer none, .agg #[.int .i64 a0.Kind, .int .i64 a0.From, .int .i64 a0.To, .int .i64 a0.Seq, .int .i64 a0.Round, .int .i64 a0.Vec.N, .slice p1 a0.Vec.Items.length c2, .slice p4 a0.Sums.length c5, .slice p7 a0.Triples.length c8, .int .i64 a0.N, .bool a0.Over]]) Try.func7 rfl Try.ntmps7 rfl (.c (.c .n)) fun w0 M => ?_
  refine .seq ?_
  refine .region ?_
  refine .boxA rfl rfl rfl fun b12 => ?_
  refine .skips 1 rfl ?_
  refine .nil' fun c w ho hs => Cod.at (E := [(0, _), (3, _)]) (ho.sub ⟨rfl, rfl, trivial⟩) hs ?_
  refine .seq ?_
  refine .block ?_
  refine .seq ?_
  refine .region ?_
  refine .skips 1 rfl ?_
  refine .eqNilP Try.underlying22 rfl rfl rfl rfl ?_
  refine .skips 1 rfl ?_
  refine .nil' fun c w ho hs => Cod.at (E := [(0, _), (3, _), (5, _)]) (ho.sub ⟨rfl, rfl, rfl, trivial⟩) hs ?_
  refine .condKT rfl rfl ?_
  refine .seq ?_
  refine .region ?_
  refine .skips 1 rfl ?_
  refine .nil' fun c w ho hs => Cod.at (E := [(4, _)]) (ho.sub ⟨rfl, trivial⟩) hs ?_
  refine .drop .z ?_
  exact .ret (oret Try.results7 (.t rfl .n) (.refl _) .n ⟨10, rfl, rfl, hd⟩)

theorem W_post_Box_at_i22 {I : IH} {a0 : Int}  {Q : Int → Prop}  (hd : post_Box_at_i22 a0 Q) :
    Fun Try.prog 25 #[.pointer none, .int .i64 a0] I [] (fun I_ v l => ∃ r, v = .int .i64 r ∧ l = [] ∧ Q r) := by
  refine Fun.enter (vs := [.pointer none, .int .i64 a0]) Try.func25 rfl Try.ntmps25 rfl (.c (.c .n)) fun w0 M => ?_
  refine .seq ?_
  refine .region ?_
  refine .skips 1 rfl ?_
  refine .nil' fun c w ho hs => Cod.at (E := [(0, _), (1, _)]) (ho.sub ⟨rfl, rfl, trivial⟩) hs ?_
  refine .seq ?_
  refine .block ?_
  refine .seq ?_
  refine .region ?_
  refine .skips 1 rfl ?_
  refine .eqNilP Try.underlying22 rfl rfl rfl rfl ?_
  refine .skips 1 rfl ?_
  refine .nil' fun c w ho hs => Cod.at (E := [(0, _), (1, _), (5, _)]) (ho.sub ⟨rfl, rfl, rfl, trivial⟩) hs ?_
  refine .condKT rfl rfl ?_
  refine .seq ?_
  refine .region ?_
  refine .skips 1 rfl ?_
  refine .nil' fun c w ho hs => Cod.at (E := [(4, _)]) (ho.sub ⟨rfl, trivial⟩) hs ?_
  exact .ret (oret Try.results25 (.t rfl .n) (.refl _) .n ⟨10, rfl, rfl, hd⟩)

theorem W_post_Box_Double_i21 {I : IH} {a0 : Int}  {Q : Int → Prop}  (hd : post_Box_Double_i21 a0 Q) :
    Fun Try.prog 8 #[.pointer none, .int .i64 a0] I [] (fun I_ v l => ∃ r, v = .int .i64 r ∧ l = [] ∧ Q r) := by
  refine Fun.enter (vs := [.pointer none, .int .i64 a0]) Try.func8 rfl Try.ntmps8 rfl (.c (.c .n)) fun w0 M => ?_
  refine .seq ?_
  refine .region ?_
  refine .skips 1 rfl ?_
  refine .nil' fun c w ho hs => Cod.at (E := [(0, _), (1, _)]) (ho.sub ⟨rfl, rfl, trivial⟩) hs ?_
  refine .seq ?_
  refine .seq ?_
  refine .region ?_
  refine .skips 2 rfl ?_
  have hw10 := W_post_Box_at_i22 (I := I) (a0 := a0) hd
  refine .callS (.f Try.call25 rfl) .n hw10 rfl rfl fun v14 I11 l15 hl12 hv13 => ?_
  obtain ⟨r16, rfl, rfl, hd⟩ := hv13
  have le17 := IH.le.trans (.refl _) hl12
  refine .re (m' := []) rfl ?_
  refine .skips 1 rfl ?_
  refine .nil' fun c w ho hs => Cod.at (E := [(0, _), (1, _), (5, _)]) (ho.sub ⟨rfl, rfl, rfl, trivial⟩) hs ?_
  refine .seq ?_
  refine .region ?_
  refine .skips 1 rfl ?_
  refine .ne rfl rfl rfl rfl ?_
  refine .nil' fun c w ho hs => Cod.at (E := [(0, _), (1, _), (5, _), (10, _)]) (ho.sub ⟨rfl, rfl, rfl, rfl, trivial⟩) hs ?_
  refine .cond rfl (fun hb18 => ?_) (fun hb18 => ?_)
  · have hd := hd.1 hb18
    refine .seq ?_
    refine .region ?_
    refine .skips 2 rfl ?_
    refine .nil' fun c w ho hs => Cod.at (E := [(4, _)]) (ho.sub ⟨rfl, trivial⟩) hs ?_
    exact .ret (oret Try.results8 (.t rfl .n) le17 .n ⟨r16, rfl, rfl, hd⟩)
  · have hd := hd.2 hb18
    refine .skip' fun c w ho hs => Cod.at (E := [(0, _), (1, _)]) (ho.sub ⟨rfl, rfl, trivial⟩) hs ?_
    refine .seq ?_
    refine .seq ?_
    refine .region ?_
    refine .skips 1 rfl ?_
    exact hd.elim

theorem W_post_Box_Move_i23 {I : IH} {a0 : Int}  {Q : Int → Prop}  (hd : post_Box_Move_i23 a0 Q) :
    Fun Try.prog 15 #[.pointer none, .int .i64 a0] I [] (fun I_ v l => ∃ r, v = .int .i64 r ∧ l = [] ∧ Q r) := by
  refine Fun.enter (vs := [.pointer none, .int .i64 a0]) Try.func15 rfl Try.ntmps15 rfl (.c (.c .n)) fun w0 M => ?_
  refine .seq ?_
  refine .region ?_
  refine .skips 1 rfl ?_
  refine .nil' fun c w ho hs => Cod.at (E := [(0, _), (1, _)]) (ho.sub ⟨rfl, rfl, trivial⟩) hs ?_
  refine .seq ?_
  refine .seq ?_
  refine .region ?_
  refine .skips 2 rfl ?_
  have hw10 := W_post_Box_at_i22 (I := I) (a0 := a0) hd
  refine .callS (.f Try.call25 rfl) .n hw10 rfl rfl fun v14 I11 l15 hl12 hv13 => ?_
  obtain ⟨r16, rfl, rfl, hd⟩ := hv13
  have le17 := IH.le.trans (.refl _) hl12
  refine .re (m' := []) rfl ?_
  refine .skips 1 rfl ?_
  refine .nil' fun c w ho hs => Cod.at (E := [(0, _), (1, _), (5, _)]) (ho.sub ⟨rfl, rfl, rfl, trivial⟩) hs ?_
  refine .seq ?_
  refine .region ?_
  refine .skips 1 rfl ?_
  refine .ne rfl rfl rfl rfl ?_
  refine .nil' fun c w ho hs => Cod.at (E := [(0, _), (1, _), (5, _), (11, _)]) (ho.sub ⟨rfl, rfl, rfl, rfl, trivial⟩) hs ?_
  refine .cond rfl (fun hb18 => ?_) (fun hb18 => ?_)
  · have hd := hd.1 hb18
    refine .seq ?_
    refine .region ?_
    refine .skips 2 rfl ?_
    refine .nil' fun c w ho hs => Cod.at (E := [(4, _)]) (ho.sub ⟨rfl, trivial⟩) hs ?_
    exact .ret (oret Try.results15 (.t rfl .n) le17 .n ⟨r16, rfl, rfl, hd⟩)
  · have hd := hd.2 hb18
    refine .skip' fun c w ho hs => Cod.at (E := [(0, _), (1, _)]) (ho.sub ⟨rfl, rfl, trivial⟩) hs ?_
    refine .seq ?_
    refine .region ?_
    refine .skips 1 rfl ?_
    exact hd.elim

theorem W_post_Box_Len_i25 {I : IH}   {Q : Int → Prop}  (hd : post_Box_Len_i25 Q) :
    Fun Try.prog 12 #[.pointer none] I [] (fun I_ v l => ∃ r, v = .int .i64 r ∧ l = [] ∧ Q r) := by
  refine Fun.enter (vs := [.pointer none]) Try.func12 rfl Try.ntmps12 rfl (.c .n) fun w0 M => ?_
  refine .seq ?_
  refine .region ?_
  refine .skips 1 rfl ?_
  refine .nil' fun c w ho hs => Cod.at (E := [(0, _)]) (ho.sub ⟨rfl, trivial⟩) hs ?_
  refine .seq ?_
  refine .seq ?_
  refine .region ?_
  refine .skips 1 rfl ?_
  refine .eqNilP Try.underlying22 rfl rfl rfl rfl ?_
  refine .nil' fun c w ho hs => Cod.at (E := [(0, _), (4, _)]) (ho.sub ⟨rfl, rfl, trivial⟩) hs ?_
  refine .condKT rfl rfl ?_
  refine .seq ?_
  refine .region ?_
  refine .skips 1 rfl ?_
  refine .nil' fun c w ho hs => Cod.at (E := [(2, _)]) (ho.sub ⟨rfl, trivial⟩) hs ?_
  exact .ret (oret Try.results12 (.t rfl .n) (.refl _) .n ⟨0, rfl, rfl, hd⟩)

theorem W_post_Box_Oldest_i24 {I : IH}   {Q : Int → Prop}  (hd : post_Box_Oldest_i24 Q) :
    Fun Try.prog 10 #[.pointer none] I [] (fun I_ v l => ∃ r, v = .int .i64 r ∧ l = [] ∧ Q r) := by
  refine Fun.enter (vs := [.pointer none]) Try.func10 rfl Try.ntmps10 rfl (.c .n) fun w0 M => ?_
  refine .seq ?_
  refine .region ?_
  refine .skips 1 rfl ?_
  refine .nil' fun c w ho hs => Cod.at (E := [(0, _)]) (ho.sub ⟨rfl, trivial⟩) hs ?_
  refine .seq ?_
  refine .seq ?_
  refine .region ?_
  refine .skips 1 rfl ?_
  have hw10 := W_post_Box_Len_i25 (I := I)  hd
  refine .callS (.f Try.call12 rfl) .n hw10 rfl rfl fun v14 I11 l15 hl12 hv13 => ?_
  obtain ⟨r16, rfl, rfl, hd⟩ := hv13
  have le17 := IH.le.trans (.refl _) hl12
  refine .re (m' := []) rfl ?_
  refine .eq rfl rfl rfl rfl ?_
  refine .nil' fun c w ho hs => Cod.at (E := [(0, _), (6, _)]) (ho.sub ⟨rfl, rfl, trivial⟩) hs ?_
  refine .cond rfl (fun hb18 => ?_) (fun hb18 => ?_)
  · have hd := hd.1 hb18
    refine .seq ?_
    refine .region ?_
    refine .skips 1 rfl ?_
    refine .nil' fun c w ho hs => Cod.at (E := [(2, _)]) (ho.sub ⟨rfl, trivial⟩) hs ?_
    exact .ret (oret Try.results10 (.t rfl .n) le17 .n ⟨(-1), rfl, rfl, hd⟩)
  · have hd := hd.2 hb18
    refine .skip' fun c w ho hs => Cod.at (E := [(0, _)]) (ho.sub ⟨rfl, trivial⟩) hs ?_
    refine .seq ?_
    refine .region ?_
    refine .skips 1 rfl ?_
    exact hd.elim

theorem W_post_Box_Room_i26 {I : IH}   {Q : Int → Prop}  (hd : post_Box_Room_i26 Q) :
    Fun Try.prog 16 #[.pointer none] I [] (fun I_ v l => ∃ r, v = .int .i64 r ∧ l = [] ∧ Q r) := by
  refine Fun.enter (vs := [.pointer none]) Try.func16 rfl Try.ntmps16 rfl (.c .n) fun w0 M => ?_
  refine .seq ?_
  refine .region ?_
  refine .skips 1 rfl ?_
  refine .nil' fun c w ho hs => Cod.at (E := [(0, _)]) (ho.sub ⟨rfl, trivial⟩) hs ?_
  refine .seq ?_
  refine .seq ?_
  refine .region ?_
  refine .skips 1 rfl ?_
  refine .eqNilP Try.underlying22 rfl rfl rfl rfl ?_
  refine .nil' fun c w ho hs => Cod.at (E := [(0, _), (4, _)]) (ho.sub ⟨rfl, rfl, trivial⟩) hs ?_
  refine .condKT rfl rfl ?_
  refine .seq ?_
  refine .region ?_
  refine .skips 1 rfl ?_
  refine .nil' fun c w ho hs => Cod.at (E := [(2, _)]) (ho.sub ⟨rfl, trivial⟩) hs ?_
  exact .ret (oret Try.results16 (.t rfl .n) (.refl _) .n ⟨0, rfl, rfl, hd⟩)

theorem W_post_Box_Sent_i27 {I : IH}   {Q : Int → Prop}  (hd : post_Box_Sent_i27 Q) :
    Fun Try.prog 13 #[.pointer none] I [] (fun I_ v l => ∃ r, v = .int .i64 r ∧ l = [] ∧ Q r) := by
  refine Fun.enter (vs := [.pointer none]) Try.func13 rfl Try.ntmps13 rfl (.c .n) fun w0 M => ?_
  refine .seq ?_
  refine .region ?_
  refine .skips 1 rfl ?_
  refine .nil' fun c w ho hs => Cod.at (E := [(0, _)]) (ho.sub ⟨rfl, trivial⟩) hs ?_
  refine .seq ?_
  refine .seq ?_
  refine .region ?_
  refine .skips 1 rfl ?_
  refine .eqNilP Try.underlying22 rfl rfl rfl rfl ?_
  refine .nil' fun c w ho hs => Cod.at (E := [(0, _), (4, _)]) (ho.sub ⟨rfl, rfl, trivial⟩) hs ?_
  refine .condKT rfl rfl ?_
  refine .seq ?_
  refine .region ?_
  refine .skips 1 rfl ?_
  refine .nil' fun c w ho hs => Cod.at (E := [(2, _)]) (ho.sub ⟨rfl, trivial⟩) hs ?_
  exact .ret (oret Try.results13 (.t rfl .n) (.refl _) .n ⟨0, rfl, rfl, hd⟩)

theorem W_post_Box_Taken_i28 {I : IH}   {Q : Int → Prop}  (hd : post_Box_Taken_i28 Q) :
    Fun Try.prog 17 #[.pointer none] I [] (fun I_ v l => ∃ r, v = .int .i64 r ∧ l = [] ∧ Q r) := by
  refine Fun.enter (vs := [.pointer none]) Try.func17 rfl Try.ntmps17 rfl (.c .n) fun w0 M => ?_
  refine .seq ?_
  refine .region ?_
  refine .skips 1 rfl ?_
  refine .nil' fun c w ho hs => Cod.at (E := [(0, _)]) (ho.sub ⟨rfl, trivial⟩) hs ?_
  refine .seq ?_
  refine .seq ?_
  refine .region ?_
  refine .skips 1 rfl ?_
  refine .eqNilP Try.underlying22 rfl rfl rfl rfl ?_
  refine .nil' fun c w ho hs => Cod.at (E := [(0, _), (4, _)]) (ho.sub ⟨rfl, rfl, trivial⟩) hs ?_
  refine .condKT rfl rfl ?_
  refine .seq ?_
  refine .region ?_
  refine .skips 1 rfl ?_
  refine .nil' fun c w ho hs => Cod.at (E := [(2, _)]) (ho.sub ⟨rfl, trivial⟩) hs ?_
  exact .ret (oret Try.results17 (.t rfl .n) (.refl _) .n ⟨0, rfl, rfl, hd⟩)

theorem W_post_Box_Frames_i29 {I : IH}   {Q : (List Frame) → Prop}  (hd : post_Box_Frames_i29 Q) :
    Fun Try.prog 18 #[.pointer none] I [] (fun I_ v l => ∃ r p1 c2, v = .slice p1 r.length c2 ∧ RepSl eFrame I_ p1 c2 r ∧ l = [] ∧ Q r) := by
  refine Fun.enter (vs := [.pointer none]) Try.func18 rfl Try.ntmps18 rfl (.c .n) fun w0 M => ?_
  refine .seq ?_
  refine .region ?_
  refine .skips 1 rfl ?_
  refine .nil' fun c w ho hs => Cod.at (E := [(0, _)]) (ho.sub ⟨rfl, trivial⟩) hs ?_
  refine .seq ?_
  refine .seq ?_
  refine .region ?_
  refine .skips 1 rfl ?_
  refine .eqNilP Try.underlying22 rfl rfl rfl rfl ?_
  refine .nil' fun c w ho hs => Cod.at (E := [(0, _), (7, _)]) (ho.sub ⟨rfl, rfl, trivial⟩) hs ?_
  refine .condKT rfl rfl ?_
  refine .seq ?_
  refine .region ?_
  refine .skips 1 rfl ?_
  refine .nil' fun c w ho hs => Cod.at (E := [(2, _)]) (ho.sub ⟨rfl, trivial⟩) hs ?_
  exact .ret (oret Try.results18 (.t rfl .n) (.refl _) .n ⟨([] : List Frame), _, _, rfl, (.nil _ none 0), rfl, hd⟩)

theorem W_ref20_Box_Len_i31 {I : IH} {o0 : Ref20_Box} {b2 : Nat} {p3 : Option Addr} {c4 : Nat} {Q : Int → Prop}  (hd : ref20_Box_Len_i31 o0 Q) :
    Fun Try.prog 31 #[.pointer (some ⟨b2, 0, none⟩)] I [pto b2 (.cells #[.int .i64 o0.Many, .int .i64 o0.Out, .int .i64 o0.In, .slice p3 o0.L.length c4] 68 (0, 0)), OwnSl eFrame 34 p3 c4 o0.L] (fun I_ v l => ∃ r, v = .int .i64 r ∧ l = [pto b2 (.cells #[.int .i64 o0.Many, .int .i64 o0.Out, .int .i64 o0.In, .slice p3 o0.L.length c4] 68 (0, 0)), OwnSl eFrame 34 p3 c4 o0.L] ∧ Q r) := by
  refine Fun.enter (vs := [.pointer (some ⟨b2, 0, none⟩)]) Try.func31 rfl Try.ntmps31 rfl (.c .n) fun w0 M => ?_
  refine .seq ?_
  refine .region ?_
  refine .skips 1 rfl ?_
  refine .nil' fun c w ho hs => Cod.at (E := [(0, _)]) (ho.sub ⟨rfl, trivial⟩) hs ?_
  refine .seq ?_
  refine .seq ?_
  refine .region ?_
  refine .skips 1 rfl ?_
  refine .eqNilP Try.underlying42 rfl rfl rfl rfl ?_
  refine .nil' fun c w ho hs => Cod.at (E := [(0, _), (4, _)]) (ho.sub ⟨rfl, rfl, trivial⟩) hs ?_
  refine .condKF rfl rfl ?_
  refine .skip' fun c w ho hs => Cod.at (E := [(0, _)]) (ho.sub ⟨rfl, trivial⟩) hs ?_
  refine .seq ?_
  refine .region ?_
  refine .skips 1 rfl ?_
  refine .nilCheckP rfl rfl rfl ?_
  refine .fieldAddr Try.underlying68 rfl Try.sizeOf45 rfl (o := 3) rfl rfl rfl ?_
  refine .load1 Try.isAgg45 rfl .z rfl rfl rfl ?_
  refine .len Try.underlying45 rfl rfl rfl rfl ?_
  refine .skips 1 rfl ?_
  refine .nil' fun c w ho hs => Cod.at (E := [(0, _), (2, _)]) (ho.sub ⟨rfl, rfl, trivial⟩) hs ?_
  exact .ret (oret Try.results31 (.t rfl .n) (.refl _) (.c .z (.c .z .n)) ⟨(o0.L.length : Int), rfl, rfl, hd⟩)

theorem W_ref20_Box_Send_i32 {I : IH} {o0 : Ref20_Box} {a0 : Frame} {b2 : Nat} {p3 : Option Addr} {c4 : Nat} {p7 : Option Addr} {c8 : Nat} {p10 : Option Addr} {c11 : Nat} {p13 : Option Addr} {c14 : Nat} {Q : (Int × Ref20_Box) → Prop} (R9 : RepSl eItem I p7 c8 a0.Vec.Items) (R12 : RepSl eSum I p10 c11 a0.Sums) (R15 : RepSl eTriple I p13 c14 a0.Triples) (hd : ref20_Box_Send_i32 o0 a0 Q) :
    Fun Try.prog 32 #[.pointer (some ⟨b2, 0, none⟩), .agg #[.int .i64 a0.Kind, .int .i64 a0.From, .int .i64 a0.To, .int .i64 a0.Seq, .int .i64 a0.Round, .int .i64 a0.Vec.N, .slice p7 a0.Vec.Items.length c8, .slice p10 a0.Sums.length c11, .slice p13 a0.Triples.length c14, .int .i64 a0.N, .bool a0.Over]] I [pto b2 (.cells #[.int .i64 o0.Many, .int .i64 o0.Out, .int .i64 o0.In, .slice p3 o0.L.length c4] 68 (0, 0)), OwnSl eFrame 34 p3 c4 o0.L] (fun I_ v l => ∃ r p17 c18, v = .int .i64 r.1 ∧ l = [pto b2 (.cells #[.int .i64 r.2.Many, .int .i64 r.2.Out, .int .i64 r.2.In, .slice p17 r.2.L.length c18] 68 (0, 0)), OwnSl eFrame 34 p17 c18 r.2.L] ∧ Q r) := by
  refine Fun.enter (vs := [.pointer (some ⟨b2, 0, none⟩), .agg #[.int .i64 a0.Kind, .int .i64 a0.From, .int .i64 a0.To, .int .i64 a0.Seq, .int .i64 a0.Round, .int .i64 a0.Vec.N, .slice p7 a0.Vec.Items.length c8, .slice p10 a0.Sums.length c11, .slice p13 a0.Triples.length c14, .int .i64 a0.N, .bool a0.Over]]) Try.func32 rfl Try.ntmps32 rfl (.c (.c .n)) fun w0 M => ?_
  refine .seq ?_
  refine .region ?_
  refine .boxA rfl rfl rfl fun b18 => ?_
  refine .skips 1 rfl ?_
  refine .nil' fun c w ho hs => Cod.at (E := [(0, _), (3, _)]) (ho.sub ⟨rfl, rfl, trivial⟩) hs ?_
  refine .seq ?_
  refine .seq ?_
  refine .region ?_
  refine .skips 1 rfl ?_
  refine .eqNilP Try.underlying42 rfl rfl rfl rfl ?_
  refine .nil' fun c w ho hs => Cod.at (E := [(0, _), (3, _), (6, _)]) (ho.sub ⟨rfl, rfl, rfl, trivial⟩) hs ?_
  refine .condKF rfl rfl ?_
  refine .skip' fun c w ho hs => Cod.at (E := [(0, _), (3, _)]) (ho.sub ⟨rfl, rfl, trivial⟩) hs ?_
  refine .seq ?_
  refine .seq ?_
  refine .draw [some 0, some 1, some 2, some 3, some 4, some 5, some 6, some 7, some 8, some 9] 10 MX (by kernel_rfl) (by kernel_rfl) (by kernel_rfl) (by kernel_rfl) (by kernel_rfl) (by kernel_rfl) (by kernel_rfl) (fun ex => (pto b18 (.cells #[.int .i64 a0.Kind, .int .i64 a0.From, .int .i64 a0.To, .int .i64 a0.Seq, .int .i64 a0.Round, .int .i64 a0.Vec.N, .slice p7 a0.Vec.Items.length c8, .slice p10 a0.Sums.length c11, .slice p13 a0.Triples.length c14, .int .i64 a0.N, .bool a0.Over] 34 (0, 0))) :: (pto b2 (.cells #[.int .i64 o0.Many, .int .i64 o0.Out, .int .i64 o0.In, .slice p3 o0.L.length c4] 68 (0, 0))) :: (OwnSl eFrame 34 p3 c4 o0.L) :: ex) (fun _ _ => (.s (.s (.s .z)))) rfl ?_
  refine .f [] rfl (by kernel_rfl) rfl rfl (fun ex => .move rfl rfl rfl .mk) ?_
  refine .f [0] rfl (by kernel_rfl) rfl rfl (fun ex => .nilCheckP rfl rfl rfl .mk) ?_
  refine .f [1] rfl (by kernel_rfl) rfl rfl (fun ex => .fieldAddr Try.underlying68 rfl Try.sizeOf45 rfl (o := 3) rfl rfl rfl .mk) ?_
  refine .f [2] rfl (by kernel_rfl) rfl rfl (fun ex => .load1 Try.isAgg45 rfl (.s .z) rfl rfl rfl .mk) ?_
  refine .f [3] rfl (by kernel_rfl) rfl rfl (fun ex => .len Try.underlying45 rfl rfl rfl rfl .mk) ?_
  refine .f [] rfl (by kernel_rfl) rfl rfl (fun ex => .move rfl rfl rfl .mk) ?_
  refine .f [5] rfl (by kernel_rfl) rfl rfl (fun ex => .nilCheckP rfl rfl rfl .mk) ?_
  refine .f [6] rfl (by kernel_rfl) rfl rfl (fun ex => .fieldAddr Try.underlying68 rfl Try.sizeOf3 rfl (o := 0) rfl rfl rfl .mk) ?_
  refine .f [7] rfl (by kernel_rfl) rfl rfl (fun ex => .load1 Try.isAgg3 rfl (.s .z) rfl rfl rfl .mk) ?_
  refine .f [4, 8] rfl (by kernel_rfl) rfl rfl (fun ex => .ge rfl rfl rfl rfl .mk) ?_
  refine .e 10 (by kernel_rfl) (by kernel_rfl) (by kernel_rfl) ?_
  refine .nil' fun c w ho hs => Cod.at (E := [(0, _), (3, _), (16, _)]) (ho.sub ⟨rfl, rfl, rfl, trivial⟩) hs ?_
  refine .cond rfl (fun hb21 => ?_) (fun hb21 => ?_)
  · have hd := hd.1 hb21
    refine .seq ?_
    refine .region ?_
    refine .skips 1 rfl ?_
    refine .nil' fun c w ho hs => Cod.at (E := [(0, _), (4, _)]) (ho.sub ⟨rfl, rfl, trivial⟩) hs ?_
    refine .drop .z ?_
    exact .ret (oret Try.results32 (.t rfl .n) (.refl _) (.c .z (.c .z .n)) ⟨(9, o0), _, _, rfl, rfl, hd⟩)
  · have hd := hd.2 hb21
    refine .skip' fun c w ho hs => Cod.at (E := [(0, _), (3, _)]) (ho.sub ⟨rfl, rfl, trivial⟩) hs ?_
    refine .seq ?_
    refine .region ?_
    refine .loadW Try.isAgg34 Try.sizeOf34 rfl .z rfl rfl rfl ?_
    have hw54 := W_ref20_own (I := I) R9 R12 R15 hd
    refine .call Try.call43 rfl hw54 rfl rfl fun v43 I40 hl41 hv42 => ?_
    obtain ⟨r39, p45, c46, p48, c49, p51, c52, rfl, R47, R50, R53, hd⟩ := hv42
    have le55 := IH.le.trans (.refl _) hl41
    replace R9 := R9.mono hl41
    replace R12 := R12.mono hl41
    replace R15 := R15.mono hl41
    refine .storeA Try.sizeOf34 rfl rfl .z (.t (.t (.t (.t (.t (.t (.t (.t (.t (.t (.t .nil))))))))))) rfl rfl ?_
    refine .nil' fun c w ho hs => Cod.at (E := [(0, _), (3, _)]) (ho.sub ⟨rfl, rfl, trivial⟩) hs ?_
    refine .seq ?_
    refine .region ?_
    refine .skips 1 rfl ?_
    refine .nilCheckP rfl rfl rfl ?_
    refine .fieldAddr Try.underlying68 rfl Try.sizeOf3 rfl (o := 1) rfl rfl rfl ?_
    refine .load1 Try.isAgg3 rfl (.s .z) rfl rfl rfl ?_
    refine .fieldAddr Try.underlying34 rfl Try.sizeOf3 rfl (o := 3) rfl rfl rfl ?_
    refine .store1 Try.sizeOf3 rfl rfl .z (.s (.s (.s (.t .nil)))) rfl ?_
    refine .nil' fun c w ho hs => Cod.at (E := [(0, _), (3, _)]) (ho.sub ⟨rfl, rfl, trivial⟩) hs ?_
    refine .seq ?_
    refine .region ?_
    refine .skips 1 rfl ?_
    refine .nilCheckP rfl rfl rfl ?_
    refine .fieldAddr Try.underlying68 rfl Try.sizeOf3 rfl (o := 1) rfl rfl rfl ?_
    refine .load1 Try.isAgg3 rfl (.s .z) rfl rfl rfl ?_
    refine .add rfl rfl rfl rfl ?_
    refine .nilCheckP rfl rfl rfl ?_
    refine .fieldAddr Try.underlying68 rfl Try.sizeOf3 rfl (o := 1) rfl rfl rfl ?_
    refine .store1 Try.sizeOf3 rfl rfl (.s .z) (.s (.t .nil)) rfl ?_
    refine .nil' fun c w ho hs => Cod.at (E := [(0, _), (3, _)]) (ho.sub ⟨rfl, rfl, trivial⟩) hs ?_
    refine .seq ?_
    refine .draw [some 0, some 1, some 2, some 3, some 4, some 5, some 6, some 7, some 8, some 9, some 10] 11 MX (by kernel_rfl) (by kernel_rfl) (by kernel_rfl) (by kernel_rfl) (by kernel_rfl) (by kernel_rfl) (by kernel_rfl) (fun ex => (pto b18 (.cells #[.int .i64 r39.Kind, .int .i64 r39.From, .int .i64 r39.To, .int .i64 o0.Out, .int .i64 r39.Round, .int .i64 r39.Vec.N, .slice p45 r39.Vec.Items.length c46, .slice p48 r39.Sums.length c49, .slice p51 r39.Triples.length c52, .int .i64 r39.N, .bool r39.Over] 34 (0, 0))) :: (pto b2 (.cells #[.int .i64 o0.Many, .int .i64 (w64 (o0.Out + 1)), .int .i64 o0.In, .slice p3 o0.L.length c4] 68 (0, 0))) :: (OwnSl eFrame 34 p3 c4 o0.L) :: ex) (fun _ _ => (.s (.s (.s .z)))) rfl ?_
    refine .f [] rfl (by kernel_rfl) rfl rfl (fun ex => .move rfl rfl rfl .mk) ?_
    refine .f [] rfl (by kernel_rfl) rfl rfl (fun ex => .move rfl rfl rfl .mk) ?_
    refine .f [1] rfl (by kernel_rfl) rfl rfl (fun ex => .nilCheckP rfl rfl rfl .mk) ?_
    refine .f [2] rfl (by kernel_rfl) rfl rfl (fun ex => .fieldAddr Try.underlying68 rfl Try.sizeOf45 rfl (o := 3) rfl rfl rfl .mk) ?_
    refine .f [3] rfl (by kernel_rfl) rfl rfl (fun ex => .load1 Try.isAgg45 rfl (.s .z) rfl rfl rfl .mk) ?_
    refine .f [] rfl (by kernel_rfl) rfl rfl (fun ex => .loadW Try.isAgg34 Try.sizeOf34 rfl .z rfl rfl rfl .mk) ?_
    refine .w [4, 3, 2, 1, 0] [[]] [5] rfl (by kernel_rfl) (by kernel_rfl) (by kernel_rfl) ((dropE_kept rfl rfl)) (.inr (dropE_kept rfl rfl)) fun ex => ?_
    refine .buildSlice 1 Try.underlying45 Try.sizeOf34 Try.zeroValue34 rfl rfl (.c rfl rfl rfl .n) rfl rfl fun b56 => ?_
    refine .some (fun ex => (pto b56 (.cells #[.int .i64 r39.Kind, .int .i64 r39.From, .int .i64 r39.To, .int .i64 o0.Out, .int .i64 r39.Round, .int .i64 r39.Vec.N, .slice p45 r39.Vec.Items.length c46, .slice p48 r39.Sums.length c49, .slice p51 r39.Triples.length c52, .int .i64 r39.N, .bool r39.Over] 34 (0, 0))) :: (pto b18 (.cells #[.int .i64 r39.Kind, .int .i64 r39.From, .int .i64 r39.To, .int .i64 o0.Out, .int .i64 r39.Round, .int .i64 r39.Vec.N, .slice p45 r39.Vec.Items.length c46, .slice p48 r39.Sums.length c49, .slice p51 r39.Triples.length c52, .int .i64 r39.N, .bool r39.Over] 34 (0, 0))) :: (pto b2 (.cells #[.int .i64 o0.Many, .int .i64 (w64 (o0.Out + 1)), .int .i64 o0.In, .slice p3 o0.L.length c4] 68 (0, 0))) :: (OwnSl eFrame 34 p3 c4 o0.L) :: ex) rfl (fun _ _ => (.s (.s (.s (.s .z))))) rfl (.cc [3] rfl (by kernel_rfl) rfl rfl rfl (fun ex => .load1 Try.isAgg45 rfl (.s (.s .z)) rfl rfl rfl .mk) (.cc [2] rfl (by kernel_rfl) rfl rfl rfl (fun ex => .fieldAddr Try.underlying68 rfl Try.sizeOf45 rfl (o := 3) rfl rfl rfl .mk) (.cc [1] rfl (by kernel_rfl) rfl rfl rfl (fun ex => .nilCheckP rfl rfl rfl .mk) (.cc [] rfl (by kernel_rfl) rfl rfl rfl (fun ex => .move rfl rfl rfl .mk) (.cc [] rfl (by kernel_rfl) rfl rfl rfl (fun ex => .move rfl rfl rfl .mk) trivial))))) ?_
    refine .w [0] [[], [4], [3, 4], [2, 3, 4]] [4, 6] rfl (by kernel_rfl) (by kernel_rfl) (by kernel_rfl) ((dropE_kept rfl rfl)) (.inr (dropE_kept rfl rfl)) fun ex => ?_
    obtain ⟨hl58, hd⟩ := hd
    refine .append (ys := [({ Kind := r39.Kind, From := r39.From, To := r39.To, Seq := o0.Out, Round := r39.Round, Vec := r39.Vec, Sums := r39.Sums, Triples := r39.Triples, N := r39.N, Over := r39.Over } : Frame)]) 136 (.s (.s (.s .z))) Try.underlying45 Try.underlying45 IN34 rfl rfl rfl rfl rfl rfl rfl rfl rfl (.box .z (.one ⟨_, _, _, _, _, _, rfl, R47, R50, R53⟩) rfl) hl58 rfl rfl fun p59 c60 => ?_
    refine .some (fun ex => (OwnSl eFrame 34 p59 c60 (o0.L ++ ([({ Kind := r39.Kind, From := r39.From, To := r39.To, Seq := o0.Out, Round := r39.Round, Vec := r39.Vec, Sums := r39.Sums, Triples := r39.Triples, N := r39.N, Over := r39.Over } : Frame)]))) :: (pto b56 (.cells #[.int .i64 r39.Kind, .int .i64 r39.From, .int .i64 r39.To, .int .i64 o0.Out, .int .i64 r39.Round, .int .i64 r39.Vec.N, .slice p45 r39.Vec.Items.length c46, .slice p48 r39.Sums.length c49, .slice p51 r39.Triples.length c52, .int .i64 r39.N, .bool r39.Over] 34 (0, 0))) :: (pto b18 (.cells #[.int .i64 r39.Kind, .int .i64 r39.From, .int .i64 r39.To, .int .i64 o0.Out, .int .i64 r39.Round, .int .i64 r39.Vec.N, .slice p45 r39.Vec.Items.length c46, .slice p48 r39.Sums.length c49, .slice p51 r39.Triples.length c52, .int .i64 r39.N, .bool r39.Over] 34 (0, 0))) :: (pto b2 (.cells #[.int .i64 o0.Many, .int .i64 (w64 (o0.Out + 1)), .int .i64 o0.In, .slice p3 o0.L.length c4] 68 (0, 0))) :: ex) rfl (fun _ _ => (.s (.s (.s (.s .z))))) rfl (.cc [] rfl (by kernel_rfl) rfl rfl rfl (fun ex => .move rfl rfl rfl .mk) trivial) ?_
    refine .f [0, 0, 1, 2, 3, 4, 5, 6, 7] rfl (by kernel_rfl) rfl rfl (fun ex => .nilCheckP rfl rfl rfl .mk) ?_
    refine .f [8, 0, 1, 2, 3, 4, 5, 6, 7] rfl (by kernel_rfl) rfl rfl (fun ex => .fieldAddr Try.underlying68 rfl Try.sizeOf45 rfl (o := 3) rfl rfl rfl .mk) ?_
    refine .w [] [[], [9], []] [9, 7, 7, 0, 1, 2, 3, 4, 5, 6, 7] rfl (by kernel_rfl) (by kernel_rfl) (by kernel_rfl) ((dropE_none rfl)) (.inr (dropE_none rfl)) fun ex => ?_
    refine .store1 Try.sizeOf45 rfl rfl (.s (.s (.s .z))) (.s (.s (.s (.t .nil)))) rfl ?_
    refine .none (fun ex => (OwnSl eFrame 34 p59 c60 (o0.L ++ ([({ Kind := r39.Kind, From := r39.From, To := r39.To, Seq := o0.Out, Round := r39.Round, Vec := r39.Vec, Sums := r39.Sums, Triples := r39.Triples, N := r39.N, Over := r39.Over } : Frame)]))) :: (pto b56 (.cells #[.int .i64 r39.Kind, .int .i64 r39.From, .int .i64 r39.To, .int .i64 o0.Out, .int .i64 r39.Round, .int .i64 r39.Vec.N, .slice p45 r39.Vec.Items.length c46, .slice p48 r39.Sums.length c49, .slice p51 r39.Triples.length c52, .int .i64 r39.N, .bool r39.Over] 34 (0, 0))) :: (pto b18 (.cells #[.int .i64 r39.Kind, .int .i64 r39.From, .int .i64 r39.To, .int .i64 o0.Out, .int .i64 r39.Round, .int .i64 r39.Vec.N, .slice p45 r39.Vec.Items.length c46, .slice p48 r39.Sums.length c49, .slice p51 r39.Triples.length c52, .int .i64 r39.N, .bool r39.Over] 34 (0, 0))) :: (pto b2 (.cells #[.int .i64 o0.Many, .int .i64 (w64 (o0.Out + 1)), .int .i64 o0.In, .slice p59 (o0.L ++ ([({ Kind := r39.Kind, From := r39.From, To := r39.To, Seq := o0.Out, Round := r39.Round, Vec := r39.Vec, Sums := r39.Sums, Triples := r39.Triples, N := r39.N, Over := r39.Over } : Frame)])).length c60] 68 (0, 0))) :: ex) rfl (fun _ _ => (.s (.s (.s (.s .z))))) rfl trivial ?_
    refine .e 11 (by kernel_rfl) (by kernel_rfl) (by kernel_rfl) ?_
    refine .nil' fun c w ho hs => Cod.at (E := [(0, _)]) (ho.sub ⟨rfl, trivial⟩) hs ?_
    refine .drop (.s .z) ?_
    refine .drop (.s .z) ?_
    refine .seq ?_
    refine .region ?_
    refine .skips 1 rfl ?_
    refine .nil' fun c w ho hs => Cod.at (E := [(0, _), (4, _)]) (ho.sub ⟨rfl, rfl, trivial⟩) hs ?_
    exact .ret (oret Try.results32 (.t rfl .n) le55 (.c (.s .z) (.c .z .n)) ⟨(0, ({ Many := o0.Many, Out := w64 (o0.Out + 1), In := o0.In, L := (o0.L ++ ([({ Kind := r39.Kind, From := r39.From, To := r39.To, Seq := o0.Out, Round := r39.Round, Vec := r39.Vec, Sums := r39.Sums, Triples := r39.Triples, N := r39.N, Over := r39.Over } : Frame)])) } : Ref20_Box)), _, _, rfl, rfl, hd⟩)

theorem W_ref20_Box_has_i34 {I : IH} {o0 : Ref20_Box} {a0 : Int} {b2 : Nat} {p3 : Option Addr} {c4 : Nat} {Q : Int → Prop}  (hd : ref20_Box_has_i34 o0 a0 Q) :
    Fun Try.prog 44 #[.pointer (some ⟨b2, 0, none⟩), .int .i64 a0] I [pto b2 (.cells #[.int .i64 o0.Many, .int .i64 o0.Out, .int .i64 o0.In, .slice p3 o0.L.length c4] 68 (0, 0)), OwnSl eFrame 34 p3 c4 o0.L] (fun I_ v l => ∃ r, v = .int .i64 r ∧ l = [pto b2 (.cells #[.int .i64 o0.Many, .int .i64 o0.Out, .int .i64 o0.In, .slice p3 o0.L.length c4] 68 (0, 0)), OwnSl eFrame 34 p3 c4 o0.L] ∧ Q r) := by
  refine Fun.enter (vs := [.pointer (some ⟨b2, 0, none⟩), .int .i64 a0]) Try.func44 rfl Try.ntmps44 rfl (.c (.c .n)) fun w0 M => ?_
  refine .seq ?_
  refine .region ?_
  refine .skips 1 rfl ?_
  refine .nil' fun c w ho hs => Cod.at (E := [(0, _), (1, _)]) (ho.sub ⟨rfl, rfl, trivial⟩) hs ?_
  refine .seq ?_
  refine .seq ?_
  refine .region ?_
  refine .skips 1 rfl ?_
  refine .eqNilP Try.underlying42 rfl rfl rfl rfl ?_
  refine .nil' fun c w ho hs => Cod.at (E := [(0, _), (1, _), (6, _)]) (ho.sub ⟨rfl, rfl, rfl, trivial⟩) hs ?_
  refine .condKF rfl rfl ?_
  refine .skip' fun c w ho hs => Cod.at (E := [(0, _), (1, _)]) (ho.sub ⟨rfl, rfl, trivial⟩) hs ?_
  refine .seq ?_
  refine .seq ?_
  refine .region ?_
  refine .skips 1 rfl ?_
  refine .lt rfl rfl rfl rfl ?_
  refine .skips 1 rfl ?_
  refine split (decide (a0 < 0)) (fun hb7 => ?_) (fun hb7 => ?_)
  · have hd := hd.1 hb7
    rw [hb7]
    refine .skips 8 rfl ?_
    refine .nil' fun c w ho hs => Cod.at (E := [(0, _), (17, _)]) (ho.sub ⟨rfl, rfl, trivial⟩) hs ?_
    refine .condKT rfl rfl ?_
    refine .seq ?_
    refine .region ?_
    refine .skips 1 rfl ?_
    refine .nil' fun c w ho hs => Cod.at (E := [(0, _), (4, _)]) (ho.sub ⟨rfl, rfl, trivial⟩) hs ?_
    exact .ret (oret Try.results44 (.t rfl .n) (.refl _) (.c .z (.c .z .n)) ⟨3, rfl, rfl, hd⟩)
  · have hd := hd.2 hb7
    rw [hb7]
    refine .gyes rfl rfl rfl (.move rfl rfl rfl ?_)
    refine .gyes rfl rfl rfl (.move rfl rfl rfl ?_)
    refine .gyes rfl rfl rfl (.nilCheckP rfl rfl rfl ?_)
    refine .gyes rfl rfl rfl (.fieldAddr Try.underlying68 rfl Try.sizeOf45 rfl (o := 3) rfl rfl rfl ?_)
    refine .gyes rfl rfl rfl (.load1 Try.isAgg45 rfl .z rfl rfl rfl ?_)
    refine .gyes rfl rfl rfl (.len Try.underlying45 rfl rfl rfl rfl ?_)
    refine .gyes rfl rfl rfl (.ge rfl rfl rfl rfl ?_)
    refine .skips 1 rfl ?_
    refine .nil' fun c w ho hs => Cod.at (E := [(0, _), (17, _)]) (ho.sub ⟨rfl, rfl, trivial⟩) hs ?_
    refine .cond rfl (fun hb8 => ?_) (fun hb8 => ?_)
    · have hd := hd.1 hb8
      refine .seq ?_
      refine .region ?_
      refine .skips 1 rfl ?_
      refine .nil' fun c w ho hs => Cod.at (E := [(0, _), (4, _)]) (ho.sub ⟨rfl, rfl, trivial⟩) hs ?_
      exact .ret (oret Try.results44 (.t rfl .n) (.refl _) (.c .z (.c .z .n)) ⟨3, rfl, rfl, hd⟩)
    · have hd := hd.2 hb8
      refine .skip' fun c w ho hs => Cod.at (E := [(0, _)]) (ho.sub ⟨rfl, trivial⟩) hs ?_
      refine .seq ?_
      refine .region ?_
      refine .skips 1 rfl ?_
      refine .nil' fun c w ho hs => Cod.at (E := [(0, _), (4, _)]) (ho.sub ⟨rfl, rfl, trivial⟩) hs ?_
      exact .ret (oret Try.results44 (.t rfl .n) (.refl _) (.c .z (.c .z .n)) ⟨0, rfl, rfl, hd⟩)

theorem W_ref20_Box_Double_i33 {I : IH} {o0 : Ref20_Box} {a0 : Int} {b2 : Nat} {p3 : Option Addr} {c4 : Nat} {Q : (Int × Ref20_Box) → Prop}  (hd : ref20_Box_Double_i33 o0 a0 Q) :
    Fun Try.prog 33 #[.pointer (some ⟨b2, 0, none⟩), .int .i64 a0] I [pto b2 (.cells #[.int .i64 o0.Many, .int .i64 o0.Out, .int .i64 o0.In, .slice p3 o0.L.length c4] 68 (0, 0)), OwnSl eFrame 34 p3 c4 o0.L] (fun I_ v l => ∃ r p8 c9, v = .int .i64 r.1 ∧ l = [pto b2 (.cells #[.int .i64 r.2.Many, .int .i64 r.2.Out, .int .i64 r.2.In, .slice p8 r.2.L.length c9] 68 (0, 0)), OwnSl eFrame 34 p8 c9 r.2.L] ∧ Q r) := by
  refine Fun.enter (vs := [.pointer (some ⟨b2, 0, none⟩), .int .i64 a0]) Try.func33 rfl Try.ntmps33 rfl (.c (.c .n)) fun w0 M => ?_
  refine .seq ?_
  refine .region ?_
  refine .skips 1 rfl ?_
  refine .nil' fun c w ho hs => Cod.at (E := [(0, _), (1, _)]) (ho.sub ⟨rfl, rfl, trivial⟩) hs ?_
  refine .seq ?_
  refine .seq ?_
  refine .region ?_
  refine .skips 2 rfl ?_
  have hw16 := W_ref20_Box_has_i34 (I := I) (o0 := o0) (a0 := a0) (b2 := b2) (p3 := p3) (c4 := c4) hd
  refine .callS (.f Try.call44 rfl) (.c .z (.c .z .n)) hw16 rfl rfl fun v20 I17 l21 hl18 hv19 => ?_
  obtain ⟨r22, rfl, rfl, hd⟩ := hv19
  have le23 := IH.le.trans (.refl _) hl18
  refine .re (m' := [pto b2 (.cells #[.int .i64 o0.Many, .int .i64 o0.Out, .int .i64 o0.In, .slice p3 o0.L.length c4] 68 (0, 0)), OwnSl eFrame 34 p3 c4 o0.L]) rfl ?_
  refine .skips 1 rfl ?_
  refine .nil' fun c w ho hs => Cod.at (E := [(0, _), (1, _), (5, _)]) (ho.sub ⟨rfl, rfl, rfl, trivial⟩) hs ?_
  refine .seq ?_
  refine .region ?_
  refine .skips 1 rfl ?_
  refine .ne rfl rfl rfl rfl ?_
  refine .nil' fun c w ho hs => Cod.at (E := [(0, _), (1, _), (5, _), (10, _)]) (ho.sub ⟨rfl, rfl, rfl, rfl, trivial⟩) hs ?_
  refine .cond rfl (fun hb24 => ?_) (fun hb24 => ?_)
  · have hd := hd.1 hb24
    refine .seq ?_
    refine .region ?_
    refine .skips 2 rfl ?_
    refine .nil' fun c w ho hs => Cod.at (E := [(0, _), (4, _)]) (ho.sub ⟨rfl, rfl, trivial⟩) hs ?_
    exact .ret (oret Try.results33 (.t rfl .n) le23 (.c .z (.c .z .n)) ⟨(r22, o0), _, _, rfl, rfl, hd⟩)
  · have hd := hd.2 hb24
    refine .skip' fun c w ho hs => Cod.at (E := [(0, _), (1, _)]) (ho.sub ⟨rfl, rfl, trivial⟩) hs ?_
    refine .seq ?_
    refine .seq ?_
    refine .draw [some 0, some 1, some 2, some 3, some 4, some 5, some 6, some 7, some 8, some 9] 10 MX (by kernel_rfl) (by kernel_rfl) (by kernel_rfl) (by kernel_rfl) (by kernel_rfl) (by kernel_rfl) (by kernel_rfl) (fun ex => (pto b2 (.cells #[.int .i64 o0.Many, .int .i64 o0.Out, .int .i64 o0.In, .slice p3 o0.L.length c4] 68 (0, 0))) :: (OwnSl eFrame 34 p3 c4 o0.L) :: ex) (fun _ _ => (.s (.s .z))) rfl ?_
    refine .f [] rfl (by kernel_rfl) rfl rfl (fun ex => .move rfl rfl rfl .mk) ?_
    refine .f [0] rfl (by kernel_rfl) rfl rfl (fun ex => .nilCheckP rfl rfl rfl .mk) ?_
    refine .f [1] rfl (by kernel_rfl) rfl rfl (fun ex => .fieldAddr Try.underlying68 rfl Try.sizeOf45 rfl (o := 3) rfl rfl rfl .mk) ?_
    refine .f [2] rfl (by kernel_rfl) rfl rfl (fun ex => .load1 Try.isAgg45 rfl .z rfl rfl rfl .mk) ?_
    refine .f [3] rfl (by kernel_rfl) rfl rfl (fun ex => .len Try.underlying45 rfl rfl rfl rfl .mk) ?_
    refine .f [] rfl (by kernel_rfl) rfl rfl (fun ex => .move rfl rfl rfl .mk) ?_
    refine .f [5] rfl (by kernel_rfl) rfl rfl (fun ex => .nilCheckP rfl rfl rfl .mk) ?_
    refine .f [6] rfl (by kernel_rfl) rfl rfl (fun ex => .fieldAddr Try.underlying68 rfl Try.sizeOf3 rfl (o := 0) rfl rfl rfl .mk) ?_
    refine .f [7] rfl (by kernel_rfl) rfl rfl (fun ex => .load1 Try.isAgg3 rfl .z rfl rfl rfl .mk) ?_
    refine .f [4, 8] rfl (by kernel_rfl) rfl rfl (fun ex => .ge rfl rfl rfl rfl .mk) ?_
    refine .e 10 (by kernel_rfl) (by kernel_rfl) (by kernel_rfl) ?_
    refine .nil' fun c w ho hs => Cod.at (E := [(0, _), (1, _), (21, _)]) (ho.sub ⟨rfl, rfl, rfl, trivial⟩) hs ?_
    refine .cond rfl (fun hb26 => ?_) (fun hb26 => ?_)
    · have hd := hd.1 hb26
      refine .seq ?_
      refine .region ?_
      refine .skips 1 rfl ?_
      refine .nil' fun c w ho hs => Cod.at (E := [(0, _), (4, _)]) (ho.sub ⟨rfl, rfl, trivial⟩) hs ?_
      exact .ret (oret Try.results33 (.t rfl .n) le23 (.c .z (.c .z .n)) ⟨(9, o0), _, _, rfl, rfl, hd⟩)
    · have hd := hd.2 hb26
      refine .skip' fun c w ho hs => Cod.at (E := [(0, _), (1, _)]) (ho.sub ⟨rfl, rfl, trivial⟩) hs ?_
      refine .seq ?_
      refine .ownF (.s .z) fun hne27 => ?_
      refine .draw [some 0, some 1, some 2, some 3, some 4, some 5, some 6, some 7, some 8, some 9, some 10, some 11, some 12, some 13, some 14, some 15, some 16, some 17] 18 MX (by kernel_rfl) (by kernel_rfl) (by kernel_rfl) (by kernel_rfl) (by kernel_rfl) (by kernel_rfl) (by kernel_rfl) (fun ex => (pto b2 (.cells #[.int .i64 o0.Many, .int .i64 o0.Out, .int .i64 o0.In, .slice p3 o0.L.length c4] 68 (0, 0))) :: (OwnSl eFrame 34 p3 c4 o0.L) :: ex) (fun _ _ => (.s (.s .z))) rfl ?_
      refine .f [] rfl (by kernel_rfl) rfl rfl (fun ex => .move rfl rfl rfl .mk) ?_
      refine .f [] rfl (by kernel_rfl) rfl rfl (fun ex => .move rfl rfl rfl .mk) ?_
      refine .f [1] rfl (by kernel_rfl) rfl rfl (fun ex => .nilCheckP rfl rfl rfl .mk) ?_
      refine .f [2] rfl (by kernel_rfl) rfl rfl (fun ex => .fieldAddr Try.underlying68 rfl Try.sizeOf45 rfl (o := 3) rfl rfl rfl .mk) ?_
      refine .f [3] rfl (by kernel_rfl) rfl rfl (fun ex => .load1 Try.isAgg45 rfl .z rfl rfl rfl .mk) ?_
      refine .f [] rfl (by kernel_rfl) rfl rfl (fun ex => .move rfl rfl rfl .mk) ?_
      refine .f [5] rfl (by kernel_rfl) rfl rfl (fun ex => .nilCheckP rfl rfl rfl .mk) ?_
      refine .f [6] rfl (by kernel_rfl) rfl rfl (fun ex => .fieldAddr Try.underlying68 rfl Try.sizeOf45 rfl (o := 3) rfl rfl rfl .mk) ?_
      refine .f [7] rfl (by kernel_rfl) rfl rfl (fun ex => .load1 Try.isAgg45 rfl .z rfl rfl rfl .mk) ?_
      refine .f [] rfl (by kernel_rfl) rfl rfl (fun ex => .move rfl rfl rfl .mk) ?_
      obtain ⟨h28, x29, hx30, hd⟩ := hd
      obtain ⟨b31, e32⟩ := hne27 (idx_ne hx30)
      cases e32
      refine .f [8, 9] rfl (by kernel_rfl) rfl rfl (fun ex => .ixa0 Try.underlying45 Try.sizeOf34 rfl rfl h28 (idx_lt hx30 h28) rfl rfl .mk) ?_
      refine .w [4, 3, 2, 1, 0] [[], [10], [10], [8, 10], [7, 8, 10], [6, 7, 8, 10]] [10] rfl (by kernel_rfl) (by kernel_rfl) (by kernel_rfl) ((dropE_kept rfl rfl)) (.inr (dropE_kept rfl rfl)) fun ex => ?_
      refine .loEW Try.isAgg34 Try.sizeOf34 (.s .z) hx30 rfl rfl rfl rfl rfl fun cs42 hr43 => ?_
      obtain ⟨p33, c34, p36, c37, p39, c40, rfl, R35, R38, R41⟩ := hr43
      refine .some (fun ex => (pto b2 (.cells #[.int .i64 o0.Many, .int .i64 o0.Out, .int .i64 o0.In, .slice (some ⟨b31, 0, none⟩) o0.L.length c4] 68 (0, 0))) :: (OwnSl eFrame 34 (some ⟨b31, 0, none⟩) c4 o0.L) :: ex) rfl (fun _ _ => (.s (.s .z))) rfl (.cc [3] rfl (by kernel_rfl) rfl rfl rfl (fun ex => .load1 Try.isAgg45 rfl .z rfl rfl rfl .mk) (.cc [2] rfl (by kernel_rfl) rfl rfl rfl (fun ex => .fieldAddr Try.underlying68 rfl Try.sizeOf45 rfl (o := 3) rfl rfl rfl .mk) (.cc [1] rfl (by kernel_rfl) rfl rfl rfl (fun ex => .nilCheckP rfl rfl rfl .mk) (.cc [] rfl (by kernel_rfl) rfl rfl rfl (fun ex => .move rfl rfl rfl .mk) (.cc [] rfl (by kernel_rfl) rfl rfl rfl (fun ex => .move rfl rfl rfl .mk) trivial))))) ?_
      refine .w [4, 3, 2, 1, 0] [] [11] rfl (by kernel_rfl) (by kernel_rfl) (by kernel_rfl) ((dropE_kept rfl rfl)) (.inr (dropE_kept rfl rfl)) fun ex => ?_
      have hw59 := W_ref20_own (I := I17) R35 R38 R41 hd
      refine .call Try.call43 rfl hw59 rfl rfl fun v48 I45 hl46 hv47 => ?_
      obtain ⟨r44, p50, c51, p53, c54, p56, c57, rfl, R52, R55, R58, hd⟩ := hv47
      have le60 := IH.le.trans le23 hl46
      replace R35 := R35.mono hl46
      replace R38 := R38.mono hl46
      replace R41 := R41.mono hl46
      refine .some (fun ex => (pto b2 (.cells #[.int .i64 o0.Many, .int .i64 o0.Out, .int .i64 o0.In, .slice (some ⟨b31, 0, none⟩) o0.L.length c4] 68 (0, 0))) :: (OwnSl eFrame 34 (some ⟨b31, 0, none⟩) c4 o0.L) :: ex) rfl (fun _ _ => (.s (.s .z))) rfl (.cc [3] rfl (by kernel_rfl) rfl rfl rfl (fun ex => .load1 Try.isAgg45 rfl .z rfl rfl rfl .mk) (.cc [2] rfl (by kernel_rfl) rfl rfl rfl (fun ex => .fieldAddr Try.underlying68 rfl Try.sizeOf45 rfl (o := 3) rfl rfl rfl .mk) (.cc [1] rfl (by kernel_rfl) rfl rfl rfl (fun ex => .nilCheckP rfl rfl rfl .mk) (.cc [] rfl (by kernel_rfl) rfl rfl rfl (fun ex => .move rfl rfl rfl .mk) (.cc [] rfl (by kernel_rfl) rfl rfl rfl (fun ex => .move rfl rfl rfl .mk) trivial))))) ?_
      refine .w [4, 3, 2, 1, 0] [] [12] rfl (by kernel_rfl) (by kernel_rfl) (by kernel_rfl) ((dropE_kept rfl rfl)) (.inr (dropE_kept rfl rfl)) fun ex => ?_
      refine .buildSlice 1 Try.underlying45 Try.sizeOf34 Try.zeroValue34 rfl rfl (.c rfl rfl rfl .n) rfl rfl fun b61 => ?_
      refine .some (fun ex => (pto b61 (.cells #[.int .i64 r44.Kind, .int .i64 r44.From, .int .i64 r44.To, .int .i64 r44.Seq, .int .i64 r44.Round, .int .i64 r44.Vec.N, .slice p50 r44.Vec.Items.length c51, .slice p53 r44.Sums.length c54, .slice p56 r44.Triples.length c57, .int .i64 r44.N, .bool r44.Over] 34 (0, 0))) :: (pto b2 (.cells #[.int .i64 o0.Many, .int .i64 o0.Out, .int .i64 o0.In, .slice (some ⟨b31, 0, none⟩) o0.L.length c4] 68 (0, 0))) :: (OwnSl eFrame 34 (some ⟨b31, 0, none⟩) c4 o0.L) :: ex) rfl (fun _ _ => (.s (.s (.s .z)))) rfl (.cc [3] rfl (by kernel_rfl) rfl rfl rfl (fun ex => .load1 Try.isAgg45 rfl (.s .z) rfl rfl rfl .mk) (.cc [2] rfl (by kernel_rfl) rfl rfl rfl (fun ex => .fieldAddr Try.underlying68 rfl Try.sizeOf45 rfl (o := 3) rfl rfl rfl .mk) (.cc [1] rfl (by kernel_rfl) rfl rfl rfl (fun ex => .nilCheckP rfl rfl rfl .mk) (.cc [] rfl (by kernel_rfl) rfl rfl rfl (fun ex => .move rfl rfl rfl .mk) (.cc [] rfl (by kernel_rfl) rfl rfl rfl (fun ex => .move rfl rfl rfl .mk) trivial))))) ?_
      refine .w [0] [[], [4], [3, 4], [2, 3, 4]] [4, 13, 12] rfl (by kernel_rfl) (by kernel_rfl) (by kernel_rfl) ((dropE_kept rfl rfl)) (.inr (dropE_kept rfl rfl)) fun ex => ?_
      obtain ⟨hl63, hd⟩ := hd
      refine .append (ys := [r44]) 136 (.s (.s .z)) Try.underlying45 Try.underlying45 IN34 rfl rfl rfl rfl rfl rfl rfl rfl rfl (.box .z (.one ⟨_, _, _, _, _, _, rfl, R52, R55, R58⟩) rfl) hl63 rfl rfl fun p64 c65 => ?_
      refine .some (fun ex => (OwnSl eFrame 34 p64 c65 (o0.L ++ ([r44]))) :: (pto b61 (.cells #[.int .i64 r44.Kind, .int .i64 r44.From, .int .i64 r44.To, .int .i64 r44.Seq, .int .i64 r44.Round, .int .i64 r44.Vec.N, .slice p50 r44.Vec.Items.length c51, .slice p53 r44.Sums.length c54, .slice p56 r44.Triples.length c57, .int .i64 r44.N, .bool r44.Over] 34 (0, 0))) :: (pto b2 (.cells #[.int .i64 o0.Many, .int .i64 o0.Out, .int .i64 o0.In, .slice (some ⟨b31, 0, none⟩) o0.L.length c4] 68 (0, 0))) :: ex) rfl (fun _ _ => (.s (.s (.s .z)))) rfl (.cc [] rfl (by kernel_rfl) rfl rfl rfl (fun ex => .move rfl rfl rfl .mk) trivial) ?_
      refine .f [0, 0, 1, 2, 3, 4, 5, 6, 7, 8, 9, 10, 11, 12, 13, 14] rfl (by kernel_rfl) rfl rfl (fun ex => .nilCheckP rfl rfl rfl .mk) ?_
      refine .f [15, 0, 1, 2, 3, 4, 5, 6, 7, 8, 9, 10, 11, 12, 13, 14] rfl (by kernel_rfl) rfl rfl (fun ex => .fieldAddr Try.underlying68 rfl Try.sizeOf45 rfl (o := 3) rfl rfl rfl .mk) ?_
      refine .w [] [[], [16], []] [16, 14, 14, 0, 1, 2, 3, 4, 5, 6, 7, 8, 9, 10, 11, 12, 13, 14] rfl (by kernel_rfl) (by kernel_rfl) (by kernel_rfl) ((dropE_none rfl)) (.inr (dropE_none rfl)) fun ex => ?_
      refine .store1 Try.sizeOf45 rfl rfl (.s (.s .z)) (.s (.s (.s (.t .nil)))) rfl ?_
      refine .none (fun ex => (OwnSl eFrame 34 p64 c65 (o0.L ++ ([r44]))) :: (pto b61 (.cells #[.int .i64 r44.Kind, .int .i64 r44.From, .int .i64 r44.To, .int .i64 r44.Seq, .int .i64 r44.Round, .int .i64 r44.Vec.N, .slice p50 r44.Vec.Items.length c51, .slice p53 r44.Sums.length c54, .slice p56 r44.Triples.length c57, .int .i64 r44.N, .bool r44.Over] 34 (0, 0))) :: (pto b2 (.cells #[.int .i64 o0.Many, .int .i64 o0.Out, .int .i64 o0.In, .slice p64 (o0.L ++ ([r44])).length c65] 68 (0, 0))) :: ex) rfl (fun _ _ => (.s (.s (.s .z)))) rfl trivial ?_
      refine .e 18 (by kernel_rfl) (by kernel_rfl) (by kernel_rfl) ?_
      refine .nil' fun c w ho hs => Cod.at (E := [(0, _)]) (ho.sub ⟨rfl, trivial⟩) hs ?_
      refine .drop (.s .z) ?_
      refine .seq ?_
      refine .region ?_
      refine .skips 1 rfl ?_
      refine .nil' fun c w ho hs => Cod.at (E := [(0, _), (4, _)]) (ho.sub ⟨rfl, rfl, trivial⟩) hs ?_
      exact .ret (oret Try.results33 (.t rfl .n) le60 (.c (.s .z) (.c .z .n)) ⟨(0, ({ Many := o0.Many, Out := o0.Out, In := o0.In, L := (o0.L ++ ([r44])) } : Ref20_Box)), _, _, rfl, rfl, hd⟩)

theorem W_post_Box_Move_i35 {I : IH} {o0 : Post_Box} {a0 : Int} {b2 : Nat} {p3 : Option Addr} {c4 : Nat} {b8 : Nat} {b10 : Nat} {Q : (Int × Post_Box) → Prop}  (hd : post_Box_Move_i35 o0 a0 Q) :
    Fun Try.prog 15 #[.pointer (some ⟨b2, 0, none⟩), .int .i64 a0] I [pto b2 (.cells #[.int .i64 o0.room, .slice p3 o0.row.length c4, .map (some b8), .map (some b10), .int .i64 o0.sent, .int .i64 o0.taken] 60 (0, 0)), OwnSl eI64 3 p3 c4 o0.row, OwnMap (Value.int .i64) eFrame true b8 o0.by_, OwnMap (Value.int .i64) eI64 false b10 o0.often] (fun I_ v l => ∃ r p12 c13, v = .int .i64 r.1 ∧ l = [pto b2 (.cells #[.int .i64 r.2.room, .slice p12 r.2.row.length c13, .map (some b8), .map (some b10), .int .i64 r.2.sent, .int .i64 r.2.taken] 60 (0, 0)), OwnSl eI64 3 p12 c13 r.2.row, OwnMap (Value.int .i64) eFrame true b8 r.2.by_, OwnMap (Value.int .i64) eI64 false b10 r.2.often] ∧ Q r) := by
  refine Fun.enter (vs := [.pointer (some ⟨b2, 0, none⟩), .int .i64 a0]) Try.func15 rfl Try.ntmps15 rfl (.c (.c .n)) fun w0 M => ?_
  refine .seq ?_
  refine .region ?_
  refine .skips 1 rfl ?_
  refine .nil' fun c w ho hs => Cod.at (E := [(0, _), (1, _)]) (ho.sub ⟨rfl, rfl, trivial⟩) hs ?_
  refine .seq ?_
  refine .seq ?_
  refine .region ?_
  refine .skips 2 rfl ?_
  have hw20 := W_post_Box_at_i6 (I := I) (o0 := o0) (a0 := a0) (b2 := b2) (p3 := p3) (c4 := c4) (b8 := b8) (b10 := b10) hd
  refine .callS (.f Try.call25 rfl) (.c .z (.c .z (.c .z (.c .z .n)))) hw20 rfl rfl fun v24 I21 l25 hl22 hv23 => ?_
  obtain ⟨r26, rfl, rfl, hd⟩ := hv23
  have le27 := IH.le.trans (.refl _) hl22
  refine .re (m' := [pto b2 (.cells #[.int .i64 o0.room, .slice p3 o0.row.length c4, .map (some b8), .map (some b10), .int .i64 o0.sent, .int .i64 o0.taken] 60 (0, 0)), OwnSl eI64 3 p3 c4 o0.row, OwnMap (Value.int .i64) eFrame true b8 o0.by_, OwnMap (Value.int .i64) eI64 false b10 o0.often]) rfl ?_
  refine .skips 1 rfl ?_
  refine .nil' fun c w ho hs => Cod.at (E := [(0, _), (1, _), (5, _)]) (ho.sub ⟨rfl, rfl, rfl, trivial⟩) hs ?_
  refine .seq ?_
  refine .region ?_
  refine .skips 1 rfl ?_
  refine .ne rfl rfl rfl rfl ?_
  refine .nil' fun c w ho hs => Cod.at (E := [(0, _), (1, _), (5, _), (11, _)]) (ho.sub ⟨rfl, rfl, rfl, rfl, trivial⟩) hs ?_
  refine .cond rfl (fun hb28 => ?_) (fun hb28 => ?_)
  · have hd := hd.1 hb28
    refine .seq ?_
    refine .region ?_
    refine .skips 2 rfl ?_
    refine .nil' fun c w ho hs => Cod.at (E := [(0, _), (4, _)]) (ho.sub ⟨rfl, rfl, trivial⟩) hs ?_
    exact .ret (oret Try.results15 (.t rfl .n) le27 (.c .z (.c .z (.c .z (.c .z .n)))) ⟨(r26, o0), _, _, rfl, rfl, hd⟩)
  · have hd := hd.2 hb28
    refine .skip' fun c w ho hs => Cod.at (E := [(0, _), (1, _)]) (ho.sub ⟨rfl, rfl, trivial⟩) hs ?_
    refine .seq ?_
    refine .region ?_
    refine .skips 1 rfl ?_
    refine .nilCheckP rfl rfl rfl ?_
    refine .fieldAddr Try.underlying60 rfl Try.sizeOf58 rfl (o := 1) rfl rfl rfl ?_
    refine .load1 Try.isAgg58 rfl .z rfl rfl rfl ?_
    refine .skips 1 rfl ?_
    obtain ⟨h34, x35, hx36, hd⟩ := hd
    refine .ownNe (.s .z) (idx_ne hx36) fun b37 e38 => ?_
    cases e38
    refine .ixa0 Try.underlying58 Try.sizeOf3 rfl rfl h34 (idx_lt hx36 h34) rfl rfl ?_
    refine .lo1 (j := 0) Try.isAgg3 (.s .z) hx36 rfl rfl rfl rfl rfl ?_
    refine .skips 1 rfl ?_
    refine .nil' fun c w ho hs => Cod.at (E := [(0, _), (1, _), (6, _)]) (ho.sub ⟨rfl, rfl, rfl, trivial⟩) hs ?_
    refine .seq ?_
    refine .region ?_
    refine .skips 2 rfl ?_
    refine .nilCheckP rfl rfl rfl ?_
    refine .fieldAddr Try.underlying60 rfl Try.sizeOf58 rfl (o := 1) rfl rfl rfl ?_
    refine .load1 Try.isAgg58 rfl .z rfl rfl rfl ?_
    refine .skips 2 rfl ?_
    refine .add rfl rfl rfl rfl ?_
    have hw39 := W_slices_Delete_int_int_i8 (I := I21) (o0 := o0.row) (a0 := a0) (a1 := (w64 (a0 + 1))) (p2 := some ⟨b37, 0, none⟩) (c3 := c4) hd
    refine .callS (.f Try.call30 rfl) (.c (.s .z) .n) hw39 rfl rfl fun v43 I40 l44 hl41 hv42 => ?_
    obtain ⟨r45, rfl, rfl, hd⟩ := hv42
    have le49 := IH.le.trans le27 hl41
    refine .re (m' := [OwnSl eI64 3 (some ⟨b37, 0, none⟩) c4 r45, pto b2 (.cells #[.int .i64 o0.room, .slice (some ⟨b37, 0, none⟩) o0.row.length c4, .map (some b8), .map (some b10), .int .i64 o0.sent, .int .i64 o0.taken] 60 (0, 0)), OwnMap (Value.int .i64) eFrame true b8 o0.by_, OwnMap (Value.int .i64) eI64 false b10 o0.often]) rfl ?_
    refine .skips 1 rfl ?_
    refine .buildSlice 1 Try.underlying58 Try.sizeOf3 Try.zeroValue3 rfl rfl (.c rfl rfl rfl .n) rfl rfl fun b50 => ?_
    obtain ⟨hl52, hd⟩ := hd
    refine .append (ys := [x35]) 8 (.s .z) Try.underlying58 Try.underlying58 IN3 rfl rfl rfl rfl rfl rfl rfl rfl rfl (.box .z (.one rfl) rfl) hl52 rfl rfl fun p53 c54 => ?_
    refine .nilCheckP rfl rfl rfl ?_
    refine .fieldAddr Try.underlying60 rfl Try.sizeOf58 rfl (o := 1) rfl rfl rfl ?_
    refine .store1 Try.sizeOf58 rfl rfl (.s (.s .z)) (.s (.t .nil)) rfl ?_
    refine .nil' fun c w ho hs => Cod.at (E := [(0, _)]) (ho.sub ⟨rfl, trivial⟩) hs ?_
    refine .drop (.s .z) ?_
    refine .seq ?_
    refine .region ?_
    refine .skips 1 rfl ?_
    refine .nil' fun c w ho hs => Cod.at (E := [(0, _), (4, _)]) (ho.sub ⟨rfl, rfl, trivial⟩) hs ?_
    exact .ret (oret Try.results15 (.t rfl .n) le49 (.c (.s .z) (.c .z (.c .z (.c .z .n)))) ⟨(0, ({ room := o0.room, row := (r45 ++ ([x35])), by_ := o0.by_, often := o0.often, sent := o0.sent, taken := o0.taken } : Post_Box)), _, _, rfl, rfl, hd⟩)

theorem W_ref20_Box_remove_i37 {I : IH} {o0 : Ref20_Box} {a0 : Int} {b2 : Nat} {p3 : Option Addr} {c4 : Nat} {Q : (Frame × Ref20_Box) → Prop}  (hd : ref20_Box_remove_i37 o0 a0 Q) :
    Fun Try.prog 45 #[.pointer (some ⟨b2, 0, none⟩), .int .i64 a0] I [pto b2 (.cells #[.int .i64 o0.Many, .int .i64 o0.Out, .int .i64 o0.In, .slice p3 o0.L.length c4] 68 (0, 0)), OwnSl eFrame 34 p3 c4 o0.L] (fun I_ v l => ∃ r p12 c13 p15 c16 p18 c19 p8 c9, v = .agg #[.int .i64 r.1.Kind, .int .i64 r.1.From, .int .i64 r.1.To, .int .i64 r.1.Seq, .int .i64 r.1.Round, .int .i64 r.1.Vec.N, .slice p12 r.1.Vec.Items.length c13, .slice p15 r.1.Sums.length c16, .slice p18 r.1.Triples.length c19, .int .i64 r.1.N, .bool r.1.Over] ∧ RepSl eItem I_ p12 c13 r.1.Vec.Items ∧ RepSl eSum I_ p15 c16 r.1.Sums ∧ RepSl eTriple I_ p18 c19 r.1.Triples ∧ l = [pto b2 (.cells #[.int .i64 r.2.Many, .int .i64 r.2.Out, .int .i64 r.2.In, .slice p8 r.2.L.length c9] 68 (0, 0)), OwnSl eFrame 34 p8 c9 r.2.L] ∧ Q r) := by
  refine Fun.enter (vs := [.pointer (some ⟨b2, 0, none⟩), .int .i64 a0]) Try.func45 rfl Try.ntmps45 rfl (.c (.c .n)) fun w0 M => ?_
  refine .seq ?_
  refine .region ?_
  refine .allocA Try.zeroValue34 rfl rfl fun b9 => ?_
  refine .nil' fun c w ho hs => Cod.at (E := [(0, _), (1, _), (4, _)]) (ho.sub ⟨rfl, rfl, rfl, trivial⟩) hs ?_
  refine .seq ?_
  refine .region ?_
  refine .skips 1 rfl ?_
  refine .nilCheckP rfl rfl rfl ?_
  refine .fieldAddr Try.underlying68 rfl Try.sizeOf45 rfl (o := 3) rfl rfl rfl ?_
  refine .load1 Try.isAgg45 rfl (.s .z) rfl rfl rfl ?_
  refine .skips 1 rfl ?_
  obtain ⟨h29, x30, hx31, hd⟩ := hd
  refine .ownNe (.s (.s .z)) (idx_ne hx31) fun b32 e33 => ?_
  cases e33
  refine .ixa0 Try.underlying45 Try.sizeOf34 rfl rfl h29 (idx_lt hx31 h29) rfl rfl ?_
  refine .loEW Try.isAgg34 Try.sizeOf34 (.s (.s .z)) hx31 rfl rfl rfl rfl rfl fun cs43 hr44 => ?_
  obtain ⟨p34, c35, p37, c38, p40, c41, rfl, R36, R39, R42⟩ := hr44
  refine .allocA Try.zeroValue34 rfl rfl fun b45 => ?_
  refine .storeA Try.sizeOf34 rfl rfl .z (.t (.t (.t (.t (.t (.t (.t (.t (.t (.t (.t .nil))))))))))) rfl rfl ?_
  refine .nil' fun c w ho hs => Cod.at (E := [(0, _), (1, _), (4, _), (5, _)]) (ho.sub ⟨rfl, rfl, rfl, rfl, trivial⟩) hs ?_
  refine .seq ?_
  refine .region ?_
  refine .skips 1 rfl ?_
  refine .nil' fun c w ho hs => Cod.at (E := [(0, _), (1, _), (4, _), (5, _), (6, _)]) (ho.sub ⟨rfl, rfl, rfl, rfl, rfl, trivial⟩) hs ?_
  refine .seq ?_
  refine .region ?_
  refine .skips 2 rfl ?_
  refine .nilCheckP rfl rfl rfl ?_
  refine .fieldAddr Try.underlying68 rfl Try.sizeOf45 rfl (o := 3) rfl rfl rfl ?_
  refine .load1 Try.isAgg45 rfl (.s (.s .z)) rfl rfl rfl ?_
  refine .skips 1 rfl ?_
  refine .pub (.s (.s (.s .z))) fun I66 hl67 R68 => ?_
  have le69 := IH.le.trans (.refl _) hl67
  replace R36 := R36.mono hl67
  replace R39 := R39.mono hl67
  replace R42 := R42.mono hl67
  obtain ⟨h70, h71, h72, hd⟩ := hd
  have h78 : Int.toNat 0 ≤ Int.toNat a0 := by omega
  have h79 : Int.toNat a0 ≤ o0.L.length := by omega
  obtain ⟨p73, c74, e76, e77, R75⟩ := RepSl.sliceW R68 (Int.toNat 0) (Int.toNat a0) c4 h78 h79 (.inl rfl)
  refine .sliceW (L := Int.toNat 0) (H := Int.toNat a0) (cm := c4) Try.underlying45 Try.sizeOf34 rfl rfl R68.1 rfl rfl rfl (.inl ⟨rfl, rfl⟩) (.inr ⟨_, _, rfl, (by omega), rfl⟩) (.inl rfl) h78 h79 rfl e76 e77 rfl rfl ?_
  refine .own0 eFrame 34 ?_
  obtain ⟨hl81, hd⟩ := hd
  refine .append (ys := ((o0.L.take a0.toNat).drop (Int.toNat 0))) 136 .z Try.underlying45 Try.underlying45 IN34 rfl rfl rfl rfl rfl rfl rfl rfl rfl (.imm R75 rfl) hl81 rfl rfl fun p82 c83 => ?_
  refine .sub (E' := [(0, _), (1, _), (4, _), (5, _), (14, _), (15, _), (16, _), (17, _), (18, _), (19, _), (20, _), (21, _)]) ⟨rfl, rfl, rfl, rfl, rfl, rfl, rfl, rfl, rfl, rfl, rfl, rfl, trivial⟩ ?_
  refine .skips 1 rfl ?_
  refine .nil' fun c w ho hs => Cod.at (E := [(0, _), (1, _), (4, _), (5, _), (6, _)]) (ho.sub ⟨rfl, rfl, rfl, rfl, rfl, trivial⟩) hs ?_
  refine .seq ?_
  refine .region ?_
  refine .skips 2 rfl ?_
  refine .nilCheckP rfl rfl rfl ?_
  refine .fieldAddr Try.underlying68 rfl Try.sizeOf45 rfl (o := 3) rfl rfl rfl ?_
  refine .load1 Try.isAgg45 rfl (.s (.s (.s .z))) rfl rfl rfl ?_
  refine .skips 1 rfl ?_
  refine .add rfl rfl rfl rfl ?_
  obtain ⟨h85, h86, h87, hd⟩ := hd
  have h93 : Int.toNat (w64 (a0 + 1)) ≤ Int.toNat (o0.L.length : Int) := by omega
  have h94 : Int.toNat (o0.L.length : Int) ≤ o0.L.length := by omega
  obtain ⟨p88, c89, e91, e92, R90⟩ := RepSl.sliceW R68 (Int.toNat (w64 (a0 + 1))) (Int.toNat (o0.L.length : Int)) c4 h93 h94 (.inl rfl)
  refine .sliceW (L := Int.toNat (w64 (a0 + 1))) (H := Int.toNat (o0.L.length : Int)) (cm := c4) Try.underlying45 Try.sizeOf34 rfl rfl R68.1 rfl rfl rfl (.inr ⟨_, _, rfl, h85, rfl⟩) (.inl ⟨rfl, rfl, rfl⟩) (.inl rfl) h93 h94 rfl e91 e92 rfl rfl ?_
  obtain ⟨hl95, hd⟩ := hd
  refine .append (ys := ((o0.L.take (o0.L.length : Int).toNat).drop (w64 (a0 + 1)).toNat)) 136 .z Try.underlying45 Try.underlying45 IN34 rfl rfl rfl rfl rfl rfl rfl rfl rfl (.imm R90 rfl) hl95 rfl rfl fun p96 c97 => ?_
  refine .sub (E' := [(0, _), (1, _), (4, _), (5, _), (22, _), (23, _), (24, _), (25, _), (26, _), (27, _), (28, _), (29, _), (30, _)]) ⟨rfl, rfl, rfl, rfl, rfl, rfl, rfl, rfl, rfl, rfl, rfl, rfl, rfl, trivial⟩ ?_
  refine .skips 1 rfl ?_
  refine .nil' fun c w ho hs => Cod.at (E := [(0, _), (4, _), (5, _), (6, _)]) (ho.sub ⟨rfl, rfl, rfl, rfl, trivial⟩) hs ?_
  refine .seq ?_
  refine .region ?_
  refine .skips 2 rfl ?_
  refine .nilCheckP rfl rfl rfl ?_
  refine .fieldAddr Try.underlying68 rfl Try.sizeOf45 rfl (o := 3) rfl rfl rfl ?_
  refine .store1 Try.sizeOf45 rfl rfl (.s (.s (.s .z))) (.s (.s (.s (.t .nil)))) rfl ?_
  refine .nil' fun c w ho hs => Cod.at (E := [(0, _), (4, _), (5, _)]) (ho.sub ⟨rfl, rfl, rfl, trivial⟩) hs ?_
  refine .seq ?_
  refine .region ?_
  refine .loadW Try.isAgg34 Try.sizeOf34 rfl (.s .z) rfl rfl rfl ?_
  refine .storeA Try.sizeOf34 rfl rfl (.s (.s .z)) (.t (.t (.t (.t (.t (.t (.t (.t (.t (.t (.t .nil))))))))))) rfl rfl ?_
  refine .nil' fun c w ho hs => Cod.at (E := [(0, _), (4, _)]) (ho.sub ⟨rfl, rfl, trivial⟩) hs ?_
  refine .drop (.s .z) ?_
  exact .ret (oret Try.results45 (.w Try.isAgg34 Try.sizeOf34 rfl (.s .z) rfl .n) le69 (.c (.s (.s .z)) (.c .z .n)) ⟨(x30, ({ Many := o0.Many, Out := o0.Out, In := o0.In, L := ((([] : List Frame) ++ ((o0.L.take a0.toNat).drop (Int.toNat 0))) ++ ((o0.L.take (o0.L.length : Int).toNat).drop (w64 (a0 + 1)).toNat)) } : Ref20_Box)), _, _, _, _, _, _, _, _, rfl, R36, R39, R42, rfl, hd⟩)

theorem W_ref20_Box_Move_i36 {I : IH} {o0 : Ref20_Box} {a0 : Int} {b2 : Nat} {p3 : Option Addr} {c4 : Nat} {Q : (Int × Ref20_Box) → Prop}  (hd : ref20_Box_Move_i36 o0 a0 Q) :
    Fun Try.prog 34 #[.pointer (some ⟨b2, 0, none⟩), .int .i64 a0] I [pto b2 (.cells #[.int .i64 o0.Many, .int .i64 o0.Out, .int .i64 o0.In, .slice p3 o0.L.length c4] 68 (0, 0)), OwnSl eFrame 34 p3 c4 o0.L] (fun I_ v l => ∃ r p8 c9, v = .int .i64 r.1 ∧ l = [pto b2 (.cells #[.int .i64 r.2.Many, .int .i64 r.2.Out, .int .i64 r.2.In, .slice p8 r.2.L.length c9] 68 (0, 0)), OwnSl eFrame 34 p8 c9 r.2.L] ∧ Q r) := by
  refine Fun.enter (vs := [.pointer (some ⟨b2, 0, none⟩), .int .i64 a0]) Try.func34 rfl Try.ntmps34 rfl (.c (.c .n)) fun w0 M => ?_
  refine .seq ?_
  refine .region ?_
  refine .skips 1 rfl ?_
  refine .nil' fun c w ho hs => Cod.at (E := [(0, _), (1, _)]) (ho.sub ⟨rfl, rfl, trivial⟩) hs ?_
  refine .seq ?_
  refine .seq ?_
  refine .region ?_
  refine .skips 2 rfl ?_
  have hw16 := W_ref20_Box_has_i34 (I := I) (o0 := o0) (a0 := a0) (b2 := b2) (p3 := p3) (c4 := c4) hd
  refine .callS (.f Try.call44 rfl) (.c .z (.c .z .n)) hw16 rfl rfl fun v20 I17 l21 hl18 hv19 => ?_
  obtain ⟨r22, rfl, rfl, hd⟩ := hv19
  have le23 := IH.le.trans (.refl _) hl18
  refine .re (m' := [pto b2 (.cells #[.int .i64 o0.Many, .int .i64 o0.Out, .int .i64 o0.In, .slice p3 o0.L.length c4] 68 (0, 0)), OwnSl eFrame 34 p3 c4 o0.L]) rfl ?_
  refine .skips 1 rfl ?_
  refine .nil' fun c w ho hs => Cod.at (E := [(0, _), (1, _), (5, _)]) (ho.sub ⟨rfl, rfl, rfl, trivial⟩) hs ?_
  refine .seq ?_
  refine .region ?_
  refine .skips 1 rfl ?_
  refine .ne rfl rfl rfl rfl ?_
  refine .nil' fun c w ho hs => Cod.at (E := [(0, _), (1, _), (5, _), (11, _)]) (ho.sub ⟨rfl, rfl, rfl, rfl, trivial⟩) hs ?_
  refine .cond rfl (fun hb24 => ?_) (fun hb24 => ?_)
  · have hd := hd.1 hb24
    refine .seq ?_
    refine .region ?_
    refine .skips 2 rfl ?_
    refine .nil' fun c w ho hs => Cod.at (E := [(0, _), (4, _)]) (ho.sub ⟨rfl, rfl, trivial⟩) hs ?_
    exact .ret (oret Try.results34 (.t rfl .n) le23 (.c .z (.c .z .n)) ⟨(r22, o0), _, _, rfl, rfl, hd⟩)
  · have hd := hd.2 hb24
    refine .skip' fun c w ho hs => Cod.at (E := [(0, _), (1, _)]) (ho.sub ⟨rfl, rfl, trivial⟩) hs ?_
    refine .seq ?_
    refine .region ?_
    refine .skips 2 rfl ?_
    have hw50 := W_ref20_Box_remove_i37 (I := I17) (o0 := o0) (a0 := a0) (b2 := b2) (p3 := p3) (c4 := c4) hd
    refine .callS (.f Try.call45 rfl) (.c .z (.c .z .n)) hw50 rfl rfl fun v54 I51 l55 hl52 hv53 => ?_
    obtain ⟨r56, p57, c58, p60, c61, p63, c64, p68, c69, rfl, R59, R62, R65, rfl, hd⟩ := hv53
    have le72 := IH.le.trans le23 hl52
    refine .re (m' := [pto b2 (.cells #[.int .i64 r56.2.Many, .int .i64 r56.2.Out, .int .i64 r56.2.In, .slice p68 r56.2.L.length c69] 68 (0, 0)), OwnSl eFrame 34 p68 c69 r56.2.L]) rfl ?_
    refine .allocA Try.zeroValue34 rfl rfl fun b73 => ?_
    refine .storeA Try.sizeOf34 rfl rfl .z (.t (.t (.t (.t (.t (.t (.t (.t (.t (.t (.t .nil))))))))))) rfl rfl ?_
    refine .nil' fun c w ho hs => Cod.at (E := [(0, _), (6, _)]) (ho.sub ⟨rfl, rfl, trivial⟩) hs ?_
    refine .seq ?_
    refine .draw [some 0, some 1, some 2, some 3, some 4, some 5, some 6, some 7, some 8, some 9, some 10] 11 MX (by kernel_rfl) (by kernel_rfl) (by kernel_rfl) (by kernel_rfl) (by kernel_rfl) (by kernel_rfl) (by kernel_rfl) (fun ex => (pto b73 (.cells #[.int .i64 r56.1.Kind, .int .i64 r56.1.From, .int .i64 r56.1.To, .int .i64 r56.1.Seq, .int .i64 r56.1.Round, .int .i64 r56.1.Vec.N, .slice p57 r56.1.Vec.Items.length c58, .slice p60 r56.1.Sums.length c61, .slice p63 r56.1.Triples.length c64, .int .i64 r56.1.N, .bool r56.1.Over] 34 (0, 0))) :: (pto b2 (.cells #[.int .i64 r56.2.Many, .int .i64 r56.2.Out, .int .i64 r56.2.In, .slice p68 r56.2.L.length c69] 68 (0, 0))) :: (OwnSl eFrame 34 p68 c69 r56.2.L) :: ex) (fun _ _ => (.s (.s (.s .z)))) rfl ?_
    refine .f [] rfl (by kernel_rfl) rfl rfl (fun ex => .move rfl rfl rfl .mk) ?_
    refine .f [] rfl (by kernel_rfl) rfl rfl (fun ex => .move rfl rfl rfl .mk) ?_
    refine .f [1] rfl (by kernel_rfl) rfl rfl (fun ex => .nilCheckP rfl rfl rfl .mk) ?_
    refine .f [2] rfl (by kernel_rfl) rfl rfl (fun ex => .fieldAddr Try.underlying68 rfl Try.sizeOf45 rfl (o := 3) rfl rfl rfl .mk) ?_
    refine .f [3] rfl (by kernel_rfl) rfl rfl (fun ex => .load1 Try.isAgg45 rfl (.s .z) rfl rfl rfl .mk) ?_
    refine .f [] rfl (by kernel_rfl) rfl rfl (fun ex => .loadW Try.isAgg34 Try.sizeOf34 rfl .z rfl rfl rfl .mk) ?_
    refine .w [4, 3, 2, 1, 0] [[]] [5] rfl (by kernel_rfl) (by kernel_rfl) (by kernel_rfl) ((dropE_kept rfl rfl)) (.inr (dropE_kept rfl rfl)) fun ex => ?_
    refine .buildSlice 1 Try.underlying45 Try.sizeOf34 Try.zeroValue34 rfl rfl (.c rfl rfl rfl .n) rfl rfl fun b75 => ?_
    refine .some (fun ex => (pto b75 (.cells #[.int .i64 r56.1.Kind, .int .i64 r56.1.From, .int .i64 r56.1.To, .int .i64 r56.1.Seq, .int .i64 r56.1.Round, .int .i64 r56.1.Vec.N, .slice p57 r56.1.Vec.Items.length c58, .slice p60 r56.1.Sums.length c61, .slice p63 r56.1.Triples.length c64, .int .i64 r56.1.N, .bool r56.1.Over] 34 (0, 0))) :: (pto b73 (.cells #[.int .i64 r56.1.Kind, .int .i64 r56.1.From, .int .i64 r56.1.To, .int .i64 r56.1.Seq, .int .i64 r56.1.Round, .int .i64 r56.1.Vec.N, .slice p57 r56.1.Vec.Items.length c58, .slice p60 r56.1.Sums.length c61, .slice p63 r56.1.Triples.length c64, .int .i64 r56.1.N, .bool r56.1.Over] 34 (0, 0))) :: (pto b2 (.cells #[.int .i64 r56.2.Many, .int .i64 r56.2.Out, .int .i64 r56.2.In, .slice p68 r56.2.L.length c69] 68 (0, 0))) :: (OwnSl eFrame 34 p68 c69 r56.2.L) :: ex) rfl (fun _ _ => (.s (.s (.s (.s .z))))) rfl (.cc [3] rfl (by kernel_rfl) rfl rfl rfl (fun ex => .load1 Try.isAgg45 rfl (.s (.s .z)) rfl rfl rfl .mk) (.cc [2] rfl (by kernel_rfl) rfl rfl rfl (fun ex => .fieldAddr Try.underlying68 rfl Try.sizeOf45 rfl (o := 3) rfl rfl rfl .mk) (.cc [1] rfl (by kernel_rfl) rfl rfl rfl (fun ex => .nilCheckP rfl rfl rfl .mk) (.cc [] rfl (by kernel_rfl) rfl rfl rfl (fun ex => .move rfl rfl rfl .mk) (.cc [] rfl (by kernel_rfl) rfl rfl rfl (fun ex => .move rfl rfl rfl .mk) trivial))))) ?_
    refine .w [0] [[], [4], [3, 4], [2, 3, 4]] [4, 6] rfl (by kernel_rfl) (by kernel_rfl) (by kernel_rfl) ((dropE_kept rfl rfl)) (.inr (dropE_kept rfl rfl)) fun ex => ?_
    obtain ⟨hl77, hd⟩ := hd
    refine .append (ys := [r56.1]) 136 (.s (.s (.s .z))) Try.underlying45 Try.underlying45 IN34 rfl rfl rfl rfl rfl rfl rfl rfl rfl (.box .z (.one ⟨_, _, _, _, _, _, rfl, R59, R62, R65⟩) rfl) hl77 rfl rfl fun p78 c79 => ?_
    refine .some (fun ex => (OwnSl eFrame 34 p78 c79 (r56.2.L ++ ([r56.1]))) :: (pto b75 (.cells #[.int .i64 r56.1.Kind, .int .i64 r56.1.From, .int .i64 r56.1.To, .int .i64 r56.1.Seq, .int .i64 r56.1.Round, .int .i64 r56.1.Vec.N, .slice p57 r56.1.Vec.Items.length c58, .slice p60 r56.1.Sums.length c61, .slice p63 r56.1.Triples.length c64, .int .i64 r56.1.N, .bool r56.1.Over] 34 (0, 0))) :: (pto b73 (.cells #[.int .i64 r56.1.Kind, .int .i64 r56.1.From, .int .i64 r56.1.To, .int .i64 r56.1.Seq, .int .i64 r56.1.Round, .int .i64 r56.1.Vec.N, .slice p57 r56.1.Vec.Items.length c58, .slice p60 r56.1.Sums.length c61, .slice p63 r56.1.Triples.length c64, .int .i64 r56.1.N, .bool r56.1.Over] 34 (0, 0))) :: (pto b2 (.cells #[.int .i64 r56.2.Many, .int .i64 r56.2.Out, .int .i64 r56.2.In, .slice p68 r56.2.L.length c69] 68 (0, 0))) :: ex) rfl (fun _ _ => (.s (.s (.s (.s .z))))) rfl (.cc [] rfl (by kernel_rfl) rfl rfl rfl (fun ex => .move rfl rfl rfl .mk) trivial) ?_
    refine .f [0, 0, 1, 2, 3, 4, 5, 6, 7] rfl (by kernel_rfl) rfl rfl (fun ex => .nilCheckP rfl rfl rfl .mk) ?_
    refine .f [8, 0, 1, 2, 3, 4, 5, 6, 7] rfl (by kernel_rfl) rfl rfl (fun ex => .fieldAddr Try.underlying68 rfl Try.sizeOf45 rfl (o := 3) rfl rfl rfl .mk) ?_
    refine .w [] [[], [9], []] [9, 7, 7, 0, 1, 2, 3, 4, 5, 6, 7] rfl (by kernel_rfl) (by kernel_rfl) (by kernel_rfl) ((dropE_none rfl)) (.inr (dropE_none rfl)) fun ex => ?_
    refine .store1 Try.sizeOf45 rfl rfl (.s (.s (.s .z))) (.s (.s (.s (.t .nil)))) rfl ?_
    refine .none (fun ex => (OwnSl eFrame 34 p78 c79 (r56.2.L ++ ([r56.1]))) :: (pto b75 (.cells #[.int .i64 r56.1.Kind, .int .i64 r56.1.From, .int .i64 r56.1.To, .int .i64 r56.1.Seq, .int .i64 r56.1.Round, .int .i64 r56.1.Vec.N, .slice p57 r56.1.Vec.Items.length c58, .slice p60 r56.1.Sums.length c61, .slice p63 r56.1.Triples.length c64, .int .i64 r56.1.N, .bool r56.1.Over] 34 (0, 0))) :: (pto b73 (.cells #[.int .i64 r56.1.Kind, .int .i64 r56.1.From, .int .i64 r56.1.To, .int .i64 r56.1.Seq, .int .i64 r56.1.Round, .int .i64 r56.1.Vec.N, .slice p57 r56.1.Vec.Items.length c58, .slice p60 r56.1.Sums.length c61, .slice p63 r56.1.Triples.length c64, .int .i64 r56.1.N, .bool r56.1.Over] 34 (0, 0))) :: (pto b2 (.cells #[.int .i64 r56.2.Many, .int .i64 r56.2.Out, .int .i64 r56.2.In, .slice p78 (r56.2.L ++ ([r56.1])).length c79] 68 (0, 0))) :: ex) rfl (fun _ _ => (.s (.s (.s (.s .z))))) rfl trivial ?_
    refine .e 11 (by kernel_rfl) (by kernel_rfl) (by kernel_rfl) ?_
    refine .nil' fun c w ho hs => Cod.at (E := [(0, _)]) (ho.sub ⟨rfl, trivial⟩) hs ?_
    refine .drop (.s .z) ?_
    refine .drop (.s .z) ?_
    refine .seq ?_
    refine .region ?_
    refine .skips 1 rfl ?_
    refine .nil' fun c w ho hs => Cod.at (E := [(0, _), (4, _)]) (ho.sub ⟨rfl, rfl, trivial⟩) hs ?_
    exact .ret (oret Try.results34 (.t rfl .n) le72 (.c (.s .z) (.c .z .n)) ⟨(0, ({ Many := r56.2.Many, Out := r56.2.Out, In := r56.2.In, L := (r56.2.L ++ ([r56.1])) } : Ref20_Box)), _, _, rfl, rfl, hd⟩)

theorem W_ref20_Box_Oldest_i38 {I : IH} {o0 : Ref20_Box} {b2 : Nat} {p3 : Option Addr} {c4 : Nat} {Q : Int → Prop}  (hd : ref20_Box_Oldest_i38 o0 Q) :
    Fun Try.prog 35 #[.pointer (some ⟨b2, 0, none⟩)] I [pto b2 (.cells #[.int .i64 o0.Many, .int .i64 o0.Out, .int .i64 o0.In, .slice p3 o0.L.length c4] 68 (0, 0)), OwnSl eFrame 34 p3 c4 o0.L] (fun I_ v l => ∃ r, v = .int .i64 r ∧ l = [pto b2 (.cells #[.int .i64 o0.Many, .int .i64 o0.Out, .int .i64 o0.In, .slice p3 o0.L.length c4] 68 (0, 0)), OwnSl eFrame 34 p3 c4 o0.L] ∧ Q r) := by
  refine Fun.enter (vs := [.pointer (some ⟨b2, 0, none⟩)]) Try.func35 rfl Try.ntmps35 rfl (.c .n) fun w0 M => ?_
  refine .seq ?_
  refine .region ?_
  refine .skips 1 rfl ?_
  refine .nil' fun c w ho hs => Cod.at (E := [(0, _)]) (ho.sub ⟨rfl, trivial⟩) hs ?_
  refine .seq ?_
  refine .region ?_
  refine .skips 1 rfl ?_
  refine .nil' fun c w ho hs => Cod.at (E := [(0, _), (3, _)]) (ho.sub ⟨rfl, rfl, trivial⟩) hs ?_
  refine .seq ?_
  refine .seq ?_
  refine .region ?_
  refine .skips 1 rfl ?_
  refine .nil' fun c w ho hs => Cod.at (E := [(0, _), (3, _), (4, _)]) (ho.sub ⟨rfl, rfl, rfl, trivial⟩) hs ?_
  refine .block ?_
  refine .loop hd (fun (s : Int × Int) c w => match s with | (s47, s48) => ∃ I_, IH.le I I_ ∧ Ok 41 [(0, .pointer (some ⟨b2, 0, none⟩)), (3, .int .i64 s47), (4, .int .i64 s48)] c ∧ Sym w0 M I I_ [pto b2 (.cells #[.int .i64 o0.Many, .int .i64 o0.Out, .int .i64 o0.In, .slice p3 o0.L.length c4] 68 (0, 0)), OwnSl eFrame 34 p3 c4 o0.L] w) (fun c w ho hs => ⟨I, (.refl _), ho.sub ⟨rfl, rfl, rfl, trivial⟩, hs.pick (.c .z (.c .z .n))⟩) ?_
  rintro ⟨s47, s48⟩ next49 hd c w hst
  obtain ⟨I50, hl51, hok, hsym⟩ := hst
  have le52 := IH.le.trans (.refl _) hl51
  refine Cod.at hok hsym ?_
  refine .seq ?_
  refine .seq ?_
  refine .region ?_
  refine .skips 1 rfl ?_
  refine .neNilP Try.underlying42 rfl rfl rfl rfl ?_
  refine .skips 1 rfl ?_
  refine .gyes rfl rfl rfl (.move rfl rfl rfl ?_)
  refine .gyes rfl rfl rfl (.move rfl rfl rfl ?_)
  refine .gyes rfl rfl rfl (.nilCheckP rfl rfl rfl ?_)
  refine .gyes rfl rfl rfl (.fieldAddr Try.underlying68 rfl Try.sizeOf45 rfl (o := 3) rfl rfl rfl ?_)
  refine .gyes rfl rfl rfl (.load1 Try.isAgg45 rfl .z rfl rfl rfl ?_)
  refine .gyes rfl rfl rfl (.len Try.underlying45 rfl rfl rfl rfl ?_)
  refine .gyes rfl rfl rfl (.lt rfl rfl rfl rfl ?_)
  refine .skips 1 rfl ?_
  refine .nil' fun c w ho hs => Cod.at (E := [(0, _), (3, _), (4, _), (15, _)]) (ho.sub ⟨rfl, rfl, rfl, rfl, trivial⟩) hs ?_
  refine .cond rfl (fun hb54 => ?_) (fun hb54 => ?_)
  · have hd := hd.1 hb54
    refine .skip' fun c w ho hs => Cod.at (E := [(0, _), (3, _), (4, _)]) (ho.sub ⟨rfl, rfl, rfl, trivial⟩) hs ?_
    refine .seq ?_
    refine .block ?_
    refine .seq ?_
    refine .ownF (.s .z) fun hne55 => ?_
    refine .draw [some 0, some 1, some 2, some 3, some 4, some 5, some 6, some 7, some 8, some 9, some 10, some 11, some 12, some 13, some 14, some 15, some 16, some 17, some 18, some 19, some 20] 21 MX (by kernel_rfl) (by kernel_rfl) (by kernel_rfl) (by kernel_rfl) (by kernel_rfl) (by kernel_rfl) (by kernel_rfl) (fun ex => (pto b2 (.cells #[.int .i64 o0.Many, .int .i64 o0.Out, .int .i64 o0.In, .slice p3 o0.L.length c4] 68 (0, 0))) :: (OwnSl eFrame 34 p3 c4 o0.L) :: ex) (fun _ _ => (.s (.s .z))) rfl ?_
    refine .f [] rfl (by kernel_rfl) rfl rfl (fun ex => .move rfl rfl rfl .mk) ?_
    refine .f [0] rfl (by kernel_rfl) rfl rfl (fun ex => .lt rfl rfl rfl rfl .mk) ?_
    refine .f [1] rfl (by kernel_rfl) rfl rfl (fun ex => .move rfl rfl rfl .mk) ?_
    refine split (decide (s47 < 0)) (fun hb56 => ?_) (fun hb56 => ?_)
    · have hd := hd.1 hb56
      refine .f [2] rfl (by kernel_rfl) rfl rfl (fun ex => .gno rfl rfl hb56 rfl rfl .mk) ?_
      refine .f [3, 2] rfl (by kernel_rfl) rfl rfl (fun ex => .gno rfl rfl hb56 rfl rfl .mk) ?_
      refine .f [4, 2] rfl (by kernel_rfl) rfl rfl (fun ex => .gno rfl rfl hb56 rfl rfl .mk) ?_
      refine .f [5, 2] rfl (by kernel_rfl) rfl rfl (fun ex => .gno rfl rfl hb56 rfl rfl .mk) ?_
      refine .f [2] rfl (by kernel_rfl) rfl rfl (fun ex => .gno rfl rfl hb56 rfl rfl .mk) ?_
      refine .f [6, 7, 2] rfl (by kernel_rfl) rfl rfl (fun ex => .gno rfl rfl hb56 rfl rfl .mk) ?_
      refine .f [8, 2] rfl (by kernel_rfl) rfl rfl (fun ex => .gno rfl rfl hb56 rfl rfl .mk) ?_
      refine .f [9, 2] rfl (by kernel_rfl) rfl rfl (fun ex => .gno rfl rfl hb56 rfl rfl .mk) ?_
      refine .f [2] rfl (by kernel_rfl) rfl rfl (fun ex => .gno rfl rfl hb56 rfl rfl .mk) ?_
      refine .f [11, 2] rfl (by kernel_rfl) rfl rfl (fun ex => .gno rfl rfl hb56 rfl rfl .mk) ?_
      refine .f [12, 2] rfl (by kernel_rfl) rfl rfl (fun ex => .gno rfl rfl hb56 rfl rfl .mk) ?_
      refine .f [13, 2] rfl (by kernel_rfl) rfl rfl (fun ex => .gno rfl rfl hb56 rfl rfl .mk) ?_
      refine .f [2] rfl (by kernel_rfl) rfl rfl (fun ex => .gno rfl rfl hb56 rfl rfl .mk) ?_
      refine .f [14, 15, 2] rfl (by kernel_rfl) rfl rfl (fun ex => .gno rfl rfl hb56 rfl rfl .mk) ?_
      refine .f [16, 2] rfl (by kernel_rfl) rfl rfl (fun ex => .gno rfl rfl hb56 rfl rfl .mk) ?_
      refine .f [17, 2] rfl (by kernel_rfl) rfl rfl (fun ex => .gno rfl rfl hb56 rfl rfl .mk) ?_
      refine .f [10, 18, 2] rfl (by kernel_rfl) rfl rfl (fun ex => .gno rfl rfl hb56 rfl rfl .mk) ?_
      refine .f [2, 19] rfl (by kernel_rfl) rfl rfl (fun ex => .pickT rfl hb56 rfl rfl rfl .mk) ?_
      refine .e 21 (by kernel_rfl) (by kernel_rfl) (by kernel_rfl) ?_
      refine .nil' fun c w ho hs => Cod.at (E := [(0, _), (3, _), (4, _), (38, _)]) (ho.sub ⟨rfl, rfl, rfl, rfl, trivial⟩) hs ?_
      refine .condKT rfl rfl ?_
      refine .region ?_
      refine .skips 1 rfl ?_
      refine .sub (E' := [(0, _), (4, _), (38, _), (39, _)]) ⟨rfl, rfl, rfl, rfl, trivial⟩ ?_
      refine .skips 1 rfl ?_
      refine .nil' fun c w ho hs => Cod.at (E := [(0, _), (4, _), (3, _)]) (ho.sub ⟨rfl, rfl, rfl, trivial⟩) hs ?_
      refine .region ?_
      refine .skips 1 rfl ?_
      refine .add rfl rfl rfl rfl ?_
      refine .sub (E' := [(0, _), (3, _), (16, _), (17, _)]) ⟨rfl, rfl, rfl, rfl, trivial⟩ ?_
      refine .skips 1 rfl ?_
      exact .nil' fun c w ho hs => ⟨(s48, w64 (s48 + 1)), hd, I50, le52, ho.sub ⟨rfl, rfl, rfl, trivial⟩, hs.pick (.c .z (.c .z .n))⟩
    · have hd := hd.2 hb56
      refine .f [2] rfl (by kernel_rfl) rfl rfl (fun ex => .gyes rfl rfl hb56 (.move rfl rfl rfl .mk)) ?_
      refine .f [3, 2] rfl (by kernel_rfl) rfl rfl (fun ex => .gyes rfl rfl hb56 (.nilCheckP rfl rfl rfl .mk)) ?_
      refine .f [4, 2] rfl (by kernel_rfl) rfl rfl (fun ex => .gyes rfl rfl hb56 (.fieldAddr Try.underlying68 rfl Try.sizeOf45 rfl (o := 3) rfl rfl rfl .mk)) ?_
      refine .f [5, 2] rfl (by kernel_rfl) rfl rfl (fun ex => .gyes rfl rfl hb56 (.load1 Try.isAgg45 rfl .z rfl rfl rfl .mk)) ?_
      refine .f [2] rfl (by kernel_rfl) rfl rfl (fun ex => .gyes rfl rfl hb56 (.move rfl rfl rfl .mk)) ?_
      obtain ⟨h57, x58, hx59, hd⟩ := hd
      obtain ⟨b60, e61⟩ := hne55 (idx_ne hx59)
      cases e61
      refine .f [6, 7, 2] rfl (by kernel_rfl) rfl rfl (fun ex => .gyes rfl rfl hb56 (.ixa0 Try.underlying45 Try.sizeOf34 rfl rfl h57 (idx_lt hx59 h57) rfl rfl .mk)) ?_
      refine .f [8, 2] rfl (by kernel_rfl) rfl rfl (fun ex => .gyes rfl rfl hb56 (.fieldAddr Try.underlying34 rfl Try.sizeOf3 rfl (o := s48.toNat * 11 + 3) rfl rfl rfl .mk)) ?_
      refine .f [9, 2] rfl (by kernel_rfl) rfl rfl (fun ex => .gyes rfl rfl hb56 (.loEs (j := 3) Try.isAgg3 (.s .z) hx59 rfl rfl (fun cs h => by obtain ⟨p62, c63, p65, c66, p68, c69, rfl, R64, R67, R70⟩ := h; rfl) rfl rfl .mk)) ?_
      refine .f [2] rfl (by kernel_rfl) rfl rfl (fun ex => .gyes rfl rfl hb56 (.move rfl rfl rfl .mk)) ?_
      refine .f [11, 2] rfl (by kernel_rfl) rfl rfl (fun ex => .gyes rfl rfl hb56 (.nilCheckP rfl rfl rfl .mk)) ?_
      refine .f [12, 2] rfl (by kernel_rfl) rfl rfl (fun ex => .gyes rfl rfl hb56 (.fieldAddr Try.underlying68 rfl Try.sizeOf45 rfl (o := 3) rfl rfl rfl .mk)) ?_
      refine .f [13, 2] rfl (by kernel_rfl) rfl rfl (fun ex => .gyes rfl rfl hb56 (.load1 Try.isAgg45 rfl .z rfl rfl rfl .mk)) ?_
      refine .f [2] rfl (by kernel_rfl) rfl rfl (fun ex => .gyes rfl rfl hb56 (.move rfl rfl rfl .mk)) ?_
      obtain ⟨h71, x72, hx73, hd⟩ := hd
      refine .f [14, 15, 2] rfl (by kernel_rfl) rfl rfl (fun ex => .gyes rfl rfl hb56 (.ixa0 Try.underlying45 Try.sizeOf34 rfl rfl h71 (idx_lt hx73 h71) rfl rfl .mk)) ?_
      refine .f [16, 2] rfl (by kernel_rfl) rfl rfl (fun ex => .gyes rfl rfl hb56 (.fieldAddr Try.underlying34 rfl Try.sizeOf3 rfl (o := s47.toNat * 11 + 3) rfl rfl rfl .mk)) ?_
      refine .f [17, 2] rfl (by kernel_rfl) rfl rfl (fun ex => .gyes rfl rfl hb56 (.loEs (j := 3) Try.isAgg3 (.s .z) hx73 rfl rfl (fun cs h => by obtain ⟨p74, c75, p77, c78, p80, c81, rfl, R76, R79, R82⟩ := h; rfl) rfl rfl .mk)) ?_
      refine .f [10, 18, 2] rfl (by kernel_rfl) rfl rfl (fun ex => .gyes rfl rfl hb56 (.lt rfl rfl rfl rfl .mk)) ?_
      refine .f [2, 19] rfl (by kernel_rfl) rfl rfl (fun ex => .pickF rfl hb56 rfl rfl rfl .mk) ?_
      refine .e 21 (by kernel_rfl) (by kernel_rfl) (by kernel_rfl) ?_
      refine .nil' fun c w ho hs => Cod.at (E := [(0, _), (3, _), (4, _), (38, _)]) (ho.sub ⟨rfl, rfl, rfl, rfl, trivial⟩) hs ?_
      refine .cond rfl (fun hb83 => ?_) (fun hb83 => ?_)
      · have hd := hd.1 hb83
        refine .region ?_
        refine .skips 1 rfl ?_
        refine .sub (E' := [(0, _), (4, _), (38, _), (39, _)]) ⟨rfl, rfl, rfl, rfl, trivial⟩ ?_
        refine .skips 1 rfl ?_
        refine .nil' fun c w ho hs => Cod.at (E := [(0, _), (4, _), (3, _)]) (ho.sub ⟨rfl, rfl, rfl, trivial⟩) hs ?_
        refine .region ?_
        refine .skips 1 rfl ?_
        refine .add rfl rfl rfl rfl ?_
        refine .sub (E' := [(0, _), (3, _), (16, _), (17, _)]) ⟨rfl, rfl, rfl, rfl, trivial⟩ ?_
        refine .skips 1 rfl ?_
        exact .nil' fun c w ho hs => ⟨(s48, w64 (s48 + 1)), hd, I50, le52, ho.sub ⟨rfl, rfl, rfl, trivial⟩, hs.pick (.c .z (.c .z .n))⟩
      · have hd := hd.2 hb83
        refine .skip' fun c w ho hs => Cod.at (E := [(0, _), (3, _), (4, _)]) (ho.sub ⟨rfl, rfl, rfl, trivial⟩) hs ?_
        refine .region ?_
        refine .skips 1 rfl ?_
        refine .add rfl rfl rfl rfl ?_
        refine .sub (E' := [(0, _), (3, _), (16, _), (17, _)]) ⟨rfl, rfl, rfl, rfl, trivial⟩ ?_
        refine .skips 1 rfl ?_
        exact .nil' fun c w ho hs => ⟨(s47, w64 (s48 + 1)), hd, I50, le52, ho.sub ⟨rfl, rfl, rfl, trivial⟩, hs.pick (.c .z (.c .z .n))⟩
  · have hd := hd.2 hb54
    refine .exit fun c w ho hs => Cod.at (E := [(0, _), (3, _)]) (ho.sub ⟨rfl, rfl, trivial⟩) hs ?_
    refine .seq ?_
    refine .region ?_
    refine .skips 2 rfl ?_
    refine .nil' fun c w ho hs => Cod.at (E := [(0, _), (2, _)]) (ho.sub ⟨rfl, rfl, trivial⟩) hs ?_
    exact .ret (oret Try.results35 (.t rfl .n) le52 (.c .z (.c .z .n)) ⟨s47, rfl, rfl, hd⟩)

theorem W_ref20_Box_Take_i39 {I : IH} {o0 : Ref20_Box} {a0 : Int} {b2 : Nat} {p3 : Option Addr} {c4 : Nat} {Q : (Frame × Bool × Int × Ref20_Box) → Prop}  (hd : ref20_Box_Take_i39 o0 a0 Q) :
    Fun Try.prog 36 #[.pointer (some ⟨b2, 0, none⟩), .int .i64 a0] I [pto b2 (.cells #[.int .i64 o0.Many, .int .i64 o0.Out, .int .i64 o0.In, .slice p3 o0.L.length c4] 68 (0, 0)), OwnSl eFrame 34 p3 c4 o0.L] (fun I_ v l => ∃ r p12 c13 p15 c16 p18 c19 p8 c9, v = .tuple #[.agg #[.int .i64 r.1.Kind, .int .i64 r.1.From, .int .i64 r.1.To, .int .i64 r.1.Seq, .int .i64 r.1.Round, .int .i64 r.1.Vec.N, .slice p12 r.1.Vec.Items.length c13, .slice p15 r.1.Sums.length c16, .slice p18 r.1.Triples.length c19, .int .i64 r.1.N, .bool r.1.Over], .bool r.2.1, .int .i64 r.2.2.1] ∧ RepSl eItem I_ p12 c13 r.1.Vec.Items ∧ RepSl eSum I_ p15 c16 r.1.Sums ∧ RepSl eTriple I_ p18 c19 r.1.Triples ∧ l = [pto b2 (.cells #[.int .i64 r.2.2.2.Many, .int .i64 r.2.2.2.Out, .int .i64 r.2.2.2.In, .slice p8 r.2.2.2.L.length c9] 68 (0, 0)), OwnSl eFrame 34 p8 c9 r.2.2.2.L] ∧ Q r) := by
  refine Fun.enter (vs := [.pointer (some ⟨b2, 0, none⟩), .int .i64 a0]) Try.func36 rfl Try.ntmps36 rfl (.c (.c .n)) fun w0 M => ?_
  refine .seq ?_
  refine .region ?_
  refine .allocA Try.zeroValue34 rfl rfl fun b9 => ?_
  refine .skips 2 rfl ?_
  refine .nil' fun c w ho hs => Cod.at (E := [(0, _), (1, _), (4, _)]) (ho.sub ⟨rfl, rfl, rfl, trivial⟩) hs ?_
  refine .seq ?_
  refine .seq ?_
  refine .region ?_
  refine .skips 2 rfl ?_
  have hw36 := W_ref20_Box_has_i34 (I := I) (o0 := o0) (a0 := a0) (b2 := b2) (p3 := p3) (c4 := c4) hd
  refine .callS (.f Try.call44 rfl) (.c (.s .z) (.c (.s .z) .n)) hw36 rfl rfl fun v40 I37 l41 hl38 hv39 => ?_
  obtain ⟨r42, rfl, rfl, hd⟩ := hv39
  have le43 := IH.le.trans (.refl _) hl38
  refine .re (m' := [pto b2 (.cells #[.int .i64 o0.Many, .int .i64 o0.Out, .int .i64 o0.In, .slice p3 o0.L.length c4] 68 (0, 0)), OwnSl eFrame 34 p3 c4 o0.L, pto b9 (.cells #[.int .i64 0, .int .i64 0, .int .i64 0, .int .i64 0, .int .i64 0, .int .i64 0, .slice none 0 0, .slice none 0 0, .slice none 0 0, .int .i64 0, .bool false] 34 (0, 0))]) rfl ?_
  refine .skips 1 rfl ?_
  refine .nil' fun c w ho hs => Cod.at (E := [(0, _), (1, _), (4, _), (7, _)]) (ho.sub ⟨rfl, rfl, rfl, rfl, trivial⟩) hs ?_
  refine .seq ?_
  refine .region ?_
  refine .skips 1 rfl ?_
  refine .ne rfl rfl rfl rfl ?_
  refine .nil' fun c w ho hs => Cod.at (E := [(0, _), (1, _), (4, _), (7, _), (13, _)]) (ho.sub ⟨rfl, rfl, rfl, rfl, rfl, trivial⟩) hs ?_
  refine .cond rfl (fun hb44 => ?_) (fun hb44 => ?_)
  · have hd := hd.1 hb44
    refine .seq ?_
    refine .region ?_
    refine .build Try.zeroValue34 Try.underlying34 BI34 .n (by exact trivial) rfl rfl ?_
    refine .skips 1 rfl ?_
    refine .storeA Try.sizeOf34 rfl rfl (.s (.s .z)) (.t (.t (.t (.t (.t (.t (.t (.t (.t (.t (.t .nil))))))))))) rfl rfl ?_
    refine .skips 2 rfl ?_
    refine .nil' fun c w ho hs => Cod.at (E := [(0, _), (4, _), (5, _), (6, _)]) (ho.sub ⟨rfl, rfl, rfl, rfl, trivial⟩) hs ?_
    exact .ret (oret Try.results36 (.w Try.isAgg34 Try.sizeOf34 rfl (.s (.s .z)) rfl (.t rfl (.t rfl .n))) le43 (.c .z (.c .z .n)) ⟨(({ Kind := 0, From := 0, To := 0, Seq := 0, Round := 0, Vec := ({ N := 0, Items := ([] : List Item) } : Vec), Sums := ([] : List Sum), Triples := ([] : List Triple), N := 0, Over := false } : Frame), false, r42, o0), _, _, _, _, _, _, _, _, rfl, (.nil _ none 0), (.nil _ none 0), (.nil _ none 0), rfl, hd⟩)
  · have hd := hd.2 hb44
    refine .skip' fun c w ho hs => Cod.at (E := [(0, _), (1, _), (4, _)]) (ho.sub ⟨rfl, rfl, rfl, trivial⟩) hs ?_
    refine .seq ?_
    refine .seq ?_
    refine .ownF (.s .z) fun hne61 => ?_
    refine .draw [some 0, some 1, some 2, some 3, some 4, some 5, some 6, some 7, some 8, some 9, some 10, some 11, some 12] 13 MX (by kernel_rfl) (by kernel_rfl) (by kernel_rfl) (by kernel_rfl) (by kernel_rfl) (by kernel_rfl) (by kernel_rfl) (fun ex => (pto b2 (.cells #[.int .i64 o0.Many, .int .i64 o0.Out, .int .i64 o0.In, .slice p3 o0.L.length c4] 68 (0, 0))) :: (OwnSl eFrame 34 p3 c4 o0.L) :: (pto b9 (.cells #[.int .i64 0, .int .i64 0, .int .i64 0, .int .i64 0, .int .i64 0, .int .i64 0, .slice none 0 0, .slice none 0 0, .slice none 0 0, .int .i64 0, .bool false] 34 (0, 0))) :: ex) (fun _ _ => (.s (.s (.s .z)))) rfl ?_
    refine .f [] rfl (by kernel_rfl) rfl rfl (fun ex => .move rfl rfl rfl .mk) ?_
    refine .f [0] rfl (by kernel_rfl) rfl rfl (fun ex => .nilCheckP rfl rfl rfl .mk) ?_
    refine .f [1] rfl (by kernel_rfl) rfl rfl (fun ex => .fieldAddr Try.underlying68 rfl Try.sizeOf45 rfl (o := 3) rfl rfl rfl .mk) ?_
    refine .f [2] rfl (by kernel_rfl) rfl rfl (fun ex => .load1 Try.isAgg45 rfl .z rfl rfl rfl .mk) ?_
    refine .f [] rfl (by kernel_rfl) rfl rfl (fun ex => .move rfl rfl rfl .mk) ?_
    obtain ⟨h62, x63, hx64, hd⟩ := hd
    obtain ⟨b65, e66⟩ := hne61 (idx_ne hx64)
    cases e66
    refine .f [3, 4] rfl (by kernel_rfl) rfl rfl (fun ex => .ixa0 Try.underlying45 Try.sizeOf34 rfl rfl h62 (idx_lt hx64 h62) rfl rfl .mk) ?_
    refine .f [5] rfl (by kernel_rfl) rfl rfl (fun ex => .fieldAddr Try.underlying34 rfl Try.sizeOf3 rfl (o := a0.toNat * 11 + 3) rfl rfl rfl .mk) ?_
    refine .f [6] rfl (by kernel_rfl) rfl rfl (fun ex => .loEs (j := 3) Try.isAgg3 (.s .z) hx64 rfl rfl (fun cs h => by obtain ⟨p67, c68, p70, c71, p73, c74, rfl, R69, R72, R75⟩ := h; rfl) rfl rfl .mk) ?_
    refine .f [] rfl (by kernel_rfl) rfl rfl (fun ex => .move rfl rfl rfl .mk) ?_
    refine .f [8] rfl (by kernel_rfl) rfl rfl (fun ex => .nilCheckP rfl rfl rfl .mk) ?_
    refine .f [9] rfl (by kernel_rfl) rfl rfl (fun ex => .fieldAddr Try.underlying68 rfl Try.sizeOf3 rfl (o := 2) rfl rfl rfl .mk) ?_
    refine .f [10] rfl (by kernel_rfl) rfl rfl (fun ex => .load1 Try.isAgg3 rfl .z rfl rfl rfl .mk) ?_
    refine .f [7, 11] rfl (by kernel_rfl) rfl rfl (fun ex => .gt rfl rfl rfl rfl .mk) ?_
    refine .e 13 (by kernel_rfl) (by kernel_rfl) (by kernel_rfl) ?_
    refine .nil' fun c w ho hs => Cod.at (E := [(0, _), (1, _), (4, _), (28, _)]) (ho.sub ⟨rfl, rfl, rfl, rfl, trivial⟩) hs ?_
    refine .cond rfl (fun hb76 => ?_) (fun hb76 => ?_)
    · have hd := hd.1 hb76
      refine .seq ?_
      refine .region ?_
      refine .build Try.zeroValue34 Try.underlying34 BI34 .n (by exact trivial) rfl rfl ?_
      refine .storeA Try.sizeOf34 rfl rfl (.s (.s .z)) (.t (.t (.t (.t (.t (.t (.t (.t (.t (.t (.t .nil))))))))))) rfl rfl ?_
      refine .skips 2 rfl ?_
      refine .nil' fun c w ho hs => Cod.at (E := [(0, _), (4, _), (5, _), (6, _)]) (ho.sub ⟨rfl, rfl, rfl, rfl, trivial⟩) hs ?_
      exact .ret (oret Try.results36 (.w Try.isAgg34 Try.sizeOf34 rfl (.s (.s .z)) rfl (.t rfl (.t rfl .n))) le43 (.c .z (.c .z .n)) ⟨(({ Kind := 0, From := 0, To := 0, Seq := 0, Round := 0, Vec := ({ N := 0, Items := ([] : List Item) } : Vec), Sums := ([] : List Sum), Triples := ([] : List Triple), N := 0, Over := false } : Frame), false, 0, o0), _, _, _, _, _, _, _, _, rfl, (.nil _ none 0), (.nil _ none 0), (.nil _ none 0), rfl, hd⟩)
    · have hd := hd.2 hb76
      refine .skip' fun c w ho hs => Cod.at (E := [(0, _), (1, _), (4, _)]) (ho.sub ⟨rfl, rfl, rfl, trivial⟩) hs ?_
      refine .seq ?_
      refine .region ?_
      refine .skips 2 rfl ?_
      have hw102 := W_ref20_Box_remove_i37 (I := I37) (o0 := o0) (a0 := a0) (b2 := b2) (p3 := some ⟨b65, 0, none⟩) (c4 := c4) hd
      refine .callS (.f Try.call45 rfl) (.c .z (.c .z .n)) hw102 rfl rfl fun v106 I103 l107 hl104 hv105 => ?_
      obtain ⟨r108, p109, c110, p112, c113, p115, c116, p120, c121, rfl, R111, R114, R117, rfl, hd⟩ := hv105
      have le124 := IH.le.trans le43 hl104
      refine .re (m' := [pto b2 (.cells #[.int .i64 r108.2.Many, .int .i64 r108.2.Out, .int .i64 r108.2.In, .slice p120 r108.2.L.length c121] 68 (0, 0)), OwnSl eFrame 34 p120 c121 r108.2.L, pto b9 (.cells #[.int .i64 0, .int .i64 0, .int .i64 0, .int .i64 0, .int .i64 0, .int .i64 0, .slice none 0 0, .slice none 0 0, .slice none 0 0, .int .i64 0, .bool false] 34 (0, 0))]) rfl ?_
      refine .allocA Try.zeroValue34 rfl rfl fun b125 => ?_
      refine .storeA Try.sizeOf34 rfl rfl .z (.t (.t (.t (.t (.t (.t (.t (.t (.t (.t (.t .nil))))))))))) rfl rfl ?_
      refine .nil' fun c w ho hs => Cod.at (E := [(0, _), (4, _), (8, _)]) (ho.sub ⟨rfl, rfl, rfl, trivial⟩) hs ?_
      refine .seq ?_
      refine .seq ?_
      refine .draw [some 0, some 1, some 2, some 3, some 4, some 5, some 6] 7 MX (by kernel_rfl) (by kernel_rfl) (by kernel_rfl) (by kernel_rfl) (by kernel_rfl) (by kernel_rfl) (by kernel_rfl) (fun ex => (pto b125 (.cells #[.int .i64 r108.1.Kind, .int .i64 r108.1.From, .int .i64 r108.1.To, .int .i64 r108.1.Seq, .int .i64 r108.1.Round, .int .i64 r108.1.Vec.N, .slice p109 r108.1.Vec.Items.length c110, .slice p112 r108.1.Sums.length c113, .slice p115 r108.1.Triples.length c116, .int .i64 r108.1.N, .bool r108.1.Over] 34 (0, 0))) :: (pto b2 (.cells #[.int .i64 r108.2.Many, .int .i64 r108.2.Out, .int .i64 r108.2.In, .slice p120 r108.2.L.length c121] 68 (0, 0))) :: (OwnSl eFrame 34 p120 c121 r108.2.L) :: (pto b9 (.cells #[.int .i64 0, .int .i64 0, .int .i64 0, .int .i64 0, .int .i64 0, .int .i64 0, .slice none 0 0, .slice none 0 0, .slice none 0 0, .int .i64 0, .bool false] 34 (0, 0))) :: ex) (fun _ _ => (.s (.s (.s (.s .z))))) rfl ?_
      refine .f [] rfl (by kernel_rfl) rfl rfl (fun ex => .fieldAddr Try.underlying34 rfl Try.sizeOf3 rfl (o := 3) rfl rfl rfl .mk) ?_
      refine .f [0] rfl (by kernel_rfl) rfl rfl (fun ex => .load1 Try.isAgg3 rfl .z rfl rfl rfl .mk) ?_
      refine .f [] rfl (by kernel_rfl) rfl rfl (fun ex => .move rfl rfl rfl .mk) ?_
      refine .f [2] rfl (by kernel_rfl) rfl rfl (fun ex => .nilCheckP rfl rfl rfl .mk) ?_
      refine .f [3] rfl (by kernel_rfl) rfl rfl (fun ex => .fieldAddr Try.underlying68 rfl Try.sizeOf3 rfl (o := 2) rfl rfl rfl .mk) ?_
      refine .f [4] rfl (by kernel_rfl) rfl rfl (fun ex => .load1 Try.isAgg3 rfl (.s .z) rfl rfl rfl .mk) ?_
      refine .f [1, 5] rfl (by kernel_rfl) rfl rfl (fun ex => .lt rfl rfl rfl rfl .mk) ?_
      refine .e 7 (by kernel_rfl) (by kernel_rfl) (by kernel_rfl) ?_
      refine .nil' fun c w ho hs => Cod.at (E := [(0, _), (4, _), (8, _), (39, _)]) (ho.sub ⟨rfl, rfl, rfl, rfl, trivial⟩) hs ?_
      refine .cond rfl (fun hb128 => ?_) (fun hb128 => ?_)
      · have hd := hd.1 hb128
        refine .seq ?_
        refine .region ?_
        refine .build Try.zeroValue34 Try.underlying34 BI34 .n (by exact trivial) rfl rfl ?_
        refine .storeA Try.sizeOf34 rfl rfl (.s (.s (.s .z))) (.t (.t (.t (.t (.t (.t (.t (.t (.t (.t (.t .nil))))))))))) rfl rfl ?_
        refine .skips 2 rfl ?_
        refine .nil' fun c w ho hs => Cod.at (E := [(0, _), (4, _), (5, _), (6, _)]) (ho.sub ⟨rfl, rfl, rfl, rfl, trivial⟩) hs ?_
        refine .drop .z ?_
        exact .ret (oret Try.results36 (.w Try.isAgg34 Try.sizeOf34 rfl (.s (.s .z)) rfl (.t rfl (.t rfl .n))) le124 (.c .z (.c .z .n)) ⟨(({ Kind := 0, From := 0, To := 0, Seq := 0, Round := 0, Vec := ({ N := 0, Items := ([] : List Item) } : Vec), Sums := ([] : List Sum), Triples := ([] : List Triple), N := 0, Over := false } : Frame), false, 0, r108.2), _, _, _, _, _, _, _, _, rfl, (.nil _ none 0), (.nil _ none 0), (.nil _ none 0), rfl, hd⟩)
      · have hd := hd.2 hb128
        refine .skip' fun c w ho hs => Cod.at (E := [(0, _), (4, _), (8, _)]) (ho.sub ⟨rfl, rfl, rfl, trivial⟩) hs ?_
        refine .seq ?_
        refine .region ?_
        refine .skips 1 rfl ?_
        refine .nilCheckP rfl rfl rfl ?_
        refine .fieldAddr Try.underlying68 rfl Try.sizeOf3 rfl (o := 2) rfl rfl rfl ?_
        refine .load1 Try.isAgg3 rfl (.s .z) rfl rfl rfl ?_
        refine .add rfl rfl rfl rfl ?_
        refine .nilCheckP rfl rfl rfl ?_
        refine .fieldAddr Try.underlying68 rfl Try.sizeOf3 rfl (o := 2) rfl rfl rfl ?_
        refine .store1 Try.sizeOf3 rfl rfl (.s .z) (.s (.s (.t .nil))) rfl ?_
        refine .nil' fun c w ho hs => Cod.at (E := [(0, _), (4, _), (8, _)]) (ho.sub ⟨rfl, rfl, rfl, trivial⟩) hs ?_
        refine .seq ?_
        refine .region ?_
        refine .loadW Try.isAgg34 Try.sizeOf34 rfl .z rfl rfl rfl ?_
        refine .storeA Try.sizeOf34 rfl rfl (.s (.s (.s .z))) (.t (.t (.t (.t (.t (.t (.t (.t (.t (.t (.t .nil))))))))))) rfl rfl ?_
        refine .skips 2 rfl ?_
        refine .nil' fun c w ho hs => Cod.at (E := [(0, _), (4, _), (5, _), (6, _)]) (ho.sub ⟨rfl, rfl, rfl, rfl, trivial⟩) hs ?_
        refine .drop .z ?_
        exact .ret (oret Try.results36 (.w Try.isAgg34 Try.sizeOf34 rfl (.s (.s .z)) rfl (.t rfl (.t rfl .n))) le124 (.c .z (.c .z .n)) ⟨(r108.1, true, 0, ({ Many := r108.2.Many, Out := r108.2.Out, In := w64 (r108.2.In + 1), L := r108.2.L } : Ref20_Box)), _, _, _, _, _, _, _, _, rfl, R111, R114, R117, rfl, hd⟩)

theorem W_law20_both_do_i30 {I : IH} {o0 : Post_Box} {o1 : Ref20_Box} {a0 : Law20_Act} {b3 : Nat} {p4 : Option Addr} {c5 : Nat} {b9 : Nat} {b11 : Nat} {b12 : Nat} {p13 : Option Addr} {c14 : Nat} {Q : (Bool × Post_Box × Ref20_Box) → Prop}  (hd : law20_both_do_i30 o0 o1 a0 Q) :
    Fun Try.prog 19 #[.agg #[.pointer (some ⟨b3, 0, none⟩), .pointer (some ⟨b12, 0, none⟩)], .agg (encLaw20_Act a0).toArray] I [pto b3 (.cells #[.int .i64 o0.room, .slice p4 o0.row.length c5, .map (some b9), .map (some b11), .int .i64 o0.sent, .int .i64 o0.taken] 60 (0, 0)), OwnSl eI64 3 p4 c5 o0.row, OwnMap (Value.int .i64) eFrame true b9 o0.by_, OwnMap (Value.int .i64) eI64 false b11 o0.often, pto b12 (.cells #[.int .i64 o1.Many, .int .i64 o1.Out, .int .i64 o1.In, .slice p13 o1.L.length c14] 68 (0, 0)), OwnSl eFrame 34 p13 c14 o1.L] (fun I_ v l => ∃ r p18 c19 p27 c28, v = .bool r.1 ∧ l = [pto b3 (.cells #[.int .i64 r.2.1.room, .slice p18 r.2.1.row.length c19, .map (some b9), .map (some b11), .int .i64 r.2.1.sent, .int .i64 r.2.1.taken] 60 (0, 0)), OwnSl eI64 3 p18 c19 r.2.1.row, OwnMap (Value.int .i64) eFrame true b9 r.2.1.by_, OwnMap (Value.int .i64) eI64 false b11 r.2.1.often, pto b12 (.cells #[.int .i64 r.2.2.Many, .int .i64 r.2.2.Out, .int .i64 r.2.2.In, .slice p27 r.2.2.L.length c28] 68 (0, 0)), OwnSl eFrame 34 p27 c28 r.2.2.L] ∧ Q r) := by
  refine Fun.enter (vs := [.agg #[.pointer (some ⟨b3, 0, none⟩), .pointer (some ⟨b12, 0, none⟩)], .agg (encLaw20_Act a0).toArray]) Try.func19 rfl Try.ntmps19 rfl (.c (.c .n)) fun w0 M => ?_
  refine .seq ?_
  refine .region ?_
  refine .boxA rfl rfl rfl fun b21 => ?_
  refine .boxA rfl rfl rfl fun b23 => ?_
  refine .skips 1 rfl ?_
  refine .nil' fun c w ho hs => Cod.at (E := [(0, _), (2, _), (3, _)]) (ho.sub ⟨rfl, rfl, rfl, trivial⟩) hs ?_
  refine .seq ?_
  refine .draw [some 0, some 1, some 2, some 3, some 4, some 5] 6 MX (by kernel_rfl) (by kernel_rfl) (by kernel_rfl) (by kernel_rfl) (by kernel_rfl) (by kernel_rfl) (by kernel_rfl) (fun ex => (pto b23 (.cells #[.int .i64 a0.Kind, .int .i64 a0.K, .int .i64 a0.N] 51 (0, 0))) :: (pto b21 (.cells #[.pointer (some ⟨b3, 0, none⟩), .pointer (some ⟨b12, 0, none⟩)] 48 (0, 0))) :: (pto b3 (.cells #[.int .i64 o0.room, .slice p4 o0.row.length c5, .map (some b9), .map (some b11), .int .i64 o0.sent, .int .i64 o0.taken] 60 (0, 0))) :: (OwnSl eI64 3 p4 c5 o0.row) :: (OwnMap (Value.int .i64) eFrame true b9 o0.by_) :: (OwnMap (Value.int .i64) eI64 false b11 o0.often) :: (pto b12 (.cells #[.int .i64 o1.Many, .int .i64 o1.Out, .int .i64 o1.In, .slice p13 o1.L.length c14] 68 (0, 0))) :: (OwnSl eFrame 34 p13 c14 o1.L) :: ex) (fun _ _ => (.s (.s (.s (.s (.s (.s (.s (.s .z))))))))) rfl ?_
  refine .f [] rfl (by kernel_rfl) rfl rfl (fun ex => .fieldAddr Try.underlying51 rfl Try.sizeOf3 rfl (o := 1) rfl rfl rfl .mk) ?_
  refine .f [0] rfl (by kernel_rfl) rfl rfl (fun ex => .load1 Try.isAgg3 rfl .z rfl rfl rfl .mk) ?_
  refine .f [] rfl (by kernel_rfl) rfl rfl (fun ex => .fieldAddr Try.underlying48 rfl Try.sizeOf42 rfl (o := 1) rfl rfl rfl .mk) ?_
  refine .f [2] rfl (by kernel_rfl) rfl rfl (fun ex => .load1 Try.isAgg42 rfl (.s .z) rfl rfl rfl .mk) ?_
  refine .w [1, 0] [[], [3]] [3] rfl (by kernel_rfl) (by kernel_rfl) (by kernel_rfl) ((dropE_kept rfl rfl)) (.inr (dropE_kept rfl rfl)) fun ex => ?_
  have hw41 := W_ref20_Box_Len_i31 (I := I) (o0 := o1) (b2 := b12) (p3 := p13) (c4 := c14) hd
  refine .callS (.f Try.call31 rfl) (.c (.s (.s (.s (.s (.s (.s .z)))))) (.c (.s (.s (.s (.s (.s (.s .z)))))) .n)) hw41 rfl rfl fun v45 I42 l46 hl43 hv44 => ?_
  obtain ⟨r47, rfl, rfl, hd⟩ := hv44
  have le48 := IH.le.trans (.refl _) hl43
  refine .re (m' := (pto b12 (.cells #[.int .i64 o1.Many, .int .i64 o1.Out, .int .i64 o1.In, .slice p13 o1.L.length c14] 68 (0, 0))) :: (OwnSl eFrame 34 p13 c14 o1.L) :: (pto b23 (.cells #[.int .i64 a0.Kind, .int .i64 a0.K, .int .i64 a0.N] 51 (0, 0))) :: (pto b21 (.cells #[.pointer (some ⟨b3, 0, none⟩), .pointer (some ⟨b12, 0, none⟩)] 48 (0, 0))) :: (pto b3 (.cells #[.int .i64 o0.room, .slice p4 o0.row.length c5, .map (some b9), .map (some b11), .int .i64 o0.sent, .int .i64 o0.taken] 60 (0, 0))) :: (OwnSl eI64 3 p4 c5 o0.row) :: (OwnMap (Value.int .i64) eFrame true b9 o0.by_) :: (OwnMap (Value.int .i64) eI64 false b11 o0.often) :: ex) rfl ?_
  refine .some (fun ex => (pto b12 (.cells #[.int .i64 o1.Many, .int .i64 o1.Out, .int .i64 o1.In, .slice p13 o1.L.length c14] 68 (0, 0))) :: (OwnSl eFrame 34 p13 c14 o1.L) :: (pto b23 (.cells #[.int .i64 a0.Kind, .int .i64 a0.K, .int .i64 a0.N] 51 (0, 0))) :: (pto b21 (.cells #[.pointer (some ⟨b3, 0, none⟩), .pointer (some ⟨b12, 0, none⟩)] 48 (0, 0))) :: (pto b3 (.cells #[.int .i64 o0.room, .slice p4 o0.row.length c5, .map (some b9), .map (some b11), .int .i64 o0.sent, .int .i64 o0.taken] 60 (0, 0))) :: (OwnSl eI64 3 p4 c5 o0.row) :: (OwnMap (Value.int .i64) eFrame true b9 o0.by_) :: (OwnMap (Value.int .i64) eI64 false b11 o0.often) :: ex) rfl (fun _ _ => (.s (.s (.s (.s (.s (.s (.s (.s .z))))))))) rfl (.cc [0] rfl (by kernel_rfl) rfl rfl rfl (fun ex => .load1 Try.isAgg3 rfl (.s (.s .z)) rfl rfl rfl .mk) (.cc [] rfl (by kernel_rfl) rfl rfl rfl (fun ex => .fieldAddr Try.underlying51 rfl Try.sizeOf3 rfl (o := 1) rfl rfl rfl .mk) trivial)) ?_
  refine .w [] [[], [1]] [1, 4, 4] rfl (by kernel_rfl) (by kernel_rfl) (by kernel_rfl) ((dropE_kept rfl rfl)) (.inr (dropE_kept rfl rfl)) fun ex => ?_
  have hw55 := W_law20_Near (I := I42) hd
  refine .call Try.call21 rfl hw55 rfl rfl fun v53 I50 hl51 hv52 => ?_
  obtain ⟨r49, rfl, hd⟩ := hv52
  have le56 := IH.le.trans le48 hl51
  refine .some (fun ex => (pto b12 (.cells #[.int .i64 o1.Many, .int .i64 o1.Out, .int .i64 o1.In, .slice p13 o1.L.length c14] 68 (0, 0))) :: (OwnSl eFrame 34 p13 c14 o1.L) :: (pto b23 (.cells #[.int .i64 a0.Kind, .int .i64 a0.K, .int .i64 a0.N] 51 (0, 0))) :: (pto b21 (.cells #[.pointer (some ⟨b3, 0, none⟩), .pointer (some ⟨b12, 0, none⟩)] 48 (0, 0))) :: (pto b3 (.cells #[.int .i64 o0.room, .slice p4 o0.row.length c5, .map (some b9), .map (some b11), .int .i64 o0.sent, .int .i64 o0.taken] 60 (0, 0))) :: (OwnSl eI64 3 p4 c5 o0.row) :: (OwnMap (Value.int .i64) eFrame true b9 o0.by_) :: (OwnMap (Value.int .i64) eI64 false b11 o0.often) :: ex) rfl (fun _ _ => (.s (.s (.s (.s (.s (.s (.s (.s .z))))))))) rfl trivial ?_
  refine .e 6 (by kernel_rfl) (by kernel_rfl) (by kernel_rfl) ?_
  refine .skips 1 rfl ?_
  refine .nil' fun c w ho hs => Cod.at (E := [(0, _), (2, _), (3, _), (5, _)]) (ho.sub ⟨rfl, rfl, rfl, rfl, trivial⟩) hs ?_
  refine .seq ?_
  refine .region ?_
  refine .fieldAddr Try.underlying51 rfl Try.sizeOf2 rfl (o := 2) rfl rfl rfl ?_
  refine .load1 Try.isAgg2 rfl (.s (.s .z)) rfl rfl rfl ?_
  refine .fieldAddr Try.underlying51 rfl Try.sizeOf2 rfl (o := 2) rfl rfl rfl ?_
  refine .load1 Try.isAgg2 rfl (.s (.s .z)) rfl rfl rfl ?_
  refine .build Try.zeroValue71 Try.underlying71 BI71 (.c rfl rfl rfl (.t .nil) (.c rfl rfl rfl (.s (.t .nil)) .n)) (by exact ⟨⟨_, _, rfl, rfl, rfl⟩, ⟨⟨_, _, rfl, rfl, rfl⟩, trivial⟩⟩) rfl rfl ?_
  refine .buildSlice 1 Try.underlying28 Try.sizeOf71 Try.zeroValue71 rfl rfl (.c rfl rfl rfl .n) rfl rfl fun b62 => ?_
  refine .ownB (El := eItem) (ys := ([({ At := 3, Val := a0.N } : Item)] : List Item)) .z (.one rfl) rfl ?_
  refine .build Try.zeroValue30 Try.underlying30 BI30 (.c rfl rfl rfl (.t .nil) (.c rfl rfl rfl (.s (.t .nil)) .n)) (by exact ⟨⟨_, _, rfl, rfl, rfl⟩, ⟨⟨_, _, rfl, rfl, rfl⟩, trivial⟩⟩) rfl rfl ?_
  refine .build Try.zeroValue34 Try.underlying34 BI34 (.c rfl rfl rfl (.t .nil) (.c rfl rfl rfl (.s (.s (.s (.s (.s (.s (.s (.s (.s (.t .nil)))))))))) (.c rfl rfl rfl (.s (.s (.s (.s (.s (.t (.t .nil))))))) .n))) (by exact ⟨⟨_, _, rfl, rfl, rfl⟩, ⟨⟨_, _, rfl, rfl, rfl⟩, ⟨⟨_, _, rfl, rfl, rfl⟩, trivial⟩⟩⟩) rfl rfl ?_
  refine .allocA Try.zeroValue34 rfl rfl fun b65 => ?_
  refine .storeA Try.sizeOf34 rfl rfl .z (.t (.t (.t (.t (.t (.t (.t (.t (.t (.t (.t .nil))))))))))) rfl rfl ?_
  refine .nil' fun c w ho hs => Cod.at (E := [(0, _), (2, _), (3, _), (5, _), (6, _)]) (ho.sub ⟨rfl, rfl, rfl, rfl, rfl, trivial⟩) hs ?_
  refine .seq ?_
  refine Cod.joinQ (σ := Int) hd (fun (s291 : Int) c w => ∃ I_, IH.le I50 I_ ∧ Ok 95 [(0, .agg #[.pointer (some ⟨b3, 0, none⟩), .pointer (some ⟨b12, 0, none⟩)]), (2, .pointer (some ⟨b21, 0, none⟩)), (5, .int .i64 s291), (6, .pointer (some ⟨b65, 0, none⟩))] c ∧ Sym w0 M I I_ [pto b3 (.cells #[.int .i64 o0.room, .slice p4 o0.row.length c5, .map (some b9), .map (some b11), .int .i64 o0.sent, .int .i64 o0.taken] 60 (0, 0)), OwnSl eI64 3 p4 c5 o0.row, OwnMap (Value.int .i64) eFrame true b9 o0.by_, OwnMap (Value.int .i64) eI64 false b11 o0.often, pto b12 (.cells #[.int .i64 o1.Many, .int .i64 o1.Out, .int .i64 o1.In, .slice p13 o1.L.length c14] 68 (0, 0)), OwnSl eFrame 34 p13 c14 o1.L, pto b21 (.cells #[.pointer (some ⟨b3, 0, none⟩), .pointer (some ⟨b12, 0, none⟩)] 48 (0, 0)), pto b65 (.cells #[.int .i64 4, .int .i64 0, .int .i64 0, .int .i64 0, .int .i64 0, .int .i64 9, .slice (some ⟨b62, 0, none⟩) ([({ At := 3, Val := a0.N } : Item)] : List Item).length 1, .slice none 0 0, .slice none 0 0, .int .i64 a0.N, .bool false] 34 (0, 0)), OwnSl eItem 71 (some ⟨b62, 0, none⟩) 1 ([({ At := 3, Val := a0.N } : Item)] : List Item)] w) (fun k292 hd => ?_) ?_
  · skip
    refine .seq ?_
    refine .region ?_
    refine .fieldAddr Try.underlying51 rfl Try.sizeOf3 rfl (o := 0) rfl rfl rfl ?_
    refine .load1 Try.isAgg3 rfl (.s (.s (.s (.s .z)))) rfl rfl rfl ?_
    refine .nil' fun c w ho hs => Cod.at (E := [(0, _), (2, _), (5, _), (6, _), (27, _)]) (ho.sub ⟨rfl, rfl, rfl, rfl, rfl, trivial⟩) hs ?_
    refine .drop (.s (.s (.s (.s .z)))) ?_
    refine .block ?_
    refine .seq ?_
    refine .region ?_
    refine .eq rfl rfl rfl rfl ?_
    refine .skips 1 rfl ?_
    refine .nil' fun c w ho hs => Cod.at (E := [(0, _), (2, _), (5, _), (6, _), (27, _), (31, _)]) (ho.sub ⟨rfl, rfl, rfl, rfl, rfl, rfl, trivial⟩) hs ?_
    refine .cond rfl (fun hb293 => ?_) (fun hb293 => ?_)
    · have hd := hd.1 hb293
      refine .seq ?_
      refine .draw [some 0, some 1, some 2, some 4, some 5, some 6, some 3, some 7, some 8] 9 MX (by kernel_rfl) (by kernel_rfl) (by kernel_rfl) (by kernel_rfl) (by kernel_rfl) (by kernel_rfl) (by kernel_rfl) (fun ex => (pto b65 (.cells #[.int .i64 4, .int .i64 0, .int .i64 0, .int .i64 0, .int .i64 0, .int .i64 9, .slice (some ⟨b62, 0, none⟩) ([({ At := 3, Val := a0.N } : Item)] : List Item).length 1, .slice none 0 0, .slice none 0 0, .int .i64 a0.N, .bool false] 34 (0, 0))) :: (OwnSl eItem 71 (some ⟨b62, 0, none⟩) 1 ([({ At := 3, Val := a0.N } : Item)] : List Item)) :: (pto b12 (.cells #[.int .i64 o1.Many, .int .i64 o1.Out, .int .i64 o1.In, .slice p13 o1.L.length c14] 68 (0, 0))) :: (OwnSl eFrame 34 p13 c14 o1.L) :: (pto b21 (.cells #[.pointer (some ⟨b3, 0, none⟩), .pointer (some ⟨b12, 0, none⟩)] 48 (0, 0))) :: (pto b3 (.cells #[.int .i64 o0.room, .slice p4 o0.row.length c5, .map (some b9), .map (some b11), .int .i64 o0.sent, .int .i64 o0.taken] 60 (0, 0))) :: (OwnSl eI64 3 p4 c5 o0.row) :: (OwnMap (Value.int .i64) eFrame true b9 o0.by_) :: (OwnMap (Value.int .i64) eI64 false b11 o0.often) :: ex) (fun _ _ => (.s (.s (.s (.s (.s (.s (.s (.s (.s .z)))))))))) rfl ?_
      refine .f [] rfl (by kernel_rfl) rfl rfl (fun ex => .fieldAddr Try.underlying48 rfl Try.sizeOf22 rfl (o := 0) rfl rfl rfl .mk) ?_
      refine .f [0] rfl (by kernel_rfl) rfl rfl (fun ex => .load1 Try.isAgg22 rfl (.s (.s (.s (.s .z)))) rfl rfl rfl .mk) ?_
      refine .f [] rfl (by kernel_rfl) rfl rfl (fun ex => .loadW Try.isAgg34 Try.sizeOf34 rfl .z rfl rfl rfl .mk) ?_
      refine .f [] rfl (by kernel_rfl) rfl rfl (fun ex => .fieldAddr Try.underlying48 rfl Try.sizeOf42 rfl (o := 1) rfl rfl rfl .mk) ?_
      refine .f [4] rfl (by kernel_rfl) rfl rfl (fun ex => .load1 Try.isAgg42 rfl (.s (.s (.s (.s .z)))) rfl rfl rfl .mk) ?_
      refine .f [] rfl (by kernel_rfl) rfl rfl (fun ex => .loadW Try.isAgg34 Try.sizeOf34 rfl .z rfl rfl rfl .mk) ?_
      refine .w [6, 5, 4] [[], [], [1]] [1, 2] rfl (by kernel_rfl) (by kernel_rfl) (by kernel_rfl) ((dropE_kept rfl rfl)) (.inr (dropE_kept rfl rfl)) fun ex => ?_
      refine .pub (.s .z) fun I294 hl295 R296 => ?_
      have le297 := IH.le.trans le56 hl295
      have le298 := IH.le.trans (.refl _) hl295
      have hw299 := W_post_Box_Send_i2 (I := I294) (o0 := o0) (a0 := ({ Kind := 4, From := 0, To := 0, Seq := 0, Round := 0, Vec := ({ N := 9, Items := ([({ At := 3, Val := a0.N } : Item)] : List Item) } : Vec), Sums := ([] : List Sum), Triples := ([] : List Triple), N := a0.N, Over := false } : Frame)) (b2 := b3) (p3 := p4) (c4 := c5) (b8 := b9) (b10 := b11) R296 (.nil _ none 0) (.nil _ none 0) hd
      refine .callS (.f Try.call7 rfl) (.c (.s (.s (.s (.s .z)))) (.c (.s (.s (.s (.s .z)))) (.c (.s (.s (.s (.s .z)))) (.c (.s (.s (.s (.s .z)))) .n)))) hw299 rfl rfl fun v303 I300 l304 hl301 hv302 => ?_
      obtain ⟨r305, p308, c309, rfl, rfl, hd⟩ := hv302
      have le316 := IH.le.trans le297 hl301
      have le317 := IH.le.trans le298 hl301
      replace R296 := R296.mono hl301
      refine .re (m' := (pto b3 (.cells #[.int .i64 r305.2.room, .slice p308 r305.2.row.length c309, .map (some b9), .map (some b11), .int .i64 r305.2.sent, .int .i64 r305.2.taken] 60 (0, 0))) :: (OwnSl eI64 3 p308 c309 r305.2.row) :: (OwnMap (Value.int .i64) eFrame true b9 r305.2.by_) :: (OwnMap (Value.int .i64) eI64 false b11 r305.2.often) :: (pto b65 (.cells #[.int .i64 4, .int .i64 0, .int .i64 0, .int .i64 0, .int .i64 0, .int .i64 9, .slice (some ⟨b62, 0, none⟩) ([({ At := 3, Val := a0.N } : Item)] : List Item).length 1, .slice none 0 0, .slice none 0 0, .int .i64 a0.N, .bool false] 34 (0, 0))) :: (pto b12 (.cells #[.int .i64 o1.Many, .int .i64 o1.Out, .int .i64 o1.In, .slice p13 o1.L.length c14] 68 (0, 0))) :: (OwnSl eFrame 34 p13 c14 o1.L) :: (pto b21 (.cells #[.pointer (some ⟨b3, 0, none⟩), .pointer (some ⟨b12, 0, none⟩)] 48 (0, 0))) :: ex) rfl ?_
      refine .some (fun ex => (pto b3 (.cells #[.int .i64 r305.2.room, .slice p308 r305.2.row.length c309, .map (some b9), .map (some b11), .int .i64 r305.2.sent, .int .i64 r305.2.taken] 60 (0, 0))) :: (OwnSl eI64 3 p308 c309 r305.2.row) :: (OwnMap (Value.int .i64) eFrame true b9 r305.2.by_) :: (OwnMap (Value.int .i64) eI64 false b11 r305.2.often) :: (pto b65 (.cells #[.int .i64 4, .int .i64 0, .int .i64 0, .int .i64 0, .int .i64 0, .int .i64 9, .slice (some ⟨b62, 0, none⟩) ([({ At := 3, Val := a0.N } : Item)] : List Item).length 1, .slice none 0 0, .slice none 0 0, .int .i64 a0.N, .bool false] 34 (0, 0))) :: (pto b12 (.cells #[.int .i64 o1.Many, .int .i64 o1.Out, .int .i64 o1.In, .slice p13 o1.L.length c14] 68 (0, 0))) :: (OwnSl eFrame 34 p13 c14 o1.L) :: (pto b21 (.cells #[.pointer (some ⟨b3, 0, none⟩), .pointer (some ⟨b12, 0, none⟩)] 48 (0, 0))) :: ex) rfl (fun _ _ => (.s (.s (.s (.s (.s (.s (.s (.s .z))))))))) rfl (.cc [] rfl (by kernel_rfl) rfl rfl rfl (fun ex => .loadW Try.isAgg34 Try.sizeOf34 rfl (.s (.s (.s (.s .z)))) rfl rfl rfl .mk) (.cc [4] rfl (by kernel_rfl) rfl rfl rfl (fun ex => .load1 Try.isAgg42 rfl (.s (.s (.s (.s (.s (.s (.s .z))))))) rfl rfl rfl .mk) (.cc [] rfl (by kernel_rfl) rfl rfl rfl (fun ex => .fieldAddr Try.underlying48 rfl Try.sizeOf42 rfl (o := 1) rfl rfl rfl .mk) trivial))) ?_
      refine .w [] [[], [], [5]] [5, 6, 3] rfl (by kernel_rfl) (by kernel_rfl) (by kernel_rfl) ((dropE_kept rfl rfl)) (.inr (dropE_kept rfl rfl)) fun ex => ?_
      have hw318 := W_ref20_Box_Send_i32 (I := I300) (o0 := o1) (a0 := ({ Kind := 4, From := 0, To := 0, Seq := 0, Round := 0, Vec := ({ N := 9, Items := ([({ At := 3, Val := a0.N } : Item)] : List Item) } : Vec), Sums := ([] : List Sum), Triples := ([] : List Triple), N := a0.N, Over := false } : Frame)) (b2 := b12) (p3 := p13) (c4 := c14) R296 (.nil _ none 0) (.nil _ none 0) hd
      refine .callS (.f Try.call32 rfl) (.c (.s (.s (.s (.s (.s .z))))) (.c (.s (.s (.s (.s (.s .z))))) .n)) hw318 rfl rfl fun v322 I319 l323 hl320 hv321 => ?_
      obtain ⟨r324, p327, c328, rfl, rfl, hd⟩ := hv321
      have le331 := IH.le.trans le316 hl320
      have le332 := IH.le.trans le317 hl320
      replace R296 := R296.mono hl320
      refine .re (m' := (pto b12 (.cells #[.int .i64 r324.2.Many, .int .i64 r324.2.Out, .int .i64 r324.2.In, .slice p327 r324.2.L.length c328] 68 (0, 0))) :: (OwnSl eFrame 34 p327 c328 r324.2.L) :: (pto b3 (.cells #[.int .i64 r305.2.room, .slice p308 r305.2.row.length c309, .map (some b9), .map (some b11), .int .i64 r305.2.sent, .int .i64 r305.2.taken] 60 (0, 0))) :: (OwnSl eI64 3 p308 c309 r305.2.row) :: (OwnMap (Value.int .i64) eFrame true b9 r305.2.by_) :: (OwnMap (Value.int .i64) eI64 false b11 r305.2.often) :: (pto b65 (.cells #[.int .i64 4, .int .i64 0, .int .i64 0, .int .i64 0, .int .i64 0, .int .i64 9, .slice (some ⟨b62, 0, none⟩) ([({ At := 3, Val := a0.N } : Item)] : List Item).length 1, .slice none 0 0, .slice none 0 0, .int .i64 a0.N, .bool false] 34 (0, 0))) :: (pto b21 (.cells #[.pointer (some ⟨b3, 0, none⟩), .pointer (some ⟨b12, 0, none⟩)] 48 (0, 0))) :: ex) rfl ?_
      refine .some (fun ex => (pto b12 (.cells #[.int .i64 r324.2.Many, .int .i64 r324.2.Out, .int .i64 r324.2.In, .slice p327 r324.2.L.length c328] 68 (0, 0))) :: (OwnSl eFrame 34 p327 c328 r324.2.L) :: (pto b3 (.cells #[.int .i64 r305.2.room, .slice p308 r305.2.row.length c309, .map (some b9), .map (some b11), .int .i64 r305.2.sent, .int .i64 r305.2.taken] 60 (0, 0))) :: (OwnSl eI64 3 p308 c309 r305.2.row) :: (OwnMap (Value.int .i64) eFrame true b9 r305.2.by_) :: (OwnMap (Value.int .i64) eI64 false b11 r305.2.often) :: (pto b65 (.cells #[.int .i64 4, .int .i64 0, .int .i64 0, .int .i64 0, .int .i64 0, .int .i64 9, .slice (some ⟨b62, 0, none⟩) ([({ At := 3, Val := a0.N } : Item)] : List Item).length 1, .slice none 0 0, .slice none 0 0, .int .i64 a0.N, .bool false] 34 (0, 0))) :: (pto b21 (.cells #[.pointer (some ⟨b3, 0, none⟩), .pointer (some ⟨b12, 0, none⟩)] 48 (0, 0))) :: ex) rfl (fun _ _ => (.s (.s (.s (.s (.s (.s (.s (.s .z))))))))) rfl trivial ?_
      refine .f [3, 7] rfl (by kernel_rfl) rfl rfl (fun ex => .eq rfl rfl rfl rfl .mk) ?_
      refine .e 9 (by kernel_rfl) (by kernel_rfl) (by kernel_rfl) ?_
      refine .skips 1 rfl ?_
      refine .nil' fun c w ho hs => Cod.at (E := [(0, _), (4, _)]) (ho.sub ⟨rfl, rfl, trivial⟩) hs ?_
      refine .drop (.s (.s (.s (.s (.s (.s .z)))))) ?_
      refine .drop (.s (.s (.s (.s (.s (.s .z)))))) ?_
      exact .ret (oret Try.results19 (.t rfl .n) le331 (.c (.s (.s .z)) (.c (.s (.s .z)) (.c (.s (.s .z)) (.c (.s (.s .z)) (.c .z (.c .z .n)))))) ⟨(r305.1 == r324.1, r305.2, r324.2), _, _, _, _, rfl, rfl, hd⟩)
    · have hd := hd.2 hb293
      refine .seq ?_
      refine .region ?_
      refine .eq rfl rfl rfl rfl ?_
      refine .skips 1 rfl ?_
      refine .nil' fun c w ho hs => Cod.at (E := [(0, _), (2, _), (5, _), (6, _), (27, _), (42, _)]) (ho.sub ⟨rfl, rfl, rfl, rfl, rfl, rfl, trivial⟩) hs ?_
      refine .cond rfl (fun hb333 => ?_) (fun hb333 => ?_)
      · have hd := hd.1 hb333
        refine .seq ?_
        refine .draw [some 0, some 1, some 2, some 4, some 5, some 6, some 3, some 7, some 8] 9 MX (by kernel_rfl) (by kernel_rfl) (by kernel_rfl) (by kernel_rfl) (by kernel_rfl) (by kernel_rfl) (by kernel_rfl) (fun ex => (pto b65 (.cells #[.int .i64 4, .int .i64 0, .int .i64 0, .int .i64 0, .int .i64 0, .int .i64 9, .slice (some ⟨b62, 0, none⟩) ([({ At := 3, Val := a0.N } : Item)] : List Item).length 1, .slice none 0 0, .slice none 0 0, .int .i64 a0.N, .bool false] 34 (0, 0))) :: (OwnSl eItem 71 (some ⟨b62, 0, none⟩) 1 ([({ At := 3, Val := a0.N } : Item)] : List Item)) :: (pto b12 (.cells #[.int .i64 o1.Many, .int .i64 o1.Out, .int .i64 o1.In, .slice p13 o1.L.length c14] 68 (0, 0))) :: (OwnSl eFrame 34 p13 c14 o1.L) :: (pto b21 (.cells #[.pointer (some ⟨b3, 0, none⟩), .pointer (some ⟨b12, 0, none⟩)] 48 (0, 0))) :: (pto b3 (.cells #[.int .i64 o0.room, .slice p4 o0.row.length c5, .map (some b9), .map (some b11), .int .i64 o0.sent, .int .i64 o0.taken] 60 (0, 0))) :: (OwnSl eI64 3 p4 c5 o0.row) :: (OwnMap (Value.int .i64) eFrame true b9 o0.by_) :: (OwnMap (Value.int .i64) eI64 false b11 o0.often) :: ex) (fun _ _ => (.s (.s (.s (.s (.s (.s (.s (.s (.s .z)))))))))) rfl ?_
        refine .f [] rfl (by kernel_rfl) rfl rfl (fun ex => .fieldAddr Try.underlying48 rfl Try.sizeOf22 rfl (o := 0) rfl rfl rfl .mk) ?_
        refine .f [0] rfl (by kernel_rfl) rfl rfl (fun ex => .load1 Try.isAgg22 rfl (.s (.s (.s (.s .z)))) rfl rfl rfl .mk) ?_
        refine .f [] rfl (by kernel_rfl) rfl rfl (fun ex => .move rfl rfl rfl .mk) ?_
        refine .f [] rfl (by kernel_rfl) rfl rfl (fun ex => .fieldAddr Try.underlying48 rfl Try.sizeOf42 rfl (o := 1) rfl rfl rfl .mk) ?_
        refine .f [4] rfl (by kernel_rfl) rfl rfl (fun ex => .load1 Try.isAgg42 rfl (.s (.s (.s (.s .z)))) rfl rfl rfl .mk) ?_
        refine .f [] rfl (by kernel_rfl) rfl rfl (fun ex => .move rfl rfl rfl .mk) ?_
        refine .w [6, 5, 4] [[], [], [1]] [1, 2] rfl (by kernel_rfl) (by kernel_rfl) (by kernel_rfl) ((dropE_kept rfl rfl)) (.inr (dropE_kept rfl rfl)) fun ex => ?_
        have hw334 := W_post_Box_Double_i18 (I := I50) (o0 := o0) (a0 := r49) (b2 := b3) (p3 := p4) (c4 := c5) (b8 := b9) (b10 := b11) hd
        refine .callS (.f Try.call8 rfl) (.c (.s (.s (.s (.s (.s .z))))) (.c (.s (.s (.s (.s (.s .z))))) (.c (.s (.s (.s (.s (.s .z))))) (.c (.s (.s (.s (.s (.s .z))))) .n)))) hw334 rfl rfl fun v338 I335 l339 hl336 hv337 => ?_
        obtain ⟨r340, p343, c344, rfl, rfl, hd⟩ := hv337
        have le351 := IH.le.trans le56 hl336
        have le352 := IH.le.trans (.refl _) hl336
        refine .re (m' := (pto b3 (.cells #[.int .i64 r340.2.room, .slice p343 r340.2.row.length c344, .map (some b9), .map (some b11), .int .i64 r340.2.sent, .int .i64 r340.2.taken] 60 (0, 0))) :: (OwnSl eI64 3 p343 c344 r340.2.row) :: (OwnMap (Value.int .i64) eFrame true b9 r340.2.by_) :: (OwnMap (Value.int .i64) eI64 false b11 r340.2.often) :: (pto b65 (.cells #[.int .i64 4, .int .i64 0, .int .i64 0, .int .i64 0, .int .i64 0, .int .i64 9, .slice (some ⟨b62, 0, none⟩) ([({ At := 3, Val := a0.N } : Item)] : List Item).length 1, .slice none 0 0, .slice none 0 0, .int .i64 a0.N, .bool false] 34 (0, 0))) :: (OwnSl eItem 71 (some ⟨b62, 0, none⟩) 1 ([({ At := 3, Val := a0.N } : Item)] : List Item)) :: (pto b12 (.cells #[.int .i64 o1.Many, .int .i64 o1.Out, .int .i64 o1.In, .slice p13 o1.L.length c14] 68 (0, 0))) :: (OwnSl eFrame 34 p13 c14 o1.L) :: (pto b21 (.cells #[.pointer (some ⟨b3, 0, none⟩), .pointer (some ⟨b12, 0, none⟩)] 48 (0, 0))) :: ex) rfl ?_
        refine .some (fun ex => (pto b3 (.cells #[.int .i64 r340.2.room, .slice p343 r340.2.row.length c344, .map (some b9), .map (some b11), .int .i64 r340.2.sent, .int .i64 r340.2.taken] 60 (0, 0))) :: (OwnSl eI64 3 p343 c344 r340.2.row) :: (OwnMap (Value.int .i64) eFrame true b9 r340.2.by_) :: (OwnMap (Value.int .i64) eI64 false b11 r340.2.often) :: (pto b65 (.cells #[.int .i64 4, .int .i64 0, .int .i64 0, .int .i64 0, .int .i64 0, .int .i64 9, .slice (some ⟨b62, 0, none⟩) ([({ At := 3, Val := a0.N } : Item)] : List Item).length 1, .slice none 0 0, .slice none 0 0, .int .i64 a0.N, .bool false] 34 (0, 0))) :: (OwnSl eItem 71 (some ⟨b62, 0, none⟩) 1 ([({ At := 3, Val := a0.N } : Item)] : List Item)) :: (pto b12 (.cells #[.int .i64 o1.Many, .int .i64 o1.Out, .int .i64 o1.In, .slice p13 o1.L.length c14] 68 (0, 0))) :: (OwnSl eFrame 34 p13 c14 o1.L) :: (pto b21 (.cells #[.pointer (some ⟨b3, 0, none⟩), .pointer (some ⟨b12, 0, none⟩)] 48 (0, 0))) :: ex) rfl (fun _ _ => (.s (.s (.s (.s (.s (.s (.s (.s (.s .z)))))))))) rfl (.cc [] rfl (by kernel_rfl) rfl rfl rfl (fun ex => .move rfl rfl rfl .mk) (.cc [4] rfl (by kernel_rfl) rfl rfl rfl (fun ex => .load1 Try.isAgg42 rfl (.s (.s (.s (.s (.s (.s (.s (.s .z)))))))) rfl rfl rfl .mk) (.cc [] rfl (by kernel_rfl) rfl rfl rfl (fun ex => .fieldAddr Try.underlying48 rfl Try.sizeOf42 rfl (o := 1) rfl rfl rfl .mk) trivial))) ?_
        refine .w [] [[], [], [5]] [5, 6, 3] rfl (by kernel_rfl) (by kernel_rfl) (by kernel_rfl) ((dropE_kept rfl rfl)) (.inr (dropE_kept rfl rfl)) fun ex => ?_
        have hw353 := W_ref20_Box_Double_i33 (I := I335) (o0 := o1) (a0 := r49) (b2 := b12) (p3 := p13) (c4 := c14) hd
        refine .callS (.f Try.call33 rfl) (.c (.s (.s (.s (.s (.s (.s .z)))))) (.c (.s (.s (.s (.s (.s (.s .z)))))) .n)) hw353 rfl rfl fun v357 I354 l358 hl355 hv356 => ?_
        obtain ⟨r359, p362, c363, rfl, rfl, hd⟩ := hv356
        have le366 := IH.le.trans le351 hl355
        have le367 := IH.le.trans le352 hl355
        refine .re (m' := (pto b12 (.cells #[.int .i64 r359.2.Many, .int .i64 r359.2.Out, .int .i64 r359.2.In, .slice p362 r359.2.L.length c363] 68 (0, 0))) :: (OwnSl eFrame 34 p362 c363 r359.2.L) :: (pto b3 (.cells #[.int .i64 r340.2.room, .slice p343 r340.2.row.length c344, .map (some b9), .map (some b11), .int .i64 r340.2.sent, .int .i64 r340.2.taken] 60 (0, 0))) :: (OwnSl eI64 3 p343 c344 r340.2.row) :: (OwnMap (Value.int .i64) eFrame true b9 r340.2.by_) :: (OwnMap (Value.int .i64) eI64 false b11 r340.2.often) :: (pto b65 (.cells #[.int .i64 4, .int .i64 0, .int .i64 0, .int .i64 0, .int .i64 0, .int .i64 9, .slice (some ⟨b62, 0, none⟩) ([({ At := 3, Val := a0.N } : Item)] : List Item).length 1, .slice none 0 0, .slice none 0 0, .int .i64 a0.N, .bool false] 34 (0, 0))) :: (OwnSl eItem 71 (some ⟨b62, 0, none⟩) 1 ([({ At := 3, Val := a0.N } : Item)] : List Item)) :: (pto b21 (.cells #[.pointer (some ⟨b3, 0, none⟩), .pointer (some ⟨b12, 0, none⟩)] 48 (0, 0))) :: ex) rfl ?_
        refine .some (fun ex => (pto b12 (.cells #[.int .i64 r359.2.Many, .int .i64 r359.2.Out, .int .i64 r359.2.In, .slice p362 r359.2.L.length c363] 68 (0, 0))) :: (OwnSl eFrame 34 p362 c363 r359.2.L) :: (pto b3 (.cells #[.int .i64 r340.2.room, .slice p343 r340.2.row.length c344, .map (some b9), .map (some b11), .int .i64 r340.2.sent, .int .i64 r340.2.taken] 60 (0, 0))) :: (OwnSl eI64 3 p343 c344 r340.2.row) :: (OwnMap (Value.int .i64) eFrame true b9 r340.2.by_) :: (OwnMap (Value.int .i64) eI64 false b11 r340.2.often) :: (pto b65 (.cells #[.int .i64 4, .int .i64 0, .int .i64 0, .int .i64 0, .int .i64 0, .int .i64 9, .slice (some ⟨b62, 0, none⟩) ([({ At := 3, Val := a0.N } : Item)] : List Item).length 1, .slice none 0 0, .slice none 0 0, .int .i64 a0.N, .bool false] 34 (0, 0))) :: (OwnSl eItem 71 (some ⟨b62, 0, none⟩) 1 ([({ At := 3, Val := a0.N } : Item)] : List Item)) :: (pto b21 (.cells #[.pointer (some ⟨b3, 0, none⟩), .pointer (some ⟨b12, 0, none⟩)] 48 (0, 0))) :: ex) rfl (fun _ _ => (.s (.s (.s (.s (.s (.s (.s (.s (.s .z)))))))))) rfl trivial ?_
        refine .f [3, 7] rfl (by kernel_rfl) rfl rfl (fun ex => .eq rfl rfl rfl rfl .mk) ?_
        refine .e 9 (by kernel_rfl) (by kernel_rfl) (by kernel_rfl) ?_
        refine .skips 1 rfl ?_
        refine .nil' fun c w ho hs => Cod.at (E := [(0, _), (4, _)]) (ho.sub ⟨rfl, rfl, trivial⟩) hs ?_
        refine .drop (.s (.s (.s (.s (.s (.s .z)))))) ?_
        refine .drop (.s (.s (.s (.s (.s (.s .z)))))) ?_
        refine .drop (.s (.s (.s (.s (.s (.s .z)))))) ?_
        exact .ret (oret Try.results19 (.t rfl .n) le366 (.c (.s (.s .z)) (.c (.s (.s .z)) (.c (.s (.s .z)) (.c (.s (.s .z)) (.c .z (.c .z .n)))))) ⟨(r340.1 == r359.1, r340.2, r359.2), _, _, _, _, rfl, rfl, hd⟩)
      · have hd := hd.2 hb333
        refine .seq ?_
        refine .region ?_
        refine .eq rfl rfl rfl rfl ?_
        refine .skips 1 rfl ?_
        refine .nil' fun c w ho hs => Cod.at (E := [(0, _), (2, _), (5, _), (6, _), (27, _), (53, _)]) (ho.sub ⟨rfl, rfl, rfl, rfl, rfl, rfl, trivial⟩) hs ?_
        refine .cond rfl (fun hb368 => ?_) (fun hb368 => ?_)
        · have hd := hd.1 hb368
          refine .seq ?_
          refine .draw [some 0, some 1, some 2, some 4, some 5, some 6, some 3, some 7, some 8] 9 MX (by kernel_rfl) (by kernel_rfl) (by kernel_rfl) (by kernel_rfl) (by kernel_rfl) (by kernel_rfl) (by kernel_rfl) (fun ex => (pto b65 (.cells #[.int .i64 4, .int .i64 0, .int .i64 0, .int .i64 0, .int .i64 0, .int .i64 9, .slice (some ⟨b62, 0, none⟩) ([({ At := 3, Val := a0.N } : Item)] : List Item).length 1, .slice none 0 0, .slice none 0 0, .int .i64 a0.N, .bool false] 34 (0, 0))) :: (OwnSl eItem 71 (some ⟨b62, 0, none⟩) 1 ([({ At := 3, Val := a0.N } : Item)] : List Item)) :: (pto b12 (.cells #[.int .i64 o1.Many, .int .i64 o1.Out, .int .i64 o1.In, .slice p13 o1.L.length c14] 68 (0, 0))) :: (OwnSl eFrame 34 p13 c14 o1.L) :: (pto b21 (.cells #[.pointer (some ⟨b3, 0, none⟩), .pointer (some ⟨b12, 0, none⟩)] 48 (0, 0))) :: (pto b3 (.cells #[.int .i64 o0.room, .slice p4 o0.row.length c5, .map (some b9), .map (some b11), .int .i64 o0.sent, .int .i64 o0.taken] 60 (0, 0))) :: (OwnSl eI64 3 p4 c5 o0.row) :: (OwnMap (Value.int .i64) eFrame true b9 o0.by_) :: (OwnMap (Value.int .i64) eI64 false b11 o0.often) :: ex) (fun _ _ => (.s (.s (.s (.s (.s (.s (.s (.s (.s .z)))))))))) rfl ?_
          refine .f [] rfl (by kernel_rfl) rfl rfl (fun ex => .fieldAddr Try.underlying48 rfl Try.sizeOf22 rfl (o := 0) rfl rfl rfl .mk) ?_
          refine .f [0] rfl (by kernel_rfl) rfl rfl (fun ex => .load1 Try.isAgg22 rfl (.s (.s (.s (.s .z)))) rfl rfl rfl .mk) ?_
          refine .f [] rfl (by kernel_rfl) rfl rfl (fun ex => .move rfl rfl rfl .mk) ?_
          refine .f [] rfl (by kernel_rfl) rfl rfl (fun ex => .fieldAddr Try.underlying48 rfl Try.sizeOf42 rfl (o := 1) rfl rfl rfl .mk) ?_
          refine .f [4] rfl (by kernel_rfl) rfl rfl (fun ex => .load1 Try.isAgg42 rfl (.s (.s (.s (.s .z)))) rfl rfl rfl .mk) ?_
          refine .f [] rfl (by kernel_rfl) rfl rfl (fun ex => .move rfl rfl rfl .mk) ?_
          refine .w [6, 5, 4] [[], [], [1]] [1, 2] rfl (by kernel_rfl) (by kernel_rfl) (by kernel_rfl) ((dropE_kept rfl rfl)) (.inr (dropE_kept rfl rfl)) fun ex => ?_
          have hw369 := W_post_Box_Move_i35 (I := I50) (o0 := o0) (a0 := r49) (b2 := b3) (p3 := p4) (c4 := c5) (b8 := b9) (b10 := b11) hd
          refine .callS (.f Try.call15 rfl) (.c (.s (.s (.s (.s (.s .z))))) (.c (.s (.s (.s (.s (.s .z))))) (.c (.s (.s (.s (.s (.s .z))))) (.c (.s (.s (.s (.s (.s .z))))) .n)))) hw369 rfl rfl fun v373 I370 l374 hl371 hv372 => ?_
          obtain ⟨r375, p378, c379, rfl, rfl, hd⟩ := hv372
          have le386 := IH.le.trans le56 hl371
          have le387 := IH.le.trans (.refl _) hl371
          refine .re (m' := (pto b3 (.cells #[.int .i64 r375.2.room, .slice p378 r375.2.row.length c379, .map (some b9), .map (some b11), .int .i64 r375.2.sent, .int .i64 r375.2.taken] 60 (0, 0))) :: (OwnSl eI64 3 p378 c379 r375.2.row) :: (OwnMap (Value.int .i64) eFrame true b9 r375.2.by_) :: (OwnMap (Value.int .i64) eI64 false b11 r375.2.often) :: (pto b65 (.cells #[.int .i64 4, .int .i64 0, .int .i64 0, .int .i64 0, .int .i64 0, .int .i64 9, .slice (some ⟨b62, 0, none⟩) ([({ At := 3, Val := a0.N } : Item)] : List Item).length 1, .slice none 0 0, .slice none 0 0, .int .i64 a0.N, .bool false] 34 (0, 0))) :: (OwnSl eItem 71 (some ⟨b62, 0, none⟩) 1 ([({ At := 3, Val := a0.N } : Item)] : List Item)) :: (pto b12 (.cells #[.int .i64 o1.Many, .int .i64 o1.Out, .int .i64 o1.In, .slice p13 o1.L.length c14] 68 (0, 0))) :: (OwnSl eFrame 34 p13 c14 o1.L) :: (pto b21 (.cells #[.pointer (some ⟨b3, 0, none⟩), .pointer (some ⟨b12, 0, none⟩)] 48 (0, 0))) :: ex) rfl ?_
          refine .some (fun ex => (pto b3 (.cells #[.int .i64 r375.2.room, .slice p378 r375.2.row.length c379, .map (some b9), .map (some b11), .int .i64 r375.2.sent, .int .i64 r375.2.taken] 60 (0, 0))) :: (OwnSl eI64 3 p378 c379 r375.2.row) :: (OwnMap (Value.int .i64) eFrame true b9 r375.2.by_) :: (OwnMap (Value.int .i64) eI64 false b11 r375.2.often) :: (pto b65 (.cells #[.int .i64 4, .int .i64 0, .int .i64 0, .int .i64 0, .int .i64 0, .int .i64 9, .slice (some ⟨b62, 0, none⟩) ([({ At := 3, Val := a0.N } : Item)] : List Item).length 1, .slice none 0 0, .slice none 0 0, .int .i64 a0.N, .bool false] 34 (0, 0))) :: (OwnSl eItem 71 (some ⟨b62, 0, none⟩) 1 ([({ At := 3, Val := a0.N } : Item)] : List Item)) :: (pto b12 (.cells #[.int .i64 o1.Many, .int .i64 o1.Out, .int .i64 o1.In, .slice p13 o1.L.length c14] 68 (0, 0))) :: (OwnSl eFrame 34 p13 c14 o1.L) :: (pto b21 (.cells #[.pointer (some ⟨b3, 0, none⟩), .pointer (some ⟨b12, 0, none⟩)] 48 (0, 0))) :: ex) rfl (fun _ _ => (.s (.s (.s (.s (.s (.s (.s (.s (.s .z)))))))))) rfl (.cc [] rfl (by kernel_rfl) rfl rfl rfl (fun ex => .move rfl rfl rfl .mk) (.cc [4] rfl (by kernel_rfl) rfl rfl rfl (fun ex => .load1 Try.isAgg42 rfl (.s (.s (.s (.s (.s (.s (.s (.s .z)))))))) rfl rfl rfl .mk) (.cc [] rfl (by kernel_rfl) rfl rfl rfl (fun ex => .fieldAddr Try.underlying48 rfl Try.sizeOf42 rfl (o := 1) rfl rfl rfl .mk) trivial))) ?_
          refine .w [] [[], [], [5]] [5, 6, 3] rfl (by kernel_rfl) (by kernel_rfl) (by kernel_rfl) ((dropE_kept rfl rfl)) (.inr (dropE_kept rfl rfl)) fun ex => ?_
          have hw388 := W_ref20_Box_Move_i36 (I := I370) (o0 := o1) (a0 := r49) (b2 := b12) (p3 := p13) (c4 := c14) hd
          refine .callS (.f Try.call34 rfl) (.c (.s (.s (.s (.s (.s (.s .z)))))) (.c (.s (.s (.s (.s (.s (.s .z)))))) .n)) hw388 rfl rfl fun v392 I389 l393 hl390 hv391 => ?_
          obtain ⟨r394, p397, c398, rfl, rfl, hd⟩ := hv391
          have le401 := IH.le.trans le386 hl390
          have le402 := IH.le.trans le387 hl390
          refine .re (m' := (pto b12 (.cells #[.int .i64 r394.2.Many, .int .i64 r394.2.Out, .int .i64 r394.2.In, .slice p397 r394.2.L.length c398] 68 (0, 0))) :: (OwnSl eFrame 34 p397 c398 r394.2.L) :: (pto b3 (.cells #[.int .i64 r375.2.room, .slice p378 r375.2.row.length c379, .map (some b9), .map (some b11), .int .i64 r375.2.sent, .int .i64 r375.2.taken] 60 (0, 0))) :: (OwnSl eI64 3 p378 c379 r375.2.row) :: (OwnMap (Value.int .i64) eFrame true b9 r375.2.by_) :: (OwnMap (Value.int .i64) eI64 false b11 r375.2.often) :: (pto b65 (.cells #[.int .i64 4, .int .i64 0, .int .i64 0, .int .i64 0, .int .i64 0, .int .i64 9, .slice (some ⟨b62, 0, none⟩) ([({ At := 3, Val := a0.N } : Item)] : List Item).length 1, .slice none 0 0, .slice none 0 0, .int .i64 a0.N, .bool false] 34 (0, 0))) :: (OwnSl eItem 71 (some ⟨b62, 0, none⟩) 1 ([({ At := 3, Val := a0.N } : Item)] : List Item)) :: (pto b21 (.cells #[.pointer (some ⟨b3, 0, none⟩), .pointer (some ⟨b12, 0, none⟩)] 48 (0, 0))) :: ex) rfl ?_
          refine .some (fun ex => (pto b12 (.cells #[.int .i64 r394.2.Many, .int .i64 r394.2.Out, .int .i64 r394.2.In, .slice p397 r394.2.L.length c398] 68 (0, 0))) :: (OwnSl eFrame 34 p397 c398 r394.2.L) :: (pto b3 (.cells #[.int .i64 r375.2.room, .slice p378 r375.2.row.length c379, .map (some b9), .map (some b11), .int .i64 r375.2.sent, .int .i64 r375.2.taken] 60 (0, 0))) :: (OwnSl eI64 3 p378 c379 r375.2.row) :: (OwnMap (Value.int .i64) eFrame true b9 r375.2.by_) :: (OwnMap (Value.int .i64) eI64 false b11 r375.2.often) :: (pto b65 (.cells #[.int .i64 4, .int .i64 0, .int .i64 0, .int .i64 0, .int .i64 0, .int .i64 9, .slice (some ⟨b62, 0, none⟩) ([({ At := 3, Val := a0.N } : Item)] : List Item).length 1, .slice none 0 0, .slice none 0 0, .int .i64 a0.N, .bool false] 34 (0, 0))) :: (OwnSl eItem 71 (some ⟨b62, 0, none⟩) 1 ([({ At := 3, Val := a0.N } : Item)] : List Item)) :: (pto b21 (.cells #[.pointer (some ⟨b3, 0, none⟩), .pointer (some ⟨b12, 0, none⟩)] 48 (0, 0))) :: ex) rfl (fun _ _ => (.s (.s (.s (.s (.s (.s (.s (.s (.s .z)))))))))) rfl trivial ?_
          refine .f [3, 7] rfl (by kernel_rfl) rfl rfl (fun ex => .eq rfl rfl rfl rfl .mk) ?_
          refine .e 9 (by kernel_rfl) (by kernel_rfl) (by kernel_rfl) ?_
          refine .skips 1 rfl ?_
          refine .nil' fun c w ho hs => Cod.at (E := [(0, _), (4, _)]) (ho.sub ⟨rfl, rfl, trivial⟩) hs ?_
          refine .drop (.s (.s (.s (.s (.s (.s .z)))))) ?_
          refine .drop (.s (.s (.s (.s (.s (.s .z)))))) ?_
          refine .drop (.s (.s (.s (.s (.s (.s .z)))))) ?_
          exact .ret (oret Try.results19 (.t rfl .n) le401 (.c (.s (.s .z)) (.c (.s (.s .z)) (.c (.s (.s .z)) (.c (.s (.s .z)) (.c .z (.c .z .n)))))) ⟨(r375.1 == r394.1, r375.2, r394.2), _, _, _, _, rfl, rfl, hd⟩)
        · have hd := hd.2 hb368
          refine .seq ?_
          refine .region ?_
          refine .eq rfl rfl rfl rfl ?_
          refine .skips 1 rfl ?_
          refine .nil' fun c w ho hs => Cod.at (E := [(0, _), (2, _), (5, _), (6, _), (64, _)]) (ho.sub ⟨rfl, rfl, rfl, rfl, rfl, trivial⟩) hs ?_
          refine .cond rfl (fun hb403 => ?_) (fun hb403 => ?_)
          · have hd := hd.1 hb403
            exact .skip' fun c w ho hs => ⟨r49, hd, I50, (.refl _), ho.sub ⟨rfl, rfl, rfl, rfl, trivial⟩, hs.pick (.c (.s (.s (.s (.s (.s .z))))) (.c (.s (.s (.s (.s (.s .z))))) (.c (.s (.s (.s (.s (.s .z))))) (.c (.s (.s (.s (.s (.s .z))))) (.c (.s (.s .z)) (.c (.s (.s .z)) (.c (.s (.s .z)) (.c .z (.c .z .n)))))))))⟩
          · have hd := hd.2 hb403
            refine .region ?_
            refine .fieldAddr Try.underlying48 rfl Try.sizeOf42 rfl (o := 1) rfl rfl rfl ?_
            refine .load1 Try.isAgg42 rfl (.s (.s (.s (.s .z)))) rfl rfl rfl ?_
            have hw404 := W_ref20_Box_Oldest_i38 (I := I50) (o0 := o1) (b2 := b12) (p3 := p13) (c4 := c14) hd
            refine .callS (.f Try.call35 rfl) (.c (.s (.s .z)) (.c (.s (.s .z)) .n)) hw404 rfl rfl fun v408 I405 l409 hl406 hv407 => ?_
            obtain ⟨r410, rfl, rfl, hd⟩ := hv407
            have le411 := IH.le.trans le56 hl406
            have le412 := IH.le.trans (.refl _) hl406
            refine .re (m' := [pto b12 (.cells #[.int .i64 o1.Many, .int .i64 o1.Out, .int .i64 o1.In, .slice p13 o1.L.length c14] 68 (0, 0)), OwnSl eFrame 34 p13 c14 o1.L, pto b65 (.cells #[.int .i64 4, .int .i64 0, .int .i64 0, .int .i64 0, .int .i64 0, .int .i64 9, .slice (some ⟨b62, 0, none⟩) ([({ At := 3, Val := a0.N } : Item)] : List Item).length 1, .slice none 0 0, .slice none 0 0, .int .i64 a0.N, .bool false] 34 (0, 0)), OwnSl eItem 71 (some ⟨b62, 0, none⟩) 1 ([({ At := 3, Val := a0.N } : Item)] : List Item), pto b21 (.cells #[.pointer (some ⟨b3, 0, none⟩), .pointer (some ⟨b12, 0, none⟩)] 48 (0, 0)), pto b3 (.cells #[.int .i64 o0.room, .slice p4 o0.row.length c5, .map (some b9), .map (some b11), .int .i64 o0.sent, .int .i64 o0.taken] 60 (0, 0)), OwnSl eI64 3 p4 c5 o0.row, OwnMap (Value.int .i64) eFrame true b9 o0.by_, OwnMap (Value.int .i64) eI64 false b11 o0.often]) rfl ?_
            refine .sub (E' := [(0, _), (2, _), (6, _), (64, _), (28, _), (29, _), (30, _)]) ⟨rfl, rfl, rfl, rfl, rfl, rfl, rfl, trivial⟩ ?_
            refine .skips 1 rfl ?_
            exact .nil' fun c w ho hs => ⟨r410, hd, I405, le412, ho.sub ⟨rfl, rfl, rfl, rfl, trivial⟩, hs.pick (.c (.s (.s (.s (.s (.s .z))))) (.c (.s (.s (.s (.s (.s .z))))) (.c (.s (.s (.s (.s (.s .z))))) (.c (.s (.s (.s (.s (.s .z))))) (.c .z (.c .z (.c (.s (.s .z)) (.c .z (.c .z .n)))))))))⟩
  · rintro s291 hd c w hst
    obtain ⟨I413, hl414, hok, hsym⟩ := hst
    have le415 := IH.le.trans le56 hl414
    have le416 := IH.le.trans (.refl _) hl414
    refine Cod.at hok hsym ?_
    refine .seq ?_
    refine .region ?_
    refine .fieldAddr Try.underlying48 rfl Try.sizeOf22 rfl (o := 0) rfl rfl rfl ?_
    refine .load1 Try.isAgg22 rfl (.s (.s (.s (.s (.s (.s .z)))))) rfl rfl rfl ?_
    refine .skips 1 rfl ?_
    have hw445 := W_post_Box_Take_i5 (I := I413) (o0 := o0) (a0 := s291) (b2 := b3) (p3 := p4) (c4 := c5) (b8 := b9) (b10 := b11) hd
    refine .callS (.f Try.call9 rfl) (.c .z (.c .z (.c .z (.c .z .n)))) hw445 rfl rfl fun v449 I446 l450 hl447 hv448 => ?_
    obtain ⟨r451, p452, c453, p455, c456, p458, c459, p463, c464, rfl, R454, R457, R460, rfl, hd⟩ := hv448
    have le471 := IH.le.trans le415 hl447
    have le472 := IH.le.trans le416 hl447
    refine .re (m' := [pto b3 (.cells #[.int .i64 r451.2.2.2.room, .slice p463 r451.2.2.2.row.length c464, .map (some b9), .map (some b11), .int .i64 r451.2.2.2.sent, .int .i64 r451.2.2.2.taken] 60 (0, 0)), OwnSl eI64 3 p463 c464 r451.2.2.2.row, OwnMap (Value.int .i64) eFrame true b9 r451.2.2.2.by_, OwnMap (Value.int .i64) eI64 false b11 r451.2.2.2.often, pto b12 (.cells #[.int .i64 o1.Many, .int .i64 o1.Out, .int .i64 o1.In, .slice p13 o1.L.length c14] 68 (0, 0)), OwnSl eFrame 34 p13 c14 o1.L, pto b21 (.cells #[.pointer (some ⟨b3, 0, none⟩), .pointer (some ⟨b12, 0, none⟩)] 48 (0, 0)), pto b65 (.cells #[.int .i64 4, .int .i64 0, .int .i64 0, .int .i64 0, .int .i64 0, .int .i64 9, .slice (some ⟨b62, 0, none⟩) ([({ At := 3, Val := a0.N } : Item)] : List Item).length 1, .slice none 0 0, .slice none 0 0, .int .i64 a0.N, .bool false] 34 (0, 0)), OwnSl eItem 71 (some ⟨b62, 0, none⟩) 1 ([({ At := 3, Val := a0.N } : Item)] : List Item)]) rfl ?_
    refine .skips 1 rfl ?_
    refine .extract rfl rfl rfl rfl ?_
    refine .extract rfl rfl rfl rfl ?_
    refine .extract rfl rfl rfl rfl ?_
    refine .storeA Try.sizeOf34 rfl rfl (.s (.s (.s (.s (.s (.s (.s .z))))))) (.t (.t (.t (.t (.t (.t (.t (.t (.t (.t (.t .nil))))))))))) rfl rfl ?_
    refine .skips 2 rfl ?_
    refine .nil' fun c w ho hs => Cod.at (E := [(0, _), (2, _), (5, _), (6, _), (7, _), (8, _)]) (ho.sub ⟨rfl, rfl, rfl, rfl, rfl, rfl, trivial⟩) hs ?_
    refine .drop (.s (.s (.s (.s (.s (.s (.s (.s .z)))))))) ?_
    refine .seq ?_
    refine .region ?_
    refine .fieldAddr Try.underlying48 rfl Try.sizeOf42 rfl (o := 1) rfl rfl rfl ?_
    refine .load1 Try.isAgg42 rfl (.s (.s (.s (.s (.s (.s .z)))))) rfl rfl rfl ?_
    refine .skips 1 rfl ?_
    have hw499 := W_ref20_Box_Take_i39 (I := I446) (o0 := o1) (a0 := s291) (b2 := b12) (p3 := p13) (c4 := c14) hd
    refine .callS (.f Try.call36 rfl) (.c (.s (.s (.s (.s .z)))) (.c (.s (.s (.s (.s .z)))) .n)) hw499 rfl rfl fun v503 I500 l504 hl501 hv502 => ?_
    obtain ⟨r505, p506, c507, p509, c510, p512, c513, p517, c518, rfl, R508, R511, R514, rfl, hd⟩ := hv502
    have le521 := IH.le.trans le471 hl501
    have le522 := IH.le.trans le472 hl501
    replace R454 := R454.mono hl501
    replace R457 := R457.mono hl501
    replace R460 := R460.mono hl501
    refine .re (m' := [pto b12 (.cells #[.int .i64 r505.2.2.2.Many, .int .i64 r505.2.2.2.Out, .int .i64 r505.2.2.2.In, .slice p517 r505.2.2.2.L.length c518] 68 (0, 0)), OwnSl eFrame 34 p517 c518 r505.2.2.2.L, pto b3 (.cells #[.int .i64 r451.2.2.2.room, .slice p463 r451.2.2.2.row.length c464, .map (some b9), .map (some b11), .int .i64 r451.2.2.2.sent, .int .i64 r451.2.2.2.taken] 60 (0, 0)), OwnSl eI64 3 p463 c464 r451.2.2.2.row, OwnMap (Value.int .i64) eFrame true b9 r451.2.2.2.by_, OwnMap (Value.int .i64) eI64 false b11 r451.2.2.2.often, pto b21 (.cells #[.pointer (some ⟨b3, 0, none⟩), .pointer (some ⟨b12, 0, none⟩)] 48 (0, 0)), pto b65 (.cells #[.int .i64 r451.1.Kind, .int .i64 r451.1.From, .int .i64 r451.1.To, .int .i64 r451.1.Seq, .int .i64 r451.1.Round, .int .i64 r451.1.Vec.N, .slice p452 r451.1.Vec.Items.length c453, .slice p455 r451.1.Sums.length c456, .slice p458 r451.1.Triples.length c459, .int .i64 r451.1.N, .bool r451.1.Over] 34 (0, 0))]) rfl ?_
    refine .skips 1 rfl ?_
    refine .extract rfl rfl rfl rfl ?_
    refine .extract rfl rfl rfl rfl ?_
    refine .extract rfl rfl rfl rfl ?_
    refine .allocA Try.zeroValue34 rfl rfl fun b523 => ?_
    refine .storeA Try.sizeOf34 rfl rfl .z (.t (.t (.t (.t (.t (.t (.t (.t (.t (.t (.t .nil))))))))))) rfl rfl ?_
    refine .skips 2 rfl ?_
    refine .nil' fun c w ho hs => Cod.at (E := [(0, _), (6, _), (7, _), (8, _), (9, _), (10, _), (11, _)]) (ho.sub ⟨rfl, rfl, rfl, rfl, rfl, rfl, rfl, trivial⟩) hs ?_
    refine .drop (.s (.s (.s (.s (.s (.s (.s .z))))))) ?_
    refine .seq ?_
    refine .region ?_
    refine .loadW Try.isAgg34 Try.sizeOf34 rfl (.s (.s (.s (.s (.s (.s (.s .z))))))) rfl rfl rfl ?_
    refine .loadW Try.isAgg34 Try.sizeOf34 rfl .z rfl rfl rfl ?_
    have hw531 := W_ref19_Same (I := I500) R454 R457 R460 R508 R511 R514 hd
    refine .call Try.call37 rfl hw531 rfl rfl fun v529 I526 hl527 hv528 => ?_
    obtain ⟨r525, rfl, hd⟩ := hv528
    have le532 := IH.le.trans le521 hl527
    have le533 := IH.le.trans le522 hl527
    replace R454 := R454.mono hl527
    replace R457 := R457.mono hl527
    replace R460 := R460.mono hl527
    replace R508 := R508.mono hl527
    replace R511 := R511.mono hl527
    replace R514 := R514.mono hl527
    refine .skips 1 rfl ?_
    refine split r525 (fun hb534 => ?_) (fun hb534 => ?_)
    · have hd := hd.1 hb534
      rw [hb534]
      refine .gyes rfl rfl rfl (.move rfl rfl rfl ?_)
      refine .gyes rfl rfl rfl (.move rfl rfl rfl ?_)
      refine .gyes rfl rfl rfl (.eqB Try.underlying4 rfl rfl rfl rfl ?_)
      refine .skips 2 rfl ?_
      refine split (r451.2.1 == r505.2.1) (fun hb535 => ?_) (fun hb535 => ?_)
      · have hd := hd.1 hb535
        rw [hb535]
        refine .gyes rfl rfl rfl (.move rfl rfl rfl ?_)
        refine .gyes rfl rfl rfl (.move rfl rfl rfl ?_)
        refine .gyes rfl rfl rfl (.eq rfl rfl rfl rfl ?_)
        refine .skips 2 rfl ?_
        refine .nil' fun c w ho hs => Cod.at (E := [(0, _), (4, _)]) (ho.sub ⟨rfl, rfl, trivial⟩) hs ?_
        refine .drop .z ?_
        refine .drop (.s (.s (.s (.s (.s (.s .z)))))) ?_
        exact .ret (oret Try.results19 (.t rfl .n) le532 (.c (.s (.s .z)) (.c (.s (.s .z)) (.c (.s (.s .z)) (.c (.s (.s .z)) (.c .z (.c .z .n)))))) ⟨(r451.2.2.1 == r505.2.2.1, r451.2.2.2, r505.2.2.2), _, _, _, _, rfl, rfl, hd⟩)
      · have hd := hd.2 hb535
        rw [hb535]
        refine .skips 5 rfl ?_
        refine .nil' fun c w ho hs => Cod.at (E := [(0, _), (4, _)]) (ho.sub ⟨rfl, rfl, trivial⟩) hs ?_
        refine .drop .z ?_
        refine .drop (.s (.s (.s (.s (.s (.s .z)))))) ?_
        exact .ret (oret Try.results19 (.t rfl .n) le532 (.c (.s (.s .z)) (.c (.s (.s .z)) (.c (.s (.s .z)) (.c (.s (.s .z)) (.c .z (.c .z .n)))))) ⟨(false, r451.2.2.2, r505.2.2.2), _, _, _, _, rfl, rfl, hd⟩)
    · have hd := hd.2 hb534
      rw [hb534]
      refine .skips 10 rfl ?_
      refine .nil' fun c w ho hs => Cod.at (E := [(0, _), (4, _)]) (ho.sub ⟨rfl, rfl, trivial⟩) hs ?_
      refine .drop .z ?_
      refine .drop (.s (.s (.s (.s (.s (.s .z)))))) ?_
      exact .ret (oret Try.results19 (.t rfl .n) le532 (.c (.s (.s .z)) (.c (.s (.s .z)) (.c (.s (.s .z)) (.c (.s (.s .z)) (.c .z (.c .z .n)))))) ⟨(false, r451.2.2.2, r505.2.2.2), _, _, _, _, rfl, rfl, hd⟩)

theorem W_ref20_Box_Frames_i41 {I : IH} {o0 : Ref20_Box} {b2 : Nat} {p3 : Option Addr} {c4 : Nat} {Q : (List Frame) → Prop}  (hd : ref20_Box_Frames_i41 o0 Q) :
    Fun Try.prog 39 #[.pointer (some ⟨b2, 0, none⟩)] I [pto b2 (.cells #[.int .i64 o0.Many, .int .i64 o0.Out, .int .i64 o0.In, .slice p3 o0.L.length c4] 68 (0, 0)), OwnSl eFrame 34 p3 c4 o0.L] (fun I_ v l => ∃ r p7 c8, v = .slice p7 r.length c8 ∧ RepSl eFrame I_ p7 c8 r ∧ l = [pto b2 (.cells #[.int .i64 o0.Many, .int .i64 o0.Out, .int .i64 o0.In, .slice p3 o0.L.length c4] 68 (0, 0)), OwnSl eFrame 34 p3 c4 o0.L] ∧ Q r) := by
  refine Fun.enter (vs := [.pointer (some ⟨b2, 0, none⟩)]) Try.func39 rfl Try.ntmps39 rfl (.c .n) fun w0 M => ?_
  refine .seq ?_
  refine .region ?_
  refine .skips 1 rfl ?_
  refine .nil' fun c w ho hs => Cod.at (E := [(0, _)]) (ho.sub ⟨rfl, trivial⟩) hs ?_
  refine .seq ?_
  refine .region ?_
  refine .skips 1 rfl ?_
  refine .nil' fun c w ho hs => Cod.at (E := [(0, _), (3, _)]) (ho.sub ⟨rfl, rfl, trivial⟩) hs ?_
  refine .seq ?_
  refine .seq ?_
  refine .region ?_
  refine .skips 1 rfl ?_
  refine .nil' fun c w ho hs => Cod.at (E := [(0, _), (3, _), (4, _)]) (ho.sub ⟨rfl, rfl, rfl, trivial⟩) hs ?_
  refine .block ?_
  refine .own0 eFrame 34 ?_
  refine .loop hd (fun (s : (List Frame) × Int) c w => match s with | (s105, s109) => ∃ I_ p106 c107, IH.le I I_ ∧ Ok 30 [(0, .pointer (some ⟨b2, 0, none⟩)), (3, .slice p106 s105.length c107), (4, .int .i64 s109)] c ∧ Sym w0 M I I_ [pto b2 (.cells #[.int .i64 o0.Many, .int .i64 o0.Out, .int .i64 o0.In, .slice p3 o0.L.length c4] 68 (0, 0)), OwnSl eFrame 34 p3 c4 o0.L, OwnSl eFrame 34 p106 c107 s105] w) (fun c w ho hs => ⟨I, _, _, (.refl _), ho.sub ⟨rfl, rfl, rfl, trivial⟩, hs.pick (.c (.s .z) (.c (.s .z) (.c .z .n)))⟩) ?_
  rintro ⟨s105, s109⟩ next111 hd c w hst
  obtain ⟨I112, p106, c107, hl113, hok, hsym⟩ := hst
  have le114 := IH.le.trans (.refl _) hl113
  refine Cod.at hok hsym ?_
  refine .seq ?_
  refine .seq ?_
  refine .region ?_
  refine .skips 1 rfl ?_
  refine .neNilP Try.underlying42 rfl rfl rfl rfl ?_
  refine .skips 1 rfl ?_
  refine .gyes rfl rfl rfl (.move rfl rfl rfl ?_)
  refine .gyes rfl rfl rfl (.move rfl rfl rfl ?_)
  refine .gyes rfl rfl rfl (.nilCheckP rfl rfl rfl ?_)
  refine .gyes rfl rfl rfl (.fieldAddr Try.underlying68 rfl Try.sizeOf45 rfl (o := 3) rfl rfl rfl ?_)
  refine .gyes rfl rfl rfl (.load1 Try.isAgg45 rfl .z rfl rfl rfl ?_)
  refine .gyes rfl rfl rfl (.len Try.underlying45 rfl rfl rfl rfl ?_)
  refine .gyes rfl rfl rfl (.lt rfl rfl rfl rfl ?_)
  refine .skips 1 rfl ?_
  refine .nil' fun c w ho hs => Cod.at (E := [(0, _), (3, _), (4, _), (15, _)]) (ho.sub ⟨rfl, rfl, rfl, rfl, trivial⟩) hs ?_
  refine .cond rfl (fun hb116 => ?_) (fun hb116 => ?_)
  · have hd := hd.1 hb116
    refine .skip' fun c w ho hs => Cod.at (E := [(0, _), (3, _), (4, _)]) (ho.sub ⟨rfl, rfl, rfl, trivial⟩) hs ?_
    refine .seq ?_
    refine .block ?_
    refine .region ?_
    refine .skips 2 rfl ?_
    refine .nilCheckP rfl rfl rfl ?_
    refine .fieldAddr Try.underlying68 rfl Try.sizeOf45 rfl (o := 3) rfl rfl rfl ?_
    refine .load1 Try.isAgg45 rfl .z rfl rfl rfl ?_
    refine .skips 1 rfl ?_
    obtain ⟨h117, x118, hx119, hd⟩ := hd
    refine .ownNe (.s .z) (idx_ne hx119) fun b120 e121 => ?_
    cases e121
    refine .ixa0 Try.underlying45 Try.sizeOf34 rfl rfl h117 (idx_lt hx119 h117) rfl rfl ?_
    refine .loEW Try.isAgg34 Try.sizeOf34 (.s .z) hx119 rfl rfl rfl rfl rfl fun cs131 hr132 => ?_
    obtain ⟨p122, c123, p125, c126, p128, c129, rfl, R124, R127, R130⟩ := hr132
    have hw148 := W_ref20_own (I := I112) R124 R127 R130 hd
    refine .call Try.call43 rfl hw148 rfl rfl fun v137 I134 hl135 hv136 => ?_
    obtain ⟨r133, p139, c140, p142, c143, p145, c146, rfl, R141, R144, R147, hd⟩ := hv136
    have le149 := IH.le.trans le114 hl135
    replace R124 := R124.mono hl135
    replace R127 := R127.mono hl135
    replace R130 := R130.mono hl135
    refine .buildSlice 1 Try.underlying45 Try.sizeOf34 Try.zeroValue34 rfl rfl (.c rfl rfl rfl .n) rfl rfl fun b150 => ?_
    obtain ⟨hl152, hd⟩ := hd
    refine .append (ys := [r133]) 136 (.s (.s (.s .z))) Try.underlying45 Try.underlying45 IN34 rfl rfl rfl rfl rfl rfl rfl rfl rfl (.box .z (.one ⟨_, _, _, _, _, _, rfl, R141, R144, R147⟩) rfl) hl152 rfl rfl fun p153 c154 => ?_
    refine .sub (E' := [(0, _), (4, _), (18, _), (19, _), (20, _), (21, _), (22, _), (23, _), (24, _), (25, _), (26, _), (27, _), (28, _)]) ⟨rfl, rfl, rfl, rfl, rfl, rfl, rfl, rfl, rfl, rfl, rfl, rfl, rfl, trivial⟩ ?_
    refine .skips 1 rfl ?_
    refine .nil' fun c w ho hs => Cod.at (E := [(0, _), (4, _), (3, _)]) (ho.sub ⟨rfl, rfl, rfl, trivial⟩) hs ?_
    refine .drop (.s .z) ?_
    refine .region ?_
    refine .skips 1 rfl ?_
    refine .add rfl rfl rfl rfl ?_
    refine .sub (E' := [(0, _), (3, _), (16, _), (17, _)]) ⟨rfl, rfl, rfl, rfl, trivial⟩ ?_
    refine .skips 1 rfl ?_
    exact .nil' fun c w ho hs => ⟨((s105 ++ ([r133])), w64 (s109 + 1)), hd, I134, _, _, le149, ho.sub ⟨rfl, rfl, rfl, trivial⟩, hs.pick (.c (.s .z) (.c (.s .z) (.c .z .n)))⟩
  · have hd := hd.2 hb116
    refine .exit fun c w ho hs => Cod.at (E := [(0, _), (3, _)]) (ho.sub ⟨rfl, rfl, trivial⟩) hs ?_
    refine .seq ?_
    refine .region ?_
    refine .skips 2 rfl ?_
    refine .nil' fun c w ho hs => Cod.at (E := [(0, _), (2, _)]) (ho.sub ⟨rfl, rfl, trivial⟩) hs ?_
    refine .pub (.s (.s .z)) fun I156 hl157 R158 => ?_
    have le159 := IH.le.trans le114 hl157
    exact .ret (oret Try.results39 (.t rfl .n) le159 (.c .z (.c .z .n)) ⟨s105, _, _, rfl, R158, rfl, hd⟩)

theorem W_law20_both_same_i40 {I : IH} {o0 : Post_Box} {o1 : Ref20_Box} {b3 : Nat} {p4 : Option Addr} {c5 : Nat} {b9 : Nat} {b11 : Nat} {b12 : Nat} {p13 : Option Addr} {c14 : Nat} {Q : Bool → Prop}  (hd : law20_both_same_i40 o0 o1 Q) :
    Fun Try.prog 20 #[.agg #[.pointer (some ⟨b3, 0, none⟩), .pointer (some ⟨b12, 0, none⟩)]] I [pto b3 (.cells #[.int .i64 o0.room, .slice p4 o0.row.length c5, .map (some b9), .map (some b11), .int .i64 o0.sent, .int .i64 o0.taken] 60 (0, 0)), OwnSl eI64 3 p4 c5 o0.row, OwnMap (Value.int .i64) eFrame true b9 o0.by_, OwnMap (Value.int .i64) eI64 false b11 o0.often, pto b12 (.cells #[.int .i64 o1.Many, .int .i64 o1.Out, .int .i64 o1.In, .slice p13 o1.L.length c14] 68 (0, 0)), OwnSl eFrame 34 p13 c14 o1.L] (fun I_ v l => ∃ r, v = .bool r ∧ l = [pto b3 (.cells #[.int .i64 o0.room, .slice p4 o0.row.length c5, .map (some b9), .map (some b11), .int .i64 o0.sent, .int .i64 o0.taken] 60 (0, 0)), OwnSl eI64 3 p4 c5 o0.row, OwnMap (Value.int .i64) eFrame true b9 o0.by_, OwnMap (Value.int .i64) eI64 false b11 o0.often, pto b12 (.cells #[.int .i64 o1.Many, .int .i64 o1.Out, .int .i64 o1.In, .slice p13 o1.L.length c14] 68 (0, 0)), OwnSl eFrame 34 p13 c14 o1.L] ∧ Q r) := by
  refine Fun.enter (vs := [.agg #[.pointer (some ⟨b3, 0, none⟩), .pointer (some ⟨b12, 0, none⟩)]]) Try.func20 rfl Try.ntmps20 rfl (.c .n) fun w0 M => ?_
  refine .seq ?_
  refine .region ?_
  refine .boxA rfl rfl rfl fun b19 => ?_
  refine .skips 1 rfl ?_
  refine .nil' fun c w ho hs => Cod.at (E := [(0, _), (1, _)]) (ho.sub ⟨rfl, rfl, trivial⟩) hs ?_
  refine .seq ?_
  refine .draw [some 0, some 1, some 3, some 4, some 2, some 5, some 6, some 7, some 8, some 9, some 11, some 12, some 10, some 13, some 14, some 15, some 16, some 17, some 18, some 20, some 21, some 22, some 23, some 24, some 19, some 25, some 26, some 27, some 28, some 29, some 31, some 32, some 33, some 34, some 35, some 30, some 36, some 37, some 38, some 39, some 40, some 42, some 43, some 41, some 44, some 45, some 46] 47 MX (by kernel_rfl) (by kernel_rfl) (by kernel_rfl) (by kernel_rfl) (by kernel_rfl) (by kernel_rfl) (by kernel_rfl) (fun ex => (pto b19 (.cells #[.pointer (some ⟨b3, 0, none⟩), .pointer (some ⟨b12, 0, none⟩)] 48 (0, 0))) :: (pto b3 (.cells #[.int .i64 o0.room, .slice p4 o0.row.length c5, .map (some b9), .map (some b11), .int .i64 o0.sent, .int .i64 o0.taken] 60 (0, 0))) :: (OwnSl eI64 3 p4 c5 o0.row) :: (OwnMap (Value.int .i64) eFrame true b9 o0.by_) :: (OwnMap (Value.int .i64) eI64 false b11 o0.often) :: (pto b12 (.cells #[.int .i64 o1.Many, .int .i64 o1.Out, .int .i64 o1.In, .slice p13 o1.L.length c14] 68 (0, 0))) :: (OwnSl eFrame 34 p13 c14 o1.L) :: ex) (fun _ _ => (.s (.s (.s (.s (.s (.s (.s .z)))))))) rfl ?_
  refine .f [] rfl (by kernel_rfl) rfl rfl (fun ex => .fieldAddr Try.underlying48 rfl Try.sizeOf22 rfl (o := 0) rfl rfl rfl .mk) ?_
  refine .f [0] rfl (by kernel_rfl) rfl rfl (fun ex => .load1 Try.isAgg22 rfl .z rfl rfl rfl .mk) ?_
  refine .f [] rfl (by kernel_rfl) rfl rfl (fun ex => .fieldAddr Try.underlying48 rfl Try.sizeOf42 rfl (o := 1) rfl rfl rfl .mk) ?_
  refine .f [3] rfl (by kernel_rfl) rfl rfl (fun ex => .load1 Try.isAgg42 rfl .z rfl rfl rfl .mk) ?_
  refine .w [4, 3] [[], [1]] [1] rfl (by kernel_rfl) (by kernel_rfl) (by kernel_rfl) ((dropE_kept rfl rfl)) (.inr (dropE_kept rfl rfl)) fun ex => ?_
  have hw21 := W_post_Box_Len_i10 (I := I) (o0 := o0) (b2 := b3) (p3 := p4) (c4 := c5) (b8 := b9) (b10 := b11) hd
  refine .callS (.f Try.call12 rfl) (.c (.s .z) (.c (.s .z) (.c (.s .z) (.c (.s .z) .n)))) hw21 rfl rfl fun v25 I22 l26 hl23 hv24 => ?_
  obtain ⟨r27, rfl, rfl, hd⟩ := hv24
  have le28 := IH.le.trans (.refl _) hl23
  refine .re (m' := (pto b3 (.cells #[.int .i64 o0.room, .slice p4 o0.row.length c5, .map (some b9), .map (some b11), .int .i64 o0.sent, .int .i64 o0.taken] 60 (0, 0))) :: (OwnSl eI64 3 p4 c5 o0.row) :: (OwnMap (Value.int .i64) eFrame true b9 o0.by_) :: (OwnMap (Value.int .i64) eI64 false b11 o0.often) :: (pto b19 (.cells #[.pointer (some ⟨b3, 0, none⟩), .pointer (some ⟨b12, 0, none⟩)] 48 (0, 0))) :: (pto b12 (.cells #[.int .i64 o1.Many, .int .i64 o1.Out, .int .i64 o1.In, .slice p13 o1.L.length c14] 68 (0, 0))) :: (OwnSl eFrame 34 p13 c14 o1.L) :: ex) rfl ?_
  refine .some (fun ex => (pto b3 (.cells #[.int .i64 o0.room, .slice p4 o0.row.length c5, .map (some b9), .map (some b11), .int .i64 o0.sent, .int .i64 o0.taken] 60 (0, 0))) :: (OwnSl eI64 3 p4 c5 o0.row) :: (OwnMap (Value.int .i64) eFrame true b9 o0.by_) :: (OwnMap (Value.int .i64) eI64 false b11 o0.often) :: (pto b19 (.cells #[.pointer (some ⟨b3, 0, none⟩), .pointer (some ⟨b12, 0, none⟩)] 48 (0, 0))) :: (pto b12 (.cells #[.int .i64 o1.Many, .int .i64 o1.Out, .int .i64 o1.In, .slice p13 o1.L.length c14] 68 (0, 0))) :: (OwnSl eFrame 34 p13 c14 o1.L) :: ex) rfl (fun _ _ => (.s (.s (.s (.s (.s (.s (.s .z)))))))) rfl (.cc [3] rfl (by kernel_rfl) rfl rfl rfl (fun ex => .load1 Try.isAgg42 rfl (.s (.s (.s (.s .z)))) rfl rfl rfl .mk) (.cc [] rfl (by kernel_rfl) rfl rfl rfl (fun ex => .fieldAddr Try.underlying48 rfl Try.sizeOf42 rfl (o := 1) rfl rfl rfl .mk) trivial)) ?_
  refine .w [] [[], [4]] [4, 2] rfl (by kernel_rfl) (by kernel_rfl) (by kernel_rfl) ((dropE_kept rfl rfl)) (.inr (dropE_kept rfl rfl)) fun ex => ?_
  have hw29 := W_ref20_Box_Len_i31 (I := I22) (o0 := o1) (b2 := b12) (p3 := p13) (c4 := c14) hd
  refine .callS (.f Try.call31 rfl) (.c (.s (.s (.s (.s (.s .z))))) (.c (.s (.s (.s (.s (.s .z))))) .n)) hw29 rfl rfl fun v33 I30 l34 hl31 hv32 => ?_
  obtain ⟨r35, rfl, rfl, hd⟩ := hv32
  have le36 := IH.le.trans le28 hl31
  refine .re (m' := (pto b12 (.cells #[.int .i64 o1.Many, .int .i64 o1.Out, .int .i64 o1.In, .slice p13 o1.L.length c14] 68 (0, 0))) :: (OwnSl eFrame 34 p13 c14 o1.L) :: (pto b3 (.cells #[.int .i64 o0.room, .slice p4 o0.row.length c5, .map (some b9), .map (some b11), .int .i64 o0.sent, .int .i64 o0.taken] 60 (0, 0))) :: (OwnSl eI64 3 p4 c5 o0.row) :: (OwnMap (Value.int .i64) eFrame true b9 o0.by_) :: (OwnMap (Value.int .i64) eI64 false b11 o0.often) :: (pto b19 (.cells #[.pointer (some ⟨b3, 0, none⟩), .pointer (some ⟨b12, 0, none⟩)] 48 (0, 0))) :: ex) rfl ?_
  refine .some (fun ex => (pto b12 (.cells #[.int .i64 o1.Many, .int .i64 o1.Out, .int .i64 o1.In, .slice p13 o1.L.length c14] 68 (0, 0))) :: (OwnSl eFrame 34 p13 c14 o1.L) :: (pto b3 (.cells #[.int .i64 o0.room, .slice p4 o0.row.length c5, .map (some b9), .map (some b11), .int .i64 o0.sent, .int .i64 o0.taken] 60 (0, 0))) :: (OwnSl eI64 3 p4 c5 o0.row) :: (OwnMap (Value.int .i64) eFrame true b9 o0.by_) :: (OwnMap (Value.int .i64) eI64 false b11 o0.often) :: (pto b19 (.cells #[.pointer (some ⟨b3, 0, none⟩), .pointer (some ⟨b12, 0, none⟩)] 48 (0, 0))) :: ex) rfl (fun _ _ => (.s (.s (.s (.s (.s (.s (.s .z)))))))) rfl trivial ?_
  refine .f [2, 5] rfl (by kernel_rfl) rfl rfl (fun ex => .eq rfl rfl rfl rfl .mk) ?_
  refine .f [6, 5] rfl (by kernel_rfl) rfl rfl (fun ex => .move rfl rfl rfl .mk) ?_
  refine split (r27 == r35) (fun hb37 => ?_) (fun hb37 => ?_)
  · have hd := hd.1 hb37
    refine .f [7] rfl (by kernel_rfl) rfl rfl (fun ex => .gyes rfl rfl hb37 (.fieldAddr Try.underlying48 rfl Try.sizeOf22 rfl (o := 0) rfl rfl rfl .mk)) ?_
    refine .f [8, 7] rfl (by kernel_rfl) rfl rfl (fun ex => .gyes rfl rfl hb37 (.load1 Try.isAgg22 rfl (.s (.s (.s (.s (.s (.s .z)))))) rfl rfl rfl .mk)) ?_
    refine .f [7] rfl (by kernel_rfl) rfl rfl (fun ex => .gyes rfl rfl hb37 (.fieldAddr Try.underlying48 rfl Try.sizeOf42 rfl (o := 1) rfl rfl rfl .mk)) ?_
    refine .f [11, 7] rfl (by kernel_rfl) rfl rfl (fun ex => .gyes rfl rfl hb37 (.load1 Try.isAgg42 rfl (.s (.s (.s (.s (.s (.s .z)))))) rfl rfl rfl .mk)) ?_
    refine .w [12, 11] [[], [9], [], [7]] [9, 7, 7] rfl (by kernel_rfl) (by kernel_rfl) (by kernel_rfl) ((dropE_kept rfl rfl)) (.inr (dropE_kept rfl rfl)) fun ex => ?_
    have hw38 := W_post_Box_Oldest_i9 (I := I30) (o0 := o0) (b2 := b3) (p3 := p4) (c4 := c5) (b8 := b9) (b10 := b11) hd
    refine .gyes rfl rfl hb37 (.callS (.f Try.call10 rfl) (.c (.s (.s .z)) (.c (.s (.s .z)) (.c (.s (.s .z)) (.c (.s (.s .z)) .n)))) hw38 rfl rfl fun v42 I39 l43 hl40 hv41 => ?_)
    obtain ⟨r44, rfl, rfl, hd⟩ := hv41
    have le45 := IH.le.trans le36 hl40
    refine .re (m' := (pto b3 (.cells #[.int .i64 o0.room, .slice p4 o0.row.length c5, .map (some b9), .map (some b11), .int .i64 o0.sent, .int .i64 o0.taken] 60 (0, 0))) :: (OwnSl eI64 3 p4 c5 o0.row) :: (OwnMap (Value.int .i64) eFrame true b9 o0.by_) :: (OwnMap (Value.int .i64) eI64 false b11 o0.often) :: (pto b12 (.cells #[.int .i64 o1.Many, .int .i64 o1.Out, .int .i64 o1.In, .slice p13 o1.L.length c14] 68 (0, 0))) :: (OwnSl eFrame 34 p13 c14 o1.L) :: (pto b19 (.cells #[.pointer (some ⟨b3, 0, none⟩), .pointer (some ⟨b12, 0, none⟩)] 48 (0, 0))) :: ex) rfl ?_
    refine .some (fun ex => (pto b3 (.cells #[.int .i64 o0.room, .slice p4 o0.row.length c5, .map (some b9), .map (some b11), .int .i64 o0.sent, .int .i64 o0.taken] 60 (0, 0))) :: (OwnSl eI64 3 p4 c5 o0.row) :: (OwnMap (Value.int .i64) eFrame true b9 o0.by_) :: (OwnMap (Value.int .i64) eI64 false b11 o0.often) :: (pto b12 (.cells #[.int .i64 o1.Many, .int .i64 o1.Out, .int .i64 o1.In, .slice p13 o1.L.length c14] 68 (0, 0))) :: (OwnSl eFrame 34 p13 c14 o1.L) :: (pto b19 (.cells #[.pointer (some ⟨b3, 0, none⟩), .pointer (some ⟨b12, 0, none⟩)] 48 (0, 0))) :: ex) rfl (fun _ _ => (.s (.s (.s (.s (.s (.s (.s .z)))))))) rfl (.cc [11, 7] rfl (by kernel_rfl) rfl rfl rfl (fun ex => .gyes rfl rfl hb37 (.load1 Try.isAgg42 rfl (.s (.s (.s (.s (.s (.s .z)))))) rfl rfl rfl .mk)) (.cc [7] rfl (by kernel_rfl) rfl rfl rfl (fun ex => .gyes rfl rfl hb37 (.fieldAddr Try.underlying48 rfl Try.sizeOf42 rfl (o := 1) rfl rfl rfl .mk)) trivial)) ?_
    refine .w [] [[], [12]] [12, 10, 7] rfl (by kernel_rfl) (by kernel_rfl) (by kernel_rfl) ((dropE_kept rfl rfl)) (.inr (dropE_kept rfl rfl)) fun ex => ?_
    have hw46 := W_ref20_Box_Oldest_i38 (I := I39) (o0 := o1) (b2 := b12) (p3 := p13) (c4 := c14) hd
    refine .gyes rfl rfl hb37 (.callS (.f Try.call35 rfl) (.c (.s (.s (.s (.s .z)))) (.c (.s (.s (.s (.s .z)))) .n)) hw46 rfl rfl fun v50 I47 l51 hl48 hv49 => ?_)
    obtain ⟨r52, rfl, rfl, hd⟩ := hv49
    have le53 := IH.le.trans le45 hl48
    refine .re (m' := (pto b12 (.cells #[.int .i64 o1.Many, .int .i64 o1.Out, .int .i64 o1.In, .slice p13 o1.L.length c14] 68 (0, 0))) :: (OwnSl eFrame 34 p13 c14 o1.L) :: (pto b3 (.cells #[.int .i64 o0.room, .slice p4 o0.row.length c5, .map (some b9), .map (some b11), .int .i64 o0.sent, .int .i64 o0.taken] 60 (0, 0))) :: (OwnSl eI64 3 p4 c5 o0.row) :: (OwnMap (Value.int .i64) eFrame true b9 o0.by_) :: (OwnMap (Value.int .i64) eI64 false b11 o0.often) :: (pto b19 (.cells #[.pointer (some ⟨b3, 0, none⟩), .pointer (some ⟨b12, 0, none⟩)] 48 (0, 0))) :: ex) rfl ?_
    refine .some (fun ex => (pto b12 (.cells #[.int .i64 o1.Many, .int .i64 o1.Out, .int .i64 o1.In, .slice p13 o1.L.length c14] 68 (0, 0))) :: (OwnSl eFrame 34 p13 c14 o1.L) :: (pto b3 (.cells #[.int .i64 o0.room, .slice p4 o0.row.length c5, .map (some b9), .map (some b11), .int .i64 o0.sent, .int .i64 o0.taken] 60 (0, 0))) :: (OwnSl eI64 3 p4 c5 o0.row) :: (OwnMap (Value.int .i64) eFrame true b9 o0.by_) :: (OwnMap (Value.int .i64) eI64 false b11 o0.often) :: (pto b19 (.cells #[.pointer (some ⟨b3, 0, none⟩), .pointer (some ⟨b12, 0, none⟩)] 48 (0, 0))) :: ex) rfl (fun _ _ => (.s (.s (.s (.s (.s (.s (.s .z)))))))) rfl trivial ?_
    refine .f [10, 13, 7] rfl (by kernel_rfl) rfl rfl (fun ex => .gyes rfl rfl hb37 (.eq rfl rfl rfl rfl .mk)) ?_
    refine .f [7, 14] rfl (by kernel_rfl) rfl rfl (fun ex => .pickT rfl hb37 rfl rfl rfl .mk) ?_
    refine .f [15, 13] rfl (by kernel_rfl) rfl rfl (fun ex => .move rfl rfl rfl .mk) ?_
    refine split (r44 == r52) (fun hb54 => ?_) (fun hb54 => ?_)
    · have hd := hd.1 hb54
      refine .f [16] rfl (by kernel_rfl) rfl rfl (fun ex => .gyes rfl rfl hb54 (.fieldAddr Try.underlying48 rfl Try.sizeOf22 rfl (o := 0) rfl rfl rfl .mk)) ?_
      refine .f [17, 16] rfl (by kernel_rfl) rfl rfl (fun ex => .gyes rfl rfl hb54 (.load1 Try.isAgg22 rfl (.s (.s (.s (.s (.s (.s .z)))))) rfl rfl rfl .mk)) ?_
      refine .f [16] rfl (by kernel_rfl) rfl rfl (fun ex => .gyes rfl rfl hb54 (.fieldAddr Try.underlying48 rfl Try.sizeOf42 rfl (o := 1) rfl rfl rfl .mk)) ?_
      refine .f [20, 16] rfl (by kernel_rfl) rfl rfl (fun ex => .gyes rfl rfl hb54 (.load1 Try.isAgg42 rfl (.s (.s (.s (.s (.s (.s .z)))))) rfl rfl rfl .mk)) ?_
      refine .f [21, 16] rfl (by kernel_rfl) rfl rfl (fun ex => .gyes rfl rfl hb54 (.nilCheckP rfl rfl rfl .mk)) ?_
      refine .f [22, 16] rfl (by kernel_rfl) rfl rfl (fun ex => .gyes rfl rfl hb54 (.fieldAddr Try.underlying68 rfl Try.sizeOf3 rfl (o := 1) rfl rfl rfl .mk)) ?_
      refine .f [23, 16] rfl (by kernel_rfl) rfl rfl (fun ex => .gyes rfl rfl hb54 (.load1 Try.isAgg3 rfl .z rfl rfl rfl .mk)) ?_
      refine .w [24, 23, 22, 21, 20] [[], [18], [], [16], [15, 16]] [18, 16, 16] rfl (by kernel_rfl) (by kernel_rfl) (by kernel_rfl) ((dropE_kept rfl rfl)) (.inr (dropE_kept rfl rfl)) fun ex => ?_
      have hw55 := W_post_Box_Sent_i14 (I := I47) (o0 := o0) (b2 := b3) (p3 := p4) (c4 := c5) (b8 := b9) (b10 := b11) hd
      refine .gyes rfl rfl hb54 (.callS (.f Try.call13 rfl) (.c (.s (.s .z)) (.c (.s (.s .z)) (.c (.s (.s .z)) (.c (.s (.s .z)) .n)))) hw55 rfl rfl fun v59 I56 l60 hl57 hv58 => ?_)
      obtain ⟨r61, rfl, rfl, hd⟩ := hv58
      have le62 := IH.le.trans le53 hl57
      refine .re (m' := (pto b3 (.cells #[.int .i64 o0.room, .slice p4 o0.row.length c5, .map (some b9), .map (some b11), .int .i64 o0.sent, .int .i64 o0.taken] 60 (0, 0))) :: (OwnSl eI64 3 p4 c5 o0.row) :: (OwnMap (Value.int .i64) eFrame true b9 o0.by_) :: (OwnMap (Value.int .i64) eI64 false b11 o0.often) :: (pto b12 (.cells #[.int .i64 o1.Many, .int .i64 o1.Out, .int .i64 o1.In, .slice p13 o1.L.length c14] 68 (0, 0))) :: (OwnSl eFrame 34 p13 c14 o1.L) :: (pto b19 (.cells #[.pointer (some ⟨b3, 0, none⟩), .pointer (some ⟨b12, 0, none⟩)] 48 (0, 0))) :: ex) rfl ?_
      refine .some (fun ex => (pto b3 (.cells #[.int .i64 o0.room, .slice p4 o0.row.length c5, .map (some b9), .map (some b11), .int .i64 o0.sent, .int .i64 o0.taken] 60 (0, 0))) :: (OwnSl eI64 3 p4 c5 o0.row) :: (OwnMap (Value.int .i64) eFrame true b9 o0.by_) :: (OwnMap (Value.int .i64) eI64 false b11 o0.often) :: (pto b12 (.cells #[.int .i64 o1.Many, .int .i64 o1.Out, .int .i64 o1.In, .slice p13 o1.L.length c14] 68 (0, 0))) :: (OwnSl eFrame 34 p13 c14 o1.L) :: (pto b19 (.cells #[.pointer (some ⟨b3, 0, none⟩), .pointer (some ⟨b12, 0, none⟩)] 48 (0, 0))) :: ex) rfl (fun _ _ => (.s (.s (.s (.s (.s (.s (.s .z)))))))) rfl (.cc [23, 16] rfl (by kernel_rfl) rfl rfl rfl (fun ex => .gyes rfl rfl hb54 (.load1 Try.isAgg3 rfl (.s (.s (.s (.s .z)))) rfl rfl rfl .mk)) (.cc [22, 16] rfl (by kernel_rfl) rfl rfl rfl (fun ex => .gyes rfl rfl hb54 (.fieldAddr Try.underlying68 rfl Try.sizeOf3 rfl (o := 1) rfl rfl rfl .mk)) (.cc [21, 16] rfl (by kernel_rfl) rfl rfl rfl (fun ex => .gyes rfl rfl hb54 (.nilCheckP rfl rfl rfl .mk)) (.cc [20, 16] rfl (by kernel_rfl) rfl rfl rfl (fun ex => .gyes rfl rfl hb54 (.load1 Try.isAgg42 rfl (.s (.s (.s (.s (.s (.s .z)))))) rfl rfl rfl .mk)) (.cc [16] rfl (by kernel_rfl) rfl rfl rfl (fun ex => .gyes rfl rfl hb54 (.fieldAddr Try.underlying48 rfl Try.sizeOf42 rfl (o := 1) rfl rfl rfl .mk)) trivial))))) ?_
      refine .f [19, 24, 16] rfl (by kernel_rfl) rfl rfl (fun ex => .gyes rfl rfl hb54 (.eq rfl rfl rfl rfl .mk)) ?_
      refine .f [16, 25] rfl (by kernel_rfl) rfl rfl (fun ex => .pickT rfl hb54 rfl rfl rfl .mk) ?_
      refine .f [26, 19] rfl (by kernel_rfl) rfl rfl (fun ex => .move rfl rfl rfl .mk) ?_
      refine split (r61 == o1.Out) (fun hb63 => ?_) (fun hb63 => ?_)
      · have hd := hd.1 hb63
        refine .f [27] rfl (by kernel_rfl) rfl rfl (fun ex => .gyes rfl rfl hb63 (.fieldAddr Try.underlying48 rfl Try.sizeOf22 rfl (o := 0) rfl rfl rfl .mk)) ?_
        refine .f [28, 27] rfl (by kernel_rfl) rfl rfl (fun ex => .gyes rfl rfl hb63 (.load1 Try.isAgg22 rfl (.s (.s (.s (.s (.s (.s .z)))))) rfl rfl rfl .mk)) ?_
        refine .f [27] rfl (by kernel_rfl) rfl rfl (fun ex => .gyes rfl rfl hb63 (.fieldAddr Try.underlying48 rfl Try.sizeOf42 rfl (o := 1) rfl rfl rfl .mk)) ?_
        refine .f [31, 27] rfl (by kernel_rfl) rfl rfl (fun ex => .gyes rfl rfl hb63 (.load1 Try.isAgg42 rfl (.s (.s (.s (.s (.s (.s .z)))))) rfl rfl rfl .mk)) ?_
        refine .f [32, 27] rfl (by kernel_rfl) rfl rfl (fun ex => .gyes rfl rfl hb63 (.nilCheckP rfl rfl rfl .mk)) ?_
        refine .f [33, 27] rfl (by kernel_rfl) rfl rfl (fun ex => .gyes rfl rfl hb63 (.fieldAddr Try.underlying68 rfl Try.sizeOf3 rfl (o := 2) rfl rfl rfl .mk)) ?_
        refine .f [34, 27] rfl (by kernel_rfl) rfl rfl (fun ex => .gyes rfl rfl hb63 (.load1 Try.isAgg3 rfl (.s (.s (.s (.s .z)))) rfl rfl rfl .mk)) ?_
        refine .w [35, 34, 33, 32, 31] [[], [29], [], [27], [26, 27], [25, 26, 27], [24, 25, 26, 27], [23, 24, 25, 26, 27], [22, 23, 24, 25, 26, 27], [21, 22, 23, 24, 25, 26, 27]] [29, 27, 27] rfl (by kernel_rfl) (by kernel_rfl) (by kernel_rfl) ((dropE_kept rfl rfl)) (.inr (dropE_kept rfl rfl)) fun ex => ?_
        have hw64 := W_post_Box_Taken_i15 (I := I56) (o0 := o0) (b2 := b3) (p3 := p4) (c4 := c5) (b8 := b9) (b10 := b11) hd
        refine .gyes rfl rfl hb63 (.callS (.f Try.call17 rfl) (.c .z (.c .z (.c .z (.c .z .n)))) hw64 rfl rfl fun v68 I65 l69 hl66 hv67 => ?_)
        obtain ⟨r70, rfl, rfl, hd⟩ := hv67
        have le71 := IH.le.trans le62 hl66
        refine .re (m' := (pto b3 (.cells #[.int .i64 o0.room, .slice p4 o0.row.length c5, .map (some b9), .map (some b11), .int .i64 o0.sent, .int .i64 o0.taken] 60 (0, 0))) :: (OwnSl eI64 3 p4 c5 o0.row) :: (OwnMap (Value.int .i64) eFrame true b9 o0.by_) :: (OwnMap (Value.int .i64) eI64 false b11 o0.often) :: (pto b12 (.cells #[.int .i64 o1.Many, .int .i64 o1.Out, .int .i64 o1.In, .slice p13 o1.L.length c14] 68 (0, 0))) :: (OwnSl eFrame 34 p13 c14 o1.L) :: (pto b19 (.cells #[.pointer (some ⟨b3, 0, none⟩), .pointer (some ⟨b12, 0, none⟩)] 48 (0, 0))) :: ex) rfl ?_
        refine .some (fun ex => (pto b3 (.cells #[.int .i64 o0.room, .slice p4 o0.row.length c5, .map (some b9), .map (some b11), .int .i64 o0.sent, .int .i64 o0.taken] 60 (0, 0))) :: (OwnSl eI64 3 p4 c5 o0.row) :: (OwnMap (Value.int .i64) eFrame true b9 o0.by_) :: (OwnMap (Value.int .i64) eI64 false b11 o0.often) :: (pto b12 (.cells #[.int .i64 o1.Many, .int .i64 o1.Out, .int .i64 o1.In, .slice p13 o1.L.length c14] 68 (0, 0))) :: (OwnSl eFrame 34 p13 c14 o1.L) :: (pto b19 (.cells #[.pointer (some ⟨b3, 0, none⟩), .pointer (some ⟨b12, 0, none⟩)] 48 (0, 0))) :: ex) rfl (fun _ _ => (.s (.s (.s (.s (.s (.s (.s .z)))))))) rfl (.cc [34, 27] rfl (by kernel_rfl) rfl rfl rfl (fun ex => .gyes rfl rfl hb63 (.load1 Try.isAgg3 rfl (.s (.s (.s (.s .z)))) rfl rfl rfl .mk)) (.cc [33, 27] rfl (by kernel_rfl) rfl rfl rfl (fun ex => .gyes rfl rfl hb63 (.fieldAddr Try.underlying68 rfl Try.sizeOf3 rfl (o := 2) rfl rfl rfl .mk)) (.cc [32, 27] rfl (by kernel_rfl) rfl rfl rfl (fun ex => .gyes rfl rfl hb63 (.nilCheckP rfl rfl rfl .mk)) (.cc [31, 27] rfl (by kernel_rfl) rfl rfl rfl (fun ex => .gyes rfl rfl hb63 (.load1 Try.isAgg42 rfl (.s (.s (.s (.s (.s (.s .z)))))) rfl rfl rfl .mk)) (.cc [27] rfl (by kernel_rfl) rfl rfl rfl (fun ex => .gyes rfl rfl hb63 (.fieldAddr Try.underlying48 rfl Try.sizeOf42 rfl (o := 1) rfl rfl rfl .mk)) trivial))))) ?_
        refine .f [30, 35, 27] rfl (by kernel_rfl) rfl rfl (fun ex => .gyes rfl rfl hb63 (.eq rfl rfl rfl rfl .mk)) ?_
        refine .f [27, 36] rfl (by kernel_rfl) rfl rfl (fun ex => .pickT rfl hb63 rfl rfl rfl .mk) ?_
        refine .f [37, 30] rfl (by kernel_rfl) rfl rfl (fun ex => .move rfl rfl rfl .mk) ?_
        refine split (r70 == o1.In) (fun hb72 => ?_) (fun hb72 => ?_)
        · have hd := hd.1 hb72
          refine .f [38] rfl (by kernel_rfl) rfl rfl (fun ex => .gyes rfl rfl hb72 (.fieldAddr Try.underlying48 rfl Try.sizeOf22 rfl (o := 0) rfl rfl rfl .mk)) ?_
          refine .f [39, 38] rfl (by kernel_rfl) rfl rfl (fun ex => .gyes rfl rfl hb72 (.load1 Try.isAgg22 rfl (.s (.s (.s (.s (.s (.s .z)))))) rfl rfl rfl .mk)) ?_
          refine .f [38] rfl (by kernel_rfl) rfl rfl (fun ex => .gyes rfl rfl hb72 (.fieldAddr Try.underlying48 rfl Try.sizeOf42 rfl (o := 1) rfl rfl rfl .mk)) ?_
          refine .f [42, 38] rfl (by kernel_rfl) rfl rfl (fun ex => .gyes rfl rfl hb72 (.load1 Try.isAgg42 rfl (.s (.s (.s (.s (.s (.s .z)))))) rfl rfl rfl .mk)) ?_
          refine .w [43, 42] [[], [40], [], [38], [37, 38], [36, 37, 38], [35, 36, 37, 38], [34, 35, 36, 37, 38], [33, 34, 35, 36, 37, 38], [32, 33, 34, 35, 36, 37, 38]] [40, 38, 38] rfl (by kernel_rfl) (by kernel_rfl) (by kernel_rfl) ((dropE_kept rfl rfl)) (.inr (dropE_kept rfl rfl)) fun ex => ?_
          have hw73 := W_post_Box_Frames_i16 (I := I65) (o0 := o0) (b2 := b3) (p3 := p4) (c4 := c5) (b8 := b9) (b10 := b11) hd
          refine .gyes rfl rfl hb72 (.callS (.f Try.call18 rfl) (.c .z (.c .z (.c .z (.c .z .n)))) hw73 rfl rfl fun v77 I74 l78 hl75 hv76 => ?_)
          obtain ⟨r79, p80, c81, rfl, R82, rfl, hd⟩ := hv76
          have le83 := IH.le.trans le71 hl75
          refine .re (m' := (pto b3 (.cells #[.int .i64 o0.room, .slice p4 o0.row.length c5, .map (some b9), .map (some b11), .int .i64 o0.sent, .int .i64 o0.taken] 60 (0, 0))) :: (OwnSl eI64 3 p4 c5 o0.row) :: (OwnMap (Value.int .i64) eFrame true b9 o0.by_) :: (OwnMap (Value.int .i64) eI64 false b11 o0.often) :: (pto b12 (.cells #[.int .i64 o1.Many, .int .i64 o1.Out, .int .i64 o1.In, .slice p13 o1.L.length c14] 68 (0, 0))) :: (OwnSl eFrame 34 p13 c14 o1.L) :: (pto b19 (.cells #[.pointer (some ⟨b3, 0, none⟩), .pointer (some ⟨b12, 0, none⟩)] 48 (0, 0))) :: ex) rfl ?_
          refine .some (fun ex => (pto b3 (.cells #[.int .i64 o0.room, .slice p4 o0.row.length c5, .map (some b9), .map (some b11), .int .i64 o0.sent, .int .i64 o0.taken] 60 (0, 0))) :: (OwnSl eI64 3 p4 c5 o0.row) :: (OwnMap (Value.int .i64) eFrame true b9 o0.by_) :: (OwnMap (Value.int .i64) eI64 false b11 o0.often) :: (pto b12 (.cells #[.int .i64 o1.Many, .int .i64 o1.Out, .int .i64 o1.In, .slice p13 o1.L.length c14] 68 (0, 0))) :: (OwnSl eFrame 34 p13 c14 o1.L) :: (pto b19 (.cells #[.pointer (some ⟨b3, 0, none⟩), .pointer (some ⟨b12, 0, none⟩)] 48 (0, 0))) :: ex) rfl (fun _ _ => (.s (.s (.s (.s (.s (.s (.s .z)))))))) rfl (.cc [42, 38] rfl (by kernel_rfl) rfl rfl rfl (fun ex => .gyes rfl rfl hb72 (.load1 Try.isAgg42 rfl (.s (.s (.s (.s (.s (.s .z)))))) rfl rfl rfl .mk)) (.cc [38] rfl (by kernel_rfl) rfl rfl rfl (fun ex => .gyes rfl rfl hb72 (.fieldAddr Try.underlying48 rfl Try.sizeOf42 rfl (o := 1) rfl rfl rfl .mk)) trivial)) ?_
          refine .w [] [[], [43]] [43, 41, 38] rfl (by kernel_rfl) (by kernel_rfl) (by kernel_rfl) ((dropE_kept rfl rfl)) (.inr (dropE_kept rfl rfl)) fun ex => ?_
          have hw84 := W_ref20_Box_Frames_i41 (I := I74) (o0 := o1) (b2 := b12) (p3 := p13) (c4 := c14) hd
          refine .gyes rfl rfl hb72 (.callS (.f Try.call39 rfl) (.c (.s (.s (.s (.s .z)))) (.c (.s (.s (.s (.s .z)))) .n)) hw84 rfl rfl fun v88 I85 l89 hl86 hv87 => ?_)
          obtain ⟨r90, p91, c92, rfl, R93, rfl, hd⟩ := hv87
          have le94 := IH.le.trans le83 hl86
          replace R82 := R82.mono hl86
          refine .re (m' := (pto b12 (.cells #[.int .i64 o1.Many, .int .i64 o1.Out, .int .i64 o1.In, .slice p13 o1.L.length c14] 68 (0, 0))) :: (OwnSl eFrame 34 p13 c14 o1.L) :: (pto b3 (.cells #[.int .i64 o0.room, .slice p4 o0.row.length c5, .map (some b9), .map (some b11), .int .i64 o0.sent, .int .i64 o0.taken] 60 (0, 0))) :: (OwnSl eI64 3 p4 c5 o0.row) :: (OwnMap (Value.int .i64) eFrame true b9 o0.by_) :: (OwnMap (Value.int .i64) eI64 false b11 o0.often) :: (pto b19 (.cells #[.pointer (some ⟨b3, 0, none⟩), .pointer (some ⟨b12, 0, none⟩)] 48 (0, 0))) :: ex) rfl ?_
          refine .some (fun ex => (pto b12 (.cells #[.int .i64 o1.Many, .int .i64 o1.Out, .int .i64 o1.In, .slice p13 o1.L.length c14] 68 (0, 0))) :: (OwnSl eFrame 34 p13 c14 o1.L) :: (pto b3 (.cells #[.int .i64 o0.room, .slice p4 o0.row.length c5, .map (some b9), .map (some b11), .int .i64 o0.sent, .int .i64 o0.taken] 60 (0, 0))) :: (OwnSl eI64 3 p4 c5 o0.row) :: (OwnMap (Value.int .i64) eFrame true b9 o0.by_) :: (OwnMap (Value.int .i64) eI64 false b11 o0.often) :: (pto b19 (.cells #[.pointer (some ⟨b3, 0, none⟩), .pointer (some ⟨b12, 0, none⟩)] 48 (0, 0))) :: ex) rfl (fun _ _ => (.s (.s (.s (.s (.s (.s (.s .z)))))))) rfl trivial ?_
          refine .w [] [] [41, 44, 44, 38] rfl (by kernel_rfl) (by kernel_rfl) (by kernel_rfl) ((dropE_kept rfl rfl)) (.inr (dropE_kept rfl rfl)) fun ex => ?_
          have hw101 := W_ref19_SameFrames (I := I85) R82 R93 hd
          refine .gyes rfl rfl hb72 (.call Try.call38 rfl hw101 rfl rfl fun v99 I96 hl97 hv98 => ?_)
          obtain ⟨r95, rfl, hd⟩ := hv98
          have le102 := IH.le.trans le94 hl97
          replace R82 := R82.mono hl97
          replace R93 := R93.mono hl97
          refine .some (fun ex => (pto b12 (.cells #[.int .i64 o1.Many, .int .i64 o1.Out, .int .i64 o1.In, .slice p13 o1.L.length c14] 68 (0, 0))) :: (OwnSl eFrame 34 p13 c14 o1.L) :: (pto b3 (.cells #[.int .i64 o0.room, .slice p4 o0.row.length c5, .map (some b9), .map (some b11), .int .i64 o0.sent, .int .i64 o0.taken] 60 (0, 0))) :: (OwnSl eI64 3 p4 c5 o0.row) :: (OwnMap (Value.int .i64) eFrame true b9 o0.by_) :: (OwnMap (Value.int .i64) eI64 false b11 o0.often) :: (pto b19 (.cells #[.pointer (some ⟨b3, 0, none⟩), .pointer (some ⟨b12, 0, none⟩)] 48 (0, 0))) :: ex) rfl (fun _ _ => (.s (.s (.s (.s (.s (.s (.s .z)))))))) rfl trivial ?_
          refine .f [38, 45] rfl (by kernel_rfl) rfl rfl (fun ex => .pickT rfl hb72 rfl rfl rfl .mk) ?_
          refine .e 47 (by kernel_rfl) (by kernel_rfl) (by kernel_rfl) ?_
          refine .skips 1 rfl ?_
          refine .nil' fun c w ho hs => Cod.at (E := [(0, _), (2, _)]) (ho.sub ⟨rfl, rfl, trivial⟩) hs ?_
          refine .drop (.s (.s (.s (.s (.s (.s .z)))))) ?_
          exact .ret (oret Try.results20 (.t rfl .n) le102 (.c (.s (.s .z)) (.c (.s (.s .z)) (.c (.s (.s .z)) (.c (.s (.s .z)) (.c .z (.c .z .n)))))) ⟨r95, rfl, rfl, hd⟩)
        · have hd := hd.2 hb72
          refine .f [38] rfl (by kernel_rfl) rfl rfl (fun ex => .gno rfl rfl hb72 rfl rfl .mk) ?_
          refine .f [39, 38] rfl (by kernel_rfl) rfl rfl (fun ex => .gno rfl rfl hb72 rfl rfl .mk) ?_
          refine .f [38] rfl (by kernel_rfl) rfl rfl (fun ex => .gno rfl rfl hb72 rfl rfl .mk) ?_
          refine .f [42, 38] rfl (by kernel_rfl) rfl rfl (fun ex => .gno rfl rfl hb72 rfl rfl .mk) ?_
          refine .f [40, 38, 38] rfl (by kernel_rfl) rfl rfl (fun ex => .gno rfl rfl hb72 rfl rfl .mk) ?_
          refine .f [43, 41, 38] rfl (by kernel_rfl) rfl rfl (fun ex => .gno rfl rfl hb72 rfl rfl .mk) ?_
          refine .f [41, 44, 44, 38] rfl (by kernel_rfl) rfl rfl (fun ex => .gno rfl rfl hb72 rfl rfl .mk) ?_
          refine .f [38, 45] rfl (by kernel_rfl) rfl rfl (fun ex => .pickF rfl hb72 rfl rfl rfl .mk) ?_
          refine .e 47 (by kernel_rfl) (by kernel_rfl) (by kernel_rfl) ?_
          refine .skips 1 rfl ?_
          refine .nil' fun c w ho hs => Cod.at (E := [(0, _), (2, _)]) (ho.sub ⟨rfl, rfl, trivial⟩) hs ?_
          refine .drop (.s (.s (.s (.s (.s (.s .z)))))) ?_
          exact .ret (oret Try.results20 (.t rfl .n) le71 (.c .z (.c .z (.c .z (.c .z (.c .z (.c .z .n)))))) ⟨false, rfl, rfl, hd⟩)
      · have hd := hd.2 hb63
        refine .f [27] rfl (by kernel_rfl) rfl rfl (fun ex => .gno rfl rfl hb63 rfl rfl .mk) ?_
        refine .f [28, 27] rfl (by kernel_rfl) rfl rfl (fun ex => .gno rfl rfl hb63 rfl rfl .mk) ?_
        refine .f [27] rfl (by kernel_rfl) rfl rfl (fun ex => .gno rfl rfl hb63 rfl rfl .mk) ?_
        refine .f [31, 27] rfl (by kernel_rfl) rfl rfl (fun ex => .gno rfl rfl hb63 rfl rfl .mk) ?_
        refine .f [32, 27] rfl (by kernel_rfl) rfl rfl (fun ex => .gno rfl rfl hb63 rfl rfl .mk) ?_
        refine .f [33, 27] rfl (by kernel_rfl) rfl rfl (fun ex => .gno rfl rfl hb63 rfl rfl .mk) ?_
        refine .f [34, 27] rfl (by kernel_rfl) rfl rfl (fun ex => .gno rfl rfl hb63 rfl rfl .mk) ?_
        refine .f [29, 27, 27] rfl (by kernel_rfl) rfl rfl (fun ex => .gno rfl rfl hb63 rfl rfl .mk) ?_
        refine .f [30, 35, 27] rfl (by kernel_rfl) rfl rfl (fun ex => .gno rfl rfl hb63 rfl rfl .mk) ?_
        refine .f [27, 36] rfl (by kernel_rfl) rfl rfl (fun ex => .pickF rfl hb63 rfl rfl rfl .mk) ?_
        refine .f [37, 30] rfl (by kernel_rfl) rfl rfl (fun ex => .move rfl rfl rfl .mk) ?_
        refine .f [38] rfl (by kernel_rfl) rfl rfl (fun ex => .gno rfl rfl rfl rfl rfl .mk) ?_
        refine .f [39, 38] rfl (by kernel_rfl) rfl rfl (fun ex => .gno rfl rfl rfl rfl rfl .mk) ?_
        refine .f [38] rfl (by kernel_rfl) rfl rfl (fun ex => .gno rfl rfl rfl rfl rfl .mk) ?_
        refine .f [42, 38] rfl (by kernel_rfl) rfl rfl (fun ex => .gno rfl rfl rfl rfl rfl .mk) ?_
        refine .f [40, 38, 38] rfl (by kernel_rfl) rfl rfl (fun ex => .gno rfl rfl rfl rfl rfl .mk) ?_
        refine .f [43, 41, 38] rfl (by kernel_rfl) rfl rfl (fun ex => .gno rfl rfl rfl rfl rfl .mk) ?_
        refine .f [41, 44, 44, 38] rfl (by kernel_rfl) rfl rfl (fun ex => .gno rfl rfl rfl rfl rfl .mk) ?_
        refine .f [38, 45] rfl (by kernel_rfl) rfl rfl (fun ex => .pickF rfl rfl rfl rfl rfl .mk) ?_
        refine .e 47 (by kernel_rfl) (by kernel_rfl) (by kernel_rfl) ?_
        refine .skips 1 rfl ?_
        refine .nil' fun c w ho hs => Cod.at (E := [(0, _), (2, _)]) (ho.sub ⟨rfl, rfl, trivial⟩) hs ?_
        refine .drop (.s (.s (.s (.s (.s (.s .z)))))) ?_
        exact .ret (oret Try.results20 (.t rfl .n) le62 (.c .z (.c .z (.c .z (.c .z (.c .z (.c .z .n)))))) ⟨false, rfl, rfl, hd⟩)
    · have hd := hd.2 hb54
      refine .f [16] rfl (by kernel_rfl) rfl rfl (fun ex => .gno rfl rfl hb54 rfl rfl .mk) ?_
      refine .f [17, 16] rfl (by kernel_rfl) rfl rfl (fun ex => .gno rfl rfl hb54 rfl rfl .mk) ?_
      refine .f [16] rfl (by kernel_rfl) rfl rfl (fun ex => .gno rfl rfl hb54 rfl rfl .mk) ?_
      refine .f [20, 16] rfl (by kernel_rfl) rfl rfl (fun ex => .gno rfl rfl hb54 rfl rfl .mk) ?_
      refine .f [21, 16] rfl (by kernel_rfl) rfl rfl (fun ex => .gno rfl rfl hb54 rfl rfl .mk) ?_
      refine .f [22, 16] rfl (by kernel_rfl) rfl rfl (fun ex => .gno rfl rfl hb54 rfl rfl .mk) ?_
      refine .f [23, 16] rfl (by kernel_rfl) rfl rfl (fun ex => .gno rfl rfl hb54 rfl rfl .mk) ?_
      refine .f [18, 16, 16] rfl (by kernel_rfl) rfl rfl (fun ex => .gno rfl rfl hb54 rfl rfl .mk) ?_
      refine .f [19, 24, 16] rfl (by kernel_rfl) rfl rfl (fun ex => .gno rfl rfl hb54 rfl rfl .mk) ?_
      refine .f [16, 25] rfl (by kernel_rfl) rfl rfl (fun ex => .pickF rfl hb54 rfl rfl rfl .mk) ?_
      refine .f [26, 19] rfl (by kernel_rfl) rfl rfl (fun ex => .move rfl rfl rfl .mk) ?_
      refine .f [27] rfl (by kernel_rfl) rfl rfl (fun ex => .gno rfl rfl rfl rfl rfl .mk) ?_
      refine .f [28, 27] rfl (by kernel_rfl) rfl rfl (fun ex => .gno rfl rfl rfl rfl rfl .mk) ?_
      refine .f [27] rfl (by kernel_rfl) rfl rfl (fun ex => .gno rfl rfl rfl rfl rfl .mk) ?_
      refine .f [31, 27] rfl (by kernel_rfl) rfl rfl (fun ex => .gno rfl rfl rfl rfl rfl .mk) ?_
      refine .f [32, 27] rfl (by kernel_rfl) rfl rfl (fun ex => .gno rfl rfl rfl rfl rfl .mk) ?_
      refine .f [33, 27] rfl (by kernel_rfl) rfl rfl (fun ex => .gno rfl rfl rfl rfl rfl .mk) ?_
      refine .f [34, 27] rfl (by kernel_rfl) rfl rfl (fun ex => .gno rfl rfl rfl rfl rfl .mk) ?_
      refine .f [29, 27, 27] rfl (by kernel_rfl) rfl rfl (fun ex => .gno rfl rfl rfl rfl rfl .mk) ?_
      refine .f [30, 35, 27] rfl (by kernel_rfl) rfl rfl (fun ex => .gno rfl rfl rfl rfl rfl .mk) ?_
      refine .f [27, 36] rfl (by kernel_rfl) rfl rfl (fun ex => .pickF rfl rfl rfl rfl rfl .mk) ?_
      refine .f [37, 30] rfl (by kernel_rfl) rfl rfl (fun ex => .move rfl rfl rfl .mk) ?_
      refine .f [38] rfl (by kernel_rfl) rfl rfl (fun ex => .gno rfl rfl rfl rfl rfl .mk) ?_
      refine .f [39, 38] rfl (by kernel_rfl) rfl rfl (fun ex => .gno rfl rfl rfl rfl rfl .mk) ?_
      refine .f [38] rfl (by kernel_rfl) rfl rfl (fun ex => .gno rfl rfl rfl rfl rfl .mk) ?_
      refine .f [42, 38] rfl (by kernel_rfl) rfl rfl (fun ex => .gno rfl rfl rfl rfl rfl .mk) ?_
      refine .f [40, 38, 38] rfl (by kernel_rfl) rfl rfl (fun ex => .gno rfl rfl rfl rfl rfl .mk) ?_
      refine .f [43, 41, 38] rfl (by kernel_rfl) rfl rfl (fun ex => .gno rfl rfl rfl rfl rfl .mk) ?_
      refine .f [41, 44, 44, 38] rfl (by kernel_rfl) rfl rfl (fun ex => .gno rfl rfl rfl rfl rfl .mk) ?_
      refine .f [38, 45] rfl (by kernel_rfl) rfl rfl (fun ex => .pickF rfl rfl rfl rfl rfl .mk) ?_
      refine .e 47 (by kernel_rfl) (by kernel_rfl) (by kernel_rfl) ?_
      refine .skips 1 rfl ?_
      refine .nil' fun c w ho hs => Cod.at (E := [(0, _), (2, _)]) (ho.sub ⟨rfl, rfl, trivial⟩) hs ?_
      refine .drop (.s (.s (.s (.s (.s (.s .z)))))) ?_
      exact .ret (oret Try.results20 (.t rfl .n) le53 (.c (.s (.s .z)) (.c (.s (.s .z)) (.c (.s (.s .z)) (.c (.s (.s .z)) (.c .z (.c .z .n)))))) ⟨false, rfl, rfl, hd⟩)
  · have hd := hd.2 hb37
    refine .f [7] rfl (by kernel_rfl) rfl rfl (fun ex => .gno rfl rfl hb37 rfl rfl .mk) ?_
    refine .f [8, 7] rfl (by kernel_rfl) rfl rfl (fun ex => .gno rfl rfl hb37 rfl rfl .mk) ?_
    refine .f [7] rfl (by kernel_rfl) rfl rfl (fun ex => .gno rfl rfl hb37 rfl rfl .mk) ?_
    refine .f [11, 7] rfl (by kernel_rfl) rfl rfl (fun ex => .gno rfl rfl hb37 rfl rfl .mk) ?_
    refine .f [9, 7, 7] rfl (by kernel_rfl) rfl rfl (fun ex => .gno rfl rfl hb37 rfl rfl .mk) ?_
    refine .f [12, 10, 7] rfl (by kernel_rfl) rfl rfl (fun ex => .gno rfl rfl hb37 rfl rfl .mk) ?_
    refine .f [10, 13, 7] rfl (by kernel_rfl) rfl rfl (fun ex => .gno rfl rfl hb37 rfl rfl .mk) ?_
    refine .f [7, 14] rfl (by kernel_rfl) rfl rfl (fun ex => .pickF rfl hb37 rfl rfl rfl .mk) ?_
    refine .f [15, 13] rfl (by kernel_rfl) rfl rfl (fun ex => .move rfl rfl rfl .mk) ?_
    refine .f [16] rfl (by kernel_rfl) rfl rfl (fun ex => .gno rfl rfl rfl rfl rfl .mk) ?_
    refine .f [17, 16] rfl (by kernel_rfl) rfl rfl (fun ex => .gno rfl rfl rfl rfl rfl .mk) ?_
    refine .f [16] rfl (by kernel_rfl) rfl rfl (fun ex => .gno rfl rfl rfl rfl rfl .mk) ?_
    refine .f [20, 16] rfl (by kernel_rfl) rfl rfl (fun ex => .gno rfl rfl rfl rfl rfl .mk) ?_
    refine .f [21, 16] rfl (by kernel_rfl) rfl rfl (fun ex => .gno rfl rfl rfl rfl rfl .mk) ?_
    refine .f [22, 16] rfl (by kernel_rfl) rfl rfl (fun ex => .gno rfl rfl rfl rfl rfl .mk) ?_
    refine .f [23, 16] rfl (by kernel_rfl) rfl rfl (fun ex => .gno rfl rfl rfl rfl rfl .mk) ?_
    refine .f [18, 16, 16] rfl (by kernel_rfl) rfl rfl (fun ex => .gno rfl rfl rfl rfl rfl .mk) ?_
    refine .f [19, 24, 16] rfl (by kernel_rfl) rfl rfl (fun ex => .gno rfl rfl rfl rfl rfl .mk) ?_
    refine .f [16, 25] rfl (by kernel_rfl) rfl rfl (fun ex => .pickF rfl rfl rfl rfl rfl .mk) ?_
    refine .f [26, 19] rfl (by kernel_rfl) rfl rfl (fun ex => .move rfl rfl rfl .mk) ?_
    refine .f [27] rfl (by kernel_rfl) rfl rfl (fun ex => .gno rfl rfl rfl rfl rfl .mk) ?_
    refine .f [28, 27] rfl (by kernel_rfl) rfl rfl (fun ex => .gno rfl rfl rfl rfl rfl .mk) ?_
    refine .f [27] rfl (by kernel_rfl) rfl rfl (fun ex => .gno rfl rfl rfl rfl rfl .mk) ?_
    refine .f [31, 27] rfl (by kernel_rfl) rfl rfl (fun ex => .gno rfl rfl rfl rfl rfl .mk) ?_
    refine .f [32, 27] rfl (by kernel_rfl) rfl rfl (fun ex => .gno rfl rfl rfl rfl rfl .mk) ?_
    refine .f [33, 27] rfl (by kernel_rfl) rfl rfl (fun ex => .gno rfl rfl rfl rfl rfl .mk) ?_
    refine .f [34, 27] rfl (by kernel_rfl) rfl rfl (fun ex => .gno rfl rfl rfl rfl rfl .mk) ?_
    refine .f [29, 27, 27] rfl (by kernel_rfl) rfl rfl (fun ex => .gno rfl rfl rfl rfl rfl .mk) ?_
    refine .f [30, 35, 27] rfl (by kernel_rfl) rfl rfl (fun ex => .gno rfl rfl rfl rfl rfl .mk) ?_
    refine .f [27, 36] rfl (by kernel_rfl) rfl rfl (fun ex => .pickF rfl rfl rfl rfl rfl .mk) ?_
    refine .f [37, 30] rfl (by kernel_rfl) rfl rfl (fun ex => .move rfl rfl rfl .mk) ?_
    refine .f [38] rfl (by kernel_rfl) rfl rfl (fun ex => .gno rfl rfl rfl rfl rfl .mk) ?_
    refine .f [39, 38] rfl (by kernel_rfl) rfl rfl (fun ex => .gno rfl rfl rfl rfl rfl .mk) ?_
    refine .f [38] rfl (by kernel_rfl) rfl rfl (fun ex => .gno rfl rfl rfl rfl rfl .mk) ?_
    refine .f [42, 38] rfl (by kernel_rfl) rfl rfl (fun ex => .gno rfl rfl rfl rfl rfl .mk) ?_
    refine .f [40, 38, 38] rfl (by kernel_rfl) rfl rfl (fun ex => .gno rfl rfl rfl rfl rfl .mk) ?_
    refine .f [43, 41, 38] rfl (by kernel_rfl) rfl rfl (fun ex => .gno rfl rfl rfl rfl rfl .mk) ?_
    refine .f [41, 44, 44, 38] rfl (by kernel_rfl) rfl rfl (fun ex => .gno rfl rfl rfl rfl rfl .mk) ?_
    refine .f [38, 45] rfl (by kernel_rfl) rfl rfl (fun ex => .pickF rfl rfl rfl rfl rfl .mk) ?_
    refine .e 47 (by kernel_rfl) (by kernel_rfl) (by kernel_rfl) ?_
    refine .skips 1 rfl ?_
    refine .nil' fun c w ho hs => Cod.at (E := [(0, _), (2, _)]) (ho.sub ⟨rfl, rfl, trivial⟩) hs ?_
    refine .drop (.s (.s (.s (.s (.s (.s .z)))))) ?_
    exact .ret (oret Try.results20 (.t rfl .n) le36 (.c (.s (.s .z)) (.c (.s (.s .z)) (.c (.s (.s .z)) (.c (.s (.s .z)) (.c .z (.c .z .n)))))) ⟨false, rfl, rfl, hd⟩)

end Go.Proofs.Ytjpmbedipdkakaa
