/- The walks (printed by a program of ours). -/
import Derived.Test.YtindbiojednfbaaGreatVCsrAsks1
namespace Go.Proofs.YtindbiojednfbaaGreat
open Go Go.Fw
set_option linter.unusedVariables false
set_option linter.unusedSimpArgs false
set_option maxRecDepth 8000
set_option maxHeartbeats 1000000
theorem W_law07_CsrAsks {I : IH} {a0 : Rows} {a1 : Int × Int} {a2 : Int × Int} {p1 : Option Addr} {c2 : Nat} {p4 : Option Addr} {c5 : Nat} {p7 : Option Addr} {c8 : Nat} {Q : Bool → Prop} (R3 : RepSl eI64 I p1 c2 a0.Start) (R6 : RepSl eI64 I p4 c5 a0.Col) (R9 : RepSl eI64 I p7 c8 a0.Val) (hd : law07_CsrAsks a0 a1 a2 Q) :
    PFun Tryz.prog 4 [.agg #[.int .i64 a0.Rows, .int .i64 a0.Cols, .slice p1 a0.Start.length c2, .slice p4 a0.Col.length c5, .slice p7 a0.Val.length c8], .agg #[.int .i64 a1.1, .int .i64 a1.2], .agg #[.int .i64 a2.1, .int .i64 a2.2]] I (fun I_ v => ∃ r, v = .bool r ∧ Q r) := by
  refine Fun.enter Tryz.func4 rfl Tryz.ntmps4 rfl (.c (.c (.c .n))) fun w0 M => ?_
  refine .seq ?_
  refine .region ?_
  refine .boxA rfl rfl rfl fun b16 => ?_
  refine .boxA rfl rfl rfl fun b18 => ?_
  refine .boxA rfl rfl rfl fun b20 => ?_
  refine .skips 1 rfl ?_
  refine .nil' fun c w ho hs => Cod.at (E := [(3, _), (4, _), (5, _)]) (ho.sub ⟨rfl, rfl, rfl, trivial⟩) hs ?_
  refine .seq ?_
  refine .seq ?_
  refine .region ?_
  refine .fieldAddr Tryz.underlying29 rfl Tryz.sizeOf26 rfl (o := 2) rfl rfl rfl ?_
  refine .load1 Tryz.isAgg26 rfl (.s (.s .z)) rfl rfl rfl ?_
  refine .len Tryz.underlying26 rfl rfl rfl rfl ?_
  refine .gt rfl rfl rfl rfl ?_
  refine .skips 1 rfl ?_
  refine split (decide (60 < (a0.Start.length : Int))) (fun hb49 => ?_) (fun hb49 => ?_)
  · have hd := hd.1 hb49
    rw [hb49]
    refine .skips 11 rfl ?_
    refine .nil' fun c w ho hs => Cod.at (E := [(3, _), (4, _), (5, _), (26, _)]) (ho.sub ⟨rfl, rfl, rfl, rfl, trivial⟩) hs ?_
    refine .condKT rfl rfl ?_
    refine .seq ?_
    refine .region ?_
    have hw56 := W_law07_live (I := I) hd
    refine .call Tryz.call12 rfl hw56 rfl rfl fun v54 I51 hl52 hv53 => ?_
    obtain ⟨r50, rfl, hd⟩ := hv53
    have le57 := IH.le.trans (.refl _) hl52
    replace R3 := R3.mono hl52
    replace R6 := R6.mono hl52
    replace R9 := R9.mono hl52
    refine .skips 1 rfl ?_
    refine .nil' fun c w ho hs => Cod.at (E := [(6, _)]) (ho.sub ⟨rfl, trivial⟩) hs ?_
    refine .drop .z ?_
    refine .drop .z ?_
    refine .drop .z ?_
    exact .ret (pret Tryz.results4 (.t rfl .n) le57 ⟨r50, rfl, hd⟩)
  · have hd := hd.2 hb49
    rw [hb49]
    refine .gyes rfl rfl rfl (.fieldAddr Tryz.underlying29 rfl Tryz.sizeOf26 rfl (o := 3) rfl rfl rfl ?_)
    refine .gyes rfl rfl rfl (.load1 Tryz.isAgg26 rfl (.s (.s .z)) rfl rfl rfl ?_)
    refine .gyes rfl rfl rfl (.len Tryz.underlying26 rfl rfl rfl rfl ?_)
    refine .gyes rfl rfl rfl (.gt rfl rfl rfl rfl ?_)
    refine .skips 2 rfl ?_
    refine split (decide (80 < (a0.Col.length : Int))) (fun hb58 => ?_) (fun hb58 => ?_)
    · have hd := hd.1 hb58
      rw [hb58]
      refine .skips 5 rfl ?_
      refine .nil' fun c w ho hs => Cod.at (E := [(3, _), (4, _), (5, _), (26, _)]) (ho.sub ⟨rfl, rfl, rfl, rfl, trivial⟩) hs ?_
      refine .condKT rfl rfl ?_
      refine .seq ?_
      refine .region ?_
      have hw65 := W_law07_live (I := I) hd
      refine .call Tryz.call12 rfl hw65 rfl rfl fun v63 I60 hl61 hv62 => ?_
      obtain ⟨r59, rfl, hd⟩ := hv62
      have le66 := IH.le.trans (.refl _) hl61
      replace R3 := R3.mono hl61
      replace R6 := R6.mono hl61
      replace R9 := R9.mono hl61
      refine .skips 1 rfl ?_
      refine .nil' fun c w ho hs => Cod.at (E := [(6, _)]) (ho.sub ⟨rfl, trivial⟩) hs ?_
      refine .drop .z ?_
      refine .drop .z ?_
      refine .drop .z ?_
      exact .ret (pret Tryz.results4 (.t rfl .n) le66 ⟨r59, rfl, hd⟩)
    · have hd := hd.2 hb58
      rw [hb58]
      refine .gyes rfl rfl rfl (.fieldAddr Tryz.underlying29 rfl Tryz.sizeOf27 rfl (o := 4) rfl rfl rfl ?_)
      refine .gyes rfl rfl rfl (.load1 Tryz.isAgg27 rfl (.s (.s .z)) rfl rfl rfl ?_)
      refine .gyes rfl rfl rfl (.len Tryz.underlying27 rfl rfl rfl rfl ?_)
      refine .gyes rfl rfl rfl (.gt rfl rfl rfl rfl ?_)
      refine .skips 1 rfl ?_
      refine .nil' fun c w ho hs => Cod.at (E := [(3, _), (4, _), (5, _), (26, _)]) (ho.sub ⟨rfl, rfl, rfl, rfl, trivial⟩) hs ?_
      refine .cond rfl (fun hb67 => ?_) (fun hb67 => ?_)
      · have hd := hd.1 hb67
        refine .seq ?_
        refine .region ?_
        have hw74 := W_law07_live (I := I) hd
        refine .call Tryz.call12 rfl hw74 rfl rfl fun v72 I69 hl70 hv71 => ?_
        obtain ⟨r68, rfl, hd⟩ := hv71
        have le75 := IH.le.trans (.refl _) hl70
        replace R3 := R3.mono hl70
        replace R6 := R6.mono hl70
        replace R9 := R9.mono hl70
        refine .skips 1 rfl ?_
        refine .nil' fun c w ho hs => Cod.at (E := [(6, _)]) (ho.sub ⟨rfl, trivial⟩) hs ?_
        refine .drop .z ?_
        refine .drop .z ?_
        refine .drop .z ?_
        exact .ret (pret Tryz.results4 (.t rfl .n) le75 ⟨r68, rfl, hd⟩)
      · have hd := hd.2 hb67
        refine .skip' fun c w ho hs => Cod.at (E := [(3, _), (4, _), (5, _)]) (ho.sub ⟨rfl, rfl, rfl, trivial⟩) hs ?_
        refine .seq ?_
        refine .region ?_
        refine .loadW Tryz.isAgg29 Tryz.sizeOf29 rfl (.s (.s .z)) rfl rfl rfl ?_
        refine .ixArr (i := 0) Tryz.underlying23 Tryz.sizeOf3 rfl rfl (by decide) (o := 0) rfl rfl rfl ?_
        refine .load1 Tryz.isAgg3 rfl (.s .z) rfl rfl rfl ?_
        refine .ixArr (i := 0) Tryz.underlying23 Tryz.sizeOf3 rfl rfl (by decide) (o := 0) rfl rfl rfl ?_
        refine .load1 Tryz.isAgg3 rfl .z rfl rfl rfl ?_
        have hw90 := W_csr_Get (I := I) R3 R6 R9 hd
        refine .call Tryz.call14 rfl hw90 rfl rfl fun v88 I85 hl86 hv87 => ?_
        obtain ⟨r84, rfl, hd⟩ := hv87
        have le91 := IH.le.trans (.refl _) hl86
        replace R3 := R3.mono hl86
        replace R6 := R6.mono hl86
        replace R9 := R9.mono hl86
        refine .skips 1 rfl ?_
        refine .extract rfl rfl rfl rfl ?_
        refine .extract rfl rfl rfl rfl ?_
        refine .skips 2 rfl ?_
        refine .nil' fun c w ho hs => Cod.at (E := [(3, _), (4, _), (5, _), (7, _), (8, _)]) (ho.sub ⟨rfl, rfl, rfl, rfl, rfl, trivial⟩) hs ?_
        refine .seq ?_
        refine .region ?_
        refine .loadW Tryz.isAgg29 Tryz.sizeOf29 rfl (.s (.s .z)) rfl rfl rfl ?_
        refine .ixArr (i := 0) Tryz.underlying23 Tryz.sizeOf3 rfl rfl (by decide) (o := 0) rfl rfl rfl ?_
        refine .load1 Tryz.isAgg3 rfl (.s .z) rfl rfl rfl ?_
        refine .ixArr (i := 0) Tryz.underlying23 Tryz.sizeOf3 rfl rfl (by decide) (o := 0) rfl rfl rfl ?_
        refine .load1 Tryz.isAgg3 rfl .z rfl rfl rfl ?_
        have hw106 := W_ref07_Get (I := I85) R3 R6 R9 hd
        refine .call Tryz.call15 rfl hw106 rfl rfl fun v104 I101 hl102 hv103 => ?_
        obtain ⟨r100, rfl, hd⟩ := hv103
        have le107 := IH.le.trans le91 hl102
        replace R3 := R3.mono hl102
        replace R6 := R6.mono hl102
        replace R9 := R9.mono hl102
        refine .skips 1 rfl ?_
        refine .extract rfl rfl rfl rfl ?_
        refine .extract rfl rfl rfl rfl ?_
        refine .skips 2 rfl ?_
        refine .nil' fun c w ho hs => Cod.at (E := [(3, _), (4, _), (5, _), (7, _), (8, _), (9, _), (10, _)]) (ho.sub ⟨rfl, rfl, rfl, rfl, rfl, rfl, rfl, trivial⟩) hs ?_
        refine .seq ?_
        refine .seq ?_
        refine .draw [some 0, some 1, some 2, some 3, some 4, some 5, some 6, some 7, some 8, some 9, some 10, some 11, some 12, some 13, some 15, some 14, some 16, some 17, some 18, some 19, some 20, some 22, some 21, some 23, some 24, some 25] 26 MX (by kernel_rfl) (by kernel_rfl) (by kernel_rfl) (by kernel_rfl) (by kernel_rfl) (by kernel_rfl) (by kernel_rfl) (fun ex => (pto b20 (.cells #[.int .i64 a2.1, .int .i64 a2.2] 23 (0, 0))) :: (pto b18 (.cells #[.int .i64 a1.1, .int .i64 a1.2] 23 (0, 0))) :: (pto b16 (.cells #[.int .i64 a0.Rows, .int .i64 a0.Cols, .slice p1 a0.Start.length c2, .slice p4 a0.Col.length c5, .slice p7 a0.Val.length c8] 29 (0, 0))) :: ex) (fun _ _ => (.s (.s (.s .z)))) rfl ?_
        refine .w [] [] [] rfl (by kernel_rfl) (by kernel_rfl) (by kernel_rfl) ((dropE_kept rfl rfl)) (.inr (dropE_kept rfl rfl)) fun ex => ?_
        have hw159 := W_law07_live (I := I101) hd
        refine .call Tryz.call12 rfl hw159 rfl rfl fun v157 I154 hl155 hv156 => ?_
        obtain ⟨r153, rfl, hd⟩ := hv156
        have le160 := IH.le.trans le107 hl155
        replace R3 := R3.mono hl155
        replace R6 := R6.mono hl155
        replace R9 := R9.mono hl155
        refine .some (fun ex => (pto b20 (.cells #[.int .i64 a2.1, .int .i64 a2.2] 23 (0, 0))) :: (pto b18 (.cells #[.int .i64 a1.1, .int .i64 a1.2] 23 (0, 0))) :: (pto b16 (.cells #[.int .i64 a0.Rows, .int .i64 a0.Cols, .slice p1 a0.Start.length c2, .slice p4 a0.Col.length c5, .slice p7 a0.Val.length c8] 29 (0, 0))) :: ex) rfl (fun _ _ => (.s (.s (.s .z)))) rfl trivial ?_
        refine .f [0] rfl (by kernel_rfl) rfl rfl (fun ex => .not rfl rfl rfl .mk) ?_
        refine .f [1, 0] rfl (by kernel_rfl) rfl rfl (fun ex => .move rfl rfl rfl .mk) ?_
        refine split (!r153) (fun hb161 => ?_) (fun hb161 => ?_)
        · have hd := hd.1 hb161
          refine .f [2] rfl (by kernel_rfl) rfl rfl (fun ex => .gno rfl rfl hb161 rfl rfl .mk) ?_
          refine .f [2] rfl (by kernel_rfl) rfl rfl (fun ex => .gno rfl rfl hb161 rfl rfl .mk) ?_
          refine .f [3, 4, 2] rfl (by kernel_rfl) rfl rfl (fun ex => .gno rfl rfl hb161 rfl rfl .mk) ?_
          refine .f [2, 5] rfl (by kernel_rfl) rfl rfl (fun ex => .pickT rfl hb161 rfl rfl rfl .mk) ?_
          refine .f [6, 2] rfl (by kernel_rfl) rfl rfl (fun ex => .move rfl rfl rfl .mk) ?_
          refine .f [7] rfl (by kernel_rfl) rfl rfl (fun ex => .gno rfl rfl rfl rfl rfl .mk) ?_
          refine .f [7] rfl (by kernel_rfl) rfl rfl (fun ex => .gno rfl rfl rfl rfl rfl .mk) ?_
          refine .f [8, 9, 7] rfl (by kernel_rfl) rfl rfl (fun ex => .gno rfl rfl rfl rfl rfl .mk) ?_
          refine .f [7, 10] rfl (by kernel_rfl) rfl rfl (fun ex => .pickT rfl rfl rfl rfl rfl .mk) ?_
          refine .f [11, 7] rfl (by kernel_rfl) rfl rfl (fun ex => .move rfl rfl rfl .mk) ?_
          refine .f [12] rfl (by kernel_rfl) rfl rfl (fun ex => .gno rfl rfl rfl rfl rfl .mk) ?_
          refine .f [12] rfl (by kernel_rfl) rfl rfl (fun ex => .gno rfl rfl rfl rfl rfl .mk) ?_
          refine .f [13, 12, 12] rfl (by kernel_rfl) rfl rfl (fun ex => .gno rfl rfl rfl rfl rfl .mk) ?_
          refine .f [15, 14, 12] rfl (by kernel_rfl) rfl rfl (fun ex => .gno rfl rfl rfl rfl rfl .mk) ?_
          refine .f [14, 16, 12] rfl (by kernel_rfl) rfl rfl (fun ex => .gno rfl rfl rfl rfl rfl .mk) ?_
          refine .f [12, 17] rfl (by kernel_rfl) rfl rfl (fun ex => .pickT rfl rfl rfl rfl rfl .mk) ?_
          refine .f [18, 16] rfl (by kernel_rfl) rfl rfl (fun ex => .move rfl rfl rfl .mk) ?_
          refine .f [19] rfl (by kernel_rfl) rfl rfl (fun ex => .gno rfl rfl rfl rfl rfl .mk) ?_
          refine .f [19] rfl (by kernel_rfl) rfl rfl (fun ex => .gno rfl rfl rfl rfl rfl .mk) ?_
          refine .f [20, 19, 19] rfl (by kernel_rfl) rfl rfl (fun ex => .gno rfl rfl rfl rfl rfl .mk) ?_
          refine .f [22, 21, 19] rfl (by kernel_rfl) rfl rfl (fun ex => .gno rfl rfl rfl rfl rfl .mk) ?_
          refine .f [21, 23, 19] rfl (by kernel_rfl) rfl rfl (fun ex => .gno rfl rfl rfl rfl rfl .mk) ?_
          refine .f [19, 24] rfl (by kernel_rfl) rfl rfl (fun ex => .pickT rfl rfl rfl rfl rfl .mk) ?_
          refine .e 26 (by kernel_rfl) (by kernel_rfl) (by kernel_rfl) ?_
          refine .nil' fun c w ho hs => Cod.at (E := [(3, _), (4, _), (5, _), (71, _)]) (ho.sub ⟨rfl, rfl, rfl, rfl, trivial⟩) hs ?_
          refine .condKT rfl rfl ?_
          refine .seq ?_
          refine .region ?_
          refine .skips 1 rfl ?_
          refine .nil' fun c w ho hs => Cod.at (E := [(6, _)]) (ho.sub ⟨rfl, trivial⟩) hs ?_
          refine .drop .z ?_
          refine .drop .z ?_
          refine .drop .z ?_
          exact .ret (pret Tryz.results4 (.t rfl .n) le160 ⟨false, rfl, hd⟩)
        · have hd := hd.2 hb161
          refine .f [2] rfl (by kernel_rfl) rfl rfl (fun ex => .gyes rfl rfl hb161 (.move rfl rfl rfl .mk)) ?_
          refine .f [2] rfl (by kernel_rfl) rfl rfl (fun ex => .gyes rfl rfl hb161 (.move rfl rfl rfl .mk)) ?_
          refine .f [3, 4, 2] rfl (by kernel_rfl) rfl rfl (fun ex => .gyes rfl rfl hb161 (.ne rfl rfl rfl rfl .mk)) ?_
          refine .f [2, 5] rfl (by kernel_rfl) rfl rfl (fun ex => .pickF rfl hb161 rfl rfl rfl .mk) ?_
          refine .f [6, 2] rfl (by kernel_rfl) rfl rfl (fun ex => .move rfl rfl rfl .mk) ?_
          refine split (r84.1 != r100.1) (fun hb162 => ?_) (fun hb162 => ?_)
          · have hd := hd.1 hb162
            refine .f [7] rfl (by kernel_rfl) rfl rfl (fun ex => .gno rfl rfl hb162 rfl rfl .mk) ?_
            refine .f [7] rfl (by kernel_rfl) rfl rfl (fun ex => .gno rfl rfl hb162 rfl rfl .mk) ?_
            refine .f [8, 9, 7] rfl (by kernel_rfl) rfl rfl (fun ex => .gno rfl rfl hb162 rfl rfl .mk) ?_
            refine .f [7, 10] rfl (by kernel_rfl) rfl rfl (fun ex => .pickT rfl hb162 rfl rfl rfl .mk) ?_
            refine .f [11, 7] rfl (by kernel_rfl) rfl rfl (fun ex => .move rfl rfl rfl .mk) ?_
            refine .f [12] rfl (by kernel_rfl) rfl rfl (fun ex => .gno rfl rfl rfl rfl rfl .mk) ?_
            refine .f [12] rfl (by kernel_rfl) rfl rfl (fun ex => .gno rfl rfl rfl rfl rfl .mk) ?_
            refine .f [13, 12, 12] rfl (by kernel_rfl) rfl rfl (fun ex => .gno rfl rfl rfl rfl rfl .mk) ?_
            refine .f [15, 14, 12] rfl (by kernel_rfl) rfl rfl (fun ex => .gno rfl rfl rfl rfl rfl .mk) ?_
            refine .f [14, 16, 12] rfl (by kernel_rfl) rfl rfl (fun ex => .gno rfl rfl rfl rfl rfl .mk) ?_
            refine .f [12, 17] rfl (by kernel_rfl) rfl rfl (fun ex => .pickT rfl rfl rfl rfl rfl .mk) ?_
            refine .f [18, 16] rfl (by kernel_rfl) rfl rfl (fun ex => .move rfl rfl rfl .mk) ?_
            refine .f [19] rfl (by kernel_rfl) rfl rfl (fun ex => .gno rfl rfl rfl rfl rfl .mk) ?_
            refine .f [19] rfl (by kernel_rfl) rfl rfl (fun ex => .gno rfl rfl rfl rfl rfl .mk) ?_
            refine .f [20, 19, 19] rfl (by kernel_rfl) rfl rfl (fun ex => .gno rfl rfl rfl rfl rfl .mk) ?_
            refine .f [22, 21, 19] rfl (by kernel_rfl) rfl rfl (fun ex => .gno rfl rfl rfl rfl rfl .mk) ?_
            refine .f [21, 23, 19] rfl (by kernel_rfl) rfl rfl (fun ex => .gno rfl rfl rfl rfl rfl .mk) ?_
            refine .f [19, 24] rfl (by kernel_rfl) rfl rfl (fun ex => .pickT rfl rfl rfl rfl rfl .mk) ?_
            refine .e 26 (by kernel_rfl) (by kernel_rfl) (by kernel_rfl) ?_
            refine .nil' fun c w ho hs => Cod.at (E := [(3, _), (4, _), (5, _), (71, _)]) (ho.sub ⟨rfl, rfl, rfl, rfl, trivial⟩) hs ?_
            refine .condKT rfl rfl ?_
            refine .seq ?_
            refine .region ?_
            refine .skips 1 rfl ?_
            refine .nil' fun c w ho hs => Cod.at (E := [(6, _)]) (ho.sub ⟨rfl, trivial⟩) hs ?_
            refine .drop .z ?_
            refine .drop .z ?_
            refine .drop .z ?_
            exact .ret (pret Tryz.results4 (.t rfl .n) le160 ⟨false, rfl, hd⟩)
          · have hd := hd.2 hb162
            refine .f [7] rfl (by kernel_rfl) rfl rfl (fun ex => .gyes rfl rfl hb162 (.move rfl rfl rfl .mk)) ?_
            refine .f [7] rfl (by kernel_rfl) rfl rfl (fun ex => .gyes rfl rfl hb162 (.move rfl rfl rfl .mk)) ?_
            refine .f [8, 9, 7] rfl (by kernel_rfl) rfl rfl (fun ex => .gyes rfl rfl hb162 (.neB Tryz.underlying4 rfl rfl rfl rfl .mk)) ?_
            refine .f [7, 10] rfl (by kernel_rfl) rfl rfl (fun ex => .pickF rfl hb162 rfl rfl rfl .mk) ?_
            refine .f [11, 7] rfl (by kernel_rfl) rfl rfl (fun ex => .move rfl rfl rfl .mk) ?_
            refine split (!(r84.2 == r100.2)) (fun hb163 => ?_) (fun hb163 => ?_)
            · have hd := hd.1 hb163
              refine .f [12] rfl (by kernel_rfl) rfl rfl (fun ex => .gno rfl rfl hb163 rfl rfl .mk) ?_
              refine .f [12] rfl (by kernel_rfl) rfl rfl (fun ex => .gno rfl rfl hb163 rfl rfl .mk) ?_
              refine .f [13, 12, 12] rfl (by kernel_rfl) rfl rfl (fun ex => .gno rfl rfl hb163 rfl rfl .mk) ?_
              refine .f [15, 14, 12] rfl (by kernel_rfl) rfl rfl (fun ex => .gno rfl rfl hb163 rfl rfl .mk) ?_
              refine .f [14, 16, 12] rfl (by kernel_rfl) rfl rfl (fun ex => .gno rfl rfl hb163 rfl rfl .mk) ?_
              refine .f [12, 17] rfl (by kernel_rfl) rfl rfl (fun ex => .pickT rfl hb163 rfl rfl rfl .mk) ?_
              refine .f [18, 16] rfl (by kernel_rfl) rfl rfl (fun ex => .move rfl rfl rfl .mk) ?_
              refine .f [19] rfl (by kernel_rfl) rfl rfl (fun ex => .gno rfl rfl rfl rfl rfl .mk) ?_
              refine .f [19] rfl (by kernel_rfl) rfl rfl (fun ex => .gno rfl rfl rfl rfl rfl .mk) ?_
              refine .f [20, 19, 19] rfl (by kernel_rfl) rfl rfl (fun ex => .gno rfl rfl rfl rfl rfl .mk) ?_
              refine .f [22, 21, 19] rfl (by kernel_rfl) rfl rfl (fun ex => .gno rfl rfl rfl rfl rfl .mk) ?_
              refine .f [21, 23, 19] rfl (by kernel_rfl) rfl rfl (fun ex => .gno rfl rfl rfl rfl rfl .mk) ?_
              refine .f [19, 24] rfl (by kernel_rfl) rfl rfl (fun ex => .pickT rfl rfl rfl rfl rfl .mk) ?_
              refine .e 26 (by kernel_rfl) (by kernel_rfl) (by kernel_rfl) ?_
              refine .nil' fun c w ho hs => Cod.at (E := [(3, _), (4, _), (5, _), (71, _)]) (ho.sub ⟨rfl, rfl, rfl, rfl, trivial⟩) hs ?_
              refine .condKT rfl rfl ?_
              refine .seq ?_
              refine .region ?_
              refine .skips 1 rfl ?_
              refine .nil' fun c w ho hs => Cod.at (E := [(6, _)]) (ho.sub ⟨rfl, trivial⟩) hs ?_
              refine .drop .z ?_
              refine .drop .z ?_
              refine .drop .z ?_
              exact .ret (pret Tryz.results4 (.t rfl .n) le160 ⟨false, rfl, hd⟩)
            · have hd := hd.2 hb163
              refine .f [12] rfl (by kernel_rfl) rfl rfl (fun ex => .gyes rfl rfl hb163 (.loadW Tryz.isAgg29 Tryz.sizeOf29 rfl (.s (.s .z)) rfl rfl rfl .mk)) ?_
              refine .f [12] rfl (by kernel_rfl) rfl rfl (fun ex => .gyes rfl rfl hb163 (.loadW Tryz.isAgg29 Tryz.sizeOf29 rfl (.s (.s .z)) rfl rfl rfl .mk)) ?_
              refine .w [15] [[], [], [12], [11, 12], [10, 11, 12], [10, 11, 12], [12], [7, 12], [6, 7, 12], [5, 6, 7, 12], [5, 6, 7, 12], [7, 12], [2, 7, 12]] [13, 12, 12] rfl (by kernel_rfl) (by kernel_rfl) (by kernel_rfl) ((dropE_kept rfl rfl)) (.inr (dropE_kept rfl rfl)) fun ex => ?_
              have hw170 := W_csr_Right (I := I154) R3 R6 R9 hd
              refine .gyes rfl rfl hb163 (.call Tryz.call16 rfl hw170 rfl rfl fun v168 I165 hl166 hv167 => ?_)
              obtain ⟨r164, rfl, hd⟩ := hv167
              have le171 := IH.le.trans le160 hl166
              replace R3 := R3.mono hl166
              replace R6 := R6.mono hl166
              replace R9 := R9.mono hl166
              refine .some (fun ex => (pto b20 (.cells #[.int .i64 a2.1, .int .i64 a2.2] 23 (0, 0))) :: (pto b18 (.cells #[.int .i64 a1.1, .int .i64 a1.2] 23 (0, 0))) :: (pto b16 (.cells #[.int .i64 a0.Rows, .int .i64 a0.Cols, .slice p1 a0.Start.length c2, .slice p4 a0.Col.length c5, .slice p7 a0.Val.length c8] 29 (0, 0))) :: ex) rfl (fun _ _ => (.s (.s (.s .z)))) rfl (.cc [12] rfl (by kernel_rfl) rfl rfl rfl (fun ex => .gyes rfl rfl hb163 (.loadW Tryz.isAgg29 Tryz.sizeOf29 rfl (.s (.s .z)) rfl rfl rfl .mk)) trivial) ?_
              refine .w [] [[]] [15, 14, 12] rfl (by kernel_rfl) (by kernel_rfl) (by kernel_rfl) ((dropE_kept rfl rfl)) (.inr (dropE_kept rfl rfl)) fun ex => ?_
              have hw178 := W_ref07_Right (I := I165) R3 R6 R9 hd
              refine .gyes rfl rfl hb163 (.call Tryz.call17 rfl hw178 rfl rfl fun v176 I173 hl174 hv175 => ?_)
              obtain ⟨r172, rfl, hd⟩ := hv175
              have le179 := IH.le.trans le171 hl174
              replace R3 := R3.mono hl174
              replace R6 := R6.mono hl174
              replace R9 := R9.mono hl174
              refine .some (fun ex => (pto b20 (.cells #[.int .i64 a2.1, .int .i64 a2.2] 23 (0, 0))) :: (pto b18 (.cells #[.int .i64 a1.1, .int .i64 a1.2] 23 (0, 0))) :: (pto b16 (.cells #[.int .i64 a0.Rows, .int .i64 a0.Cols, .slice p1 a0.Start.length c2, .slice p4 a0.Col.length c5, .slice p7 a0.Val.length c8] 29 (0, 0))) :: ex) rfl (fun _ _ => (.s (.s (.s .z)))) rfl trivial ?_
              refine .f [14, 16, 12] rfl (by kernel_rfl) rfl rfl (fun ex => .gyes rfl rfl hb163 (.neB Tryz.underlying4 rfl rfl rfl rfl .mk)) ?_
              refine .f [12, 17] rfl (by kernel_rfl) rfl rfl (fun ex => .pickF rfl hb163 rfl rfl rfl .mk) ?_
              refine .f [18, 16] rfl (by kernel_rfl) rfl rfl (fun ex => .move rfl rfl rfl .mk) ?_
              refine split (!(r164 == r172)) (fun hb180 => ?_) (fun hb180 => ?_)
              · have hd := hd.1 hb180
                refine .f [19] rfl (by kernel_rfl) rfl rfl (fun ex => .gno rfl rfl hb180 rfl rfl .mk) ?_
                refine .f [19] rfl (by kernel_rfl) rfl rfl (fun ex => .gno rfl rfl hb180 rfl rfl .mk) ?_
                refine .f [20, 19, 19] rfl (by kernel_rfl) rfl rfl (fun ex => .gno rfl rfl hb180 rfl rfl .mk) ?_
                refine .f [22, 21, 19] rfl (by kernel_rfl) rfl rfl (fun ex => .gno rfl rfl hb180 rfl rfl .mk) ?_
                refine .f [21, 23, 19] rfl (by kernel_rfl) rfl rfl (fun ex => .gno rfl rfl hb180 rfl rfl .mk) ?_
                refine .f [19, 24] rfl (by kernel_rfl) rfl rfl (fun ex => .pickT rfl hb180 rfl rfl rfl .mk) ?_
                refine .e 26 (by kernel_rfl) (by kernel_rfl) (by kernel_rfl) ?_
                refine .nil' fun c w ho hs => Cod.at (E := [(3, _), (4, _), (5, _), (71, _)]) (ho.sub ⟨rfl, rfl, rfl, rfl, trivial⟩) hs ?_
                refine .condKT rfl rfl ?_
                refine .seq ?_
                refine .region ?_
                refine .skips 1 rfl ?_
                refine .nil' fun c w ho hs => Cod.at (E := [(6, _)]) (ho.sub ⟨rfl, trivial⟩) hs ?_
                refine .drop .z ?_
                refine .drop .z ?_
                refine .drop .z ?_
                exact .ret (pret Tryz.results4 (.t rfl .n) le179 ⟨false, rfl, hd⟩)
              · have hd := hd.2 hb180
                refine .f [19] rfl (by kernel_rfl) rfl rfl (fun ex => .gyes rfl rfl hb180 (.loadW Tryz.isAgg29 Tryz.sizeOf29 rfl (.s (.s .z)) rfl rfl rfl .mk)) ?_
                refine .f [19] rfl (by kernel_rfl) rfl rfl (fun ex => .gyes rfl rfl hb180 (.loadW Tryz.isAgg29 Tryz.sizeOf29 rfl (.s (.s .z)) rfl rfl rfl .mk)) ?_
                refine .w [22] [[], [], [19], [18, 19]] [20, 19, 19] rfl (by kernel_rfl) (by kernel_rfl) (by kernel_rfl) ((dropE_kept rfl rfl)) (.inr (dropE_kept rfl rfl)) fun ex => ?_
                have hw187 := W_csr_Count (I := I173) R3 R6 R9 hd
                refine .gyes rfl rfl hb180 (.call Tryz.call18 rfl hw187 rfl rfl fun v185 I182 hl183 hv184 => ?_)
                obtain ⟨r181, rfl, hd⟩ := hv184
                have le188 := IH.le.trans le179 hl183
                replace R3 := R3.mono hl183
                replace R6 := R6.mono hl183
                replace R9 := R9.mono hl183
                refine .some (fun ex => (pto b20 (.cells #[.int .i64 a2.1, .int .i64 a2.2] 23 (0, 0))) :: (pto b18 (.cells #[.int .i64 a1.1, .int .i64 a1.2] 23 (0, 0))) :: (pto b16 (.cells #[.int .i64 a0.Rows, .int .i64 a0.Cols, .slice p1 a0.Start.length c2, .slice p4 a0.Col.length c5, .slice p7 a0.Val.length c8] 29 (0, 0))) :: ex) rfl (fun _ _ => (.s (.s (.s .z)))) rfl (.cc [19] rfl (by kernel_rfl) rfl rfl rfl (fun ex => .gyes rfl rfl hb180 (.loadW Tryz.isAgg29 Tryz.sizeOf29 rfl (.s (.s .z)) rfl rfl rfl .mk)) trivial) ?_
                refine .w [] [[]] [22, 21, 19] rfl (by kernel_rfl) (by kernel_rfl) (by kernel_rfl) ((dropE_kept rfl rfl)) (.inr (dropE_kept rfl rfl)) fun ex => ?_
                have hw195 := W_ref07_Count (I := I182) R3 R6 R9 hd
                refine .gyes rfl rfl hb180 (.call Tryz.call19 rfl hw195 rfl rfl fun v193 I190 hl191 hv192 => ?_)
                obtain ⟨r189, rfl, hd⟩ := hv192
                have le196 := IH.le.trans le188 hl191
                replace R3 := R3.mono hl191
                replace R6 := R6.mono hl191
                replace R9 := R9.mono hl191
                refine .some (fun ex => (pto b20 (.cells #[.int .i64 a2.1, .int .i64 a2.2] 23 (0, 0))) :: (pto b18 (.cells #[.int .i64 a1.1, .int .i64 a1.2] 23 (0, 0))) :: (pto b16 (.cells #[.int .i64 a0.Rows, .int .i64 a0.Cols, .slice p1 a0.Start.length c2, .slice p4 a0.Col.length c5, .slice p7 a0.Val.length c8] 29 (0, 0))) :: ex) rfl (fun _ _ => (.s (.s (.s .z)))) rfl trivial ?_
                refine .f [21, 23, 19] rfl (by kernel_rfl) rfl rfl (fun ex => .gyes rfl rfl hb180 (.ne rfl rfl rfl rfl .mk)) ?_
                refine .f [19, 24] rfl (by kernel_rfl) rfl rfl (fun ex => .pickF rfl hb180 rfl rfl rfl .mk) ?_
                refine .e 26 (by kernel_rfl) (by kernel_rfl) (by kernel_rfl) ?_
                refine .nil' fun c w ho hs => Cod.at (E := [(3, _), (4, _), (5, _), (71, _)]) (ho.sub ⟨rfl, rfl, rfl, rfl, trivial⟩) hs ?_
                refine .cond rfl (fun hb197 => ?_) (fun hb197 => ?_)
                · have hd := hd.1 hb197
                  refine .seq ?_
                  refine .region ?_
                  refine .skips 1 rfl ?_
                  refine .nil' fun c w ho hs => Cod.at (E := [(6, _)]) (ho.sub ⟨rfl, trivial⟩) hs ?_
                  refine .drop .z ?_
                  refine .drop .z ?_
                  refine .drop .z ?_
                  exact .ret (pret Tryz.results4 (.t rfl .n) le196 ⟨false, rfl, hd⟩)
                · have hd := hd.2 hb197
                  refine .skip' fun c w ho hs => Cod.at (E := [(3, _), (4, _), (5, _)]) (ho.sub ⟨rfl, rfl, rfl, trivial⟩) hs ?_
                  refine .seq ?_
                  refine Cod.joinQ (σ := Unit) hd (fun (_ : Unit) c w => ∃ I_, IH.le I190 I_ ∧ Ok 118 [(3, .pointer (some ⟨b16, 0, none⟩)), (4, .pointer (some ⟨b18, 0, none⟩)), (5, .pointer (some ⟨b20, 0, none⟩))] c ∧ Sym w0 M I I_ [pto b16 (.cells #[.int .i64 a0.Rows, .int .i64 a0.Cols, .slice p1 a0.Start.length c2, .slice p4 a0.Col.length c5, .slice p7 a0.Val.length c8] 29 (0, 0)), pto b18 (.cells #[.int .i64 a1.1, .int .i64 a1.2] 23 (0, 0)), pto b20 (.cells #[.int .i64 a2.1, .int .i64 a2.2] 23 (0, 0))] w) (fun k218 hd => ?_) ?_
                  · skip
                    refine .seq ?_
                    refine .region ?_
                    refine .fieldAddr Tryz.underlying29 rfl Tryz.sizeOf3 rfl (o := 1) rfl rfl rfl ?_
                    refine .load1 Tryz.isAgg3 rfl (.s (.s .z)) rfl rfl rfl ?_
                    refine .gt rfl rfl rfl rfl ?_
                    refine .skips 1 rfl ?_
                    refine split (decide (500 < a0.Cols)) (fun hb219 => ?_) (fun hb219 => ?_)
                    · have hd := hd.1 hb219
                      rw [hb219]
                      refine .gyes rfl rfl rfl (.loadW Tryz.isAgg29 Tryz.sizeOf29 rfl (.s (.s .z)) rfl rfl rfl ?_)
                      have hw226 := W_ref07_Right (I := I190) R3 R6 R9 hd
                      refine .gyes rfl rfl rfl (.call Tryz.call17 rfl hw226 rfl rfl fun v224 I221 hl222 hv223 => ?_)
                      obtain ⟨r220, rfl, hd⟩ := hv223
                      have le227 := IH.le.trans le196 hl222
                      have le228 := IH.le.trans (.refl _) hl222
                      replace R3 := R3.mono hl222
                      replace R6 := R6.mono hl222
                      replace R9 := R9.mono hl222
                      refine .skips 1 rfl ?_
                      refine .nil' fun c w ho hs => Cod.at (E := [(3, _), (4, _), (5, _), (78, _)]) (ho.sub ⟨rfl, rfl, rfl, rfl, trivial⟩) hs ?_
                      refine .cond rfl (fun hb229 => ?_) (fun hb229 => ?_)
                      · have hd := hd.1 hb229
                        refine .seq ?_
                        refine .region ?_
                        refine .skips 1 rfl ?_
                        refine .nil' fun c w ho hs => Cod.at (E := [(6, _)]) (ho.sub ⟨rfl, trivial⟩) hs ?_
                        refine .drop .z ?_
                        refine .drop .z ?_
                        refine .drop .z ?_
                        exact .ret (pret Tryz.results4 (.t rfl .n) le227 ⟨true, rfl, hd⟩)
                      · have hd := hd.2 hb229
                        exact .skip' fun c w ho hs => ⟨(), hd, I221, le228, ho.sub ⟨rfl, rfl, rfl, trivial⟩, hs.pick (.c (.s (.s .z)) (.c (.s .z) (.c .z .n)))⟩
                    · have hd := hd.2 hb219
                      rw [hb219]
                      refine .skips 3 rfl ?_
                      refine .nil' fun c w ho hs => Cod.at (E := [(3, _), (4, _), (5, _), (78, _)]) (ho.sub ⟨rfl, rfl, rfl, rfl, trivial⟩) hs ?_
                      refine .condKF rfl rfl ?_
                      exact .skip' fun c w ho hs => ⟨(), hd, I190, (.refl _), ho.sub ⟨rfl, rfl, rfl, trivial⟩, hs.pick (.c (.s (.s .z)) (.c (.s .z) (.c .z .n)))⟩
                  · rintro ⟨⟩ hd c w hst
                    obtain ⟨I230, hl231, hok, hsym⟩ := hst
                    have le232 := IH.le.trans le196 hl231
                    have le233 := IH.le.trans (.refl _) hl231
                    replace R3 := R3.mono hl231
                    replace R6 := R6.mono hl231
                    replace R9 := R9.mono hl231
                    refine Cod.at hok hsym ?_
                    refine .seq ?_
                    refine .draw [some 0, some 1, some 2, some 4, some 5, some 6, some 3, some 7, some 8, some 9, some 10, some 12, some 11, some 13, some 14, some 15, some 16, some 17, some 19, some 18, some 20, some 21, some 22, some 23, some 24, some 25, some 26, some 28, some 29, some 30, some 27, some 31, some 32, some 33, some 34, some 35, some 36, some 37, some 38] 39 MX (by kernel_rfl) (by kernel_rfl) (by kernel_rfl) (by kernel_rfl) (by kernel_rfl) (by kernel_rfl) (by kernel_rfl) (fun ex => (pto b16 (.cells #[.int .i64 a0.Rows, .int .i64 a0.Cols, .slice p1 a0.Start.length c2, .slice p4 a0.Col.length c5, .slice p7 a0.Val.length c8] 29 (0, 0))) :: (pto b18 (.cells #[.int .i64 a1.1, .int .i64 a1.2] 23 (0, 0))) :: (pto b20 (.cells #[.int .i64 a2.1, .int .i64 a2.2] 23 (0, 0))) :: ex) (fun _ _ => (.s (.s (.s .z)))) rfl ?_
                    refine .f [] rfl (by kernel_rfl) rfl rfl (fun ex => .loadW Tryz.isAgg29 Tryz.sizeOf29 rfl .z rfl rfl rfl .mk) ?_
                    refine .f [] rfl (by kernel_rfl) rfl rfl (fun ex => .ixArr (i := 0) Tryz.underlying23 Tryz.sizeOf3 rfl rfl (by decide) (o := 0) rfl rfl rfl .mk) ?_
                    refine .f [1] rfl (by kernel_rfl) rfl rfl (fun ex => .load1 Tryz.isAgg3 rfl (.s .z) rfl rfl rfl .mk) ?_
                    refine .f [] rfl (by kernel_rfl) rfl rfl (fun ex => .loadW Tryz.isAgg29 Tryz.sizeOf29 rfl .z rfl rfl rfl .mk) ?_
                    refine .f [] rfl (by kernel_rfl) rfl rfl (fun ex => .ixArr (i := 0) Tryz.underlying23 Tryz.sizeOf3 rfl rfl (by decide) (o := 0) rfl rfl rfl .mk) ?_
                    refine .f [5] rfl (by kernel_rfl) rfl rfl (fun ex => .load1 Tryz.isAgg3 rfl (.s .z) rfl rfl rfl .mk) ?_
                    refine .w [6, 5, 4] [[], [2], []] [0, 2] rfl (by kernel_rfl) (by kernel_rfl) (by kernel_rfl) ((dropE_kept rfl rfl)) (.inr (dropE_kept rfl rfl)) fun ex => ?_
                    have hw243 := W_csr_Row (I := I230) R3 R6 R9 hd
                    refine .call Tryz.call21 rfl hw243 rfl rfl fun v238 I235 hl236 hv237 => ?_
                    obtain ⟨r234, p240, c241, rfl, R242, hd⟩ := hv237
                    have le244 := IH.le.trans le232 hl236
                    have le245 := IH.le.trans le233 hl236
                    replace R3 := R3.mono hl236
                    replace R6 := R6.mono hl236
                    replace R9 := R9.mono hl236
                    refine .some (fun ex => (pto b16 (.cells #[.int .i64 a0.Rows, .int .i64 a0.Cols, .slice p1 a0.Start.length c2, .slice p4 a0.Col.length c5, .slice p7 a0.Val.length c8] 29 (0, 0))) :: (pto b18 (.cells #[.int .i64 a1.1, .int .i64 a1.2] 23 (0, 0))) :: (pto b20 (.cells #[.int .i64 a2.1, .int .i64 a2.2] 23 (0, 0))) :: ex) rfl (fun _ _ => (.s (.s (.s .z)))) rfl (.cc [5] rfl (by kernel_rfl) rfl rfl rfl (fun ex => .load1 Tryz.isAgg3 rfl (.s .z) rfl rfl rfl .mk) (.cc [] rfl (by kernel_rfl) rfl rfl rfl (fun ex => .ixArr (i := 0) Tryz.underlying23 Tryz.sizeOf3 rfl rfl (by decide) (o := 0) rfl rfl rfl .mk) (.cc [] rfl (by kernel_rfl) rfl rfl rfl (fun ex => .loadW Tryz.isAgg29 Tryz.sizeOf29 rfl .z rfl rfl rfl .mk) trivial))) ?_
                    refine .w [] [[], [6], []] [4, 6, 3] rfl (by kernel_rfl) (by kernel_rfl) (by kernel_rfl) ((dropE_kept rfl rfl)) (.inr (dropE_kept rfl rfl)) fun ex => ?_
                    have hw255 := W_ref07_Row (I := I235) R3 R6 R9 hd
                    refine .call Tryz.call22 rfl hw255 rfl rfl fun v250 I247 hl248 hv249 => ?_
                    obtain ⟨r246, p252, c253, rfl, R254, hd⟩ := hv249
                    have le256 := IH.le.trans le244 hl248
                    have le257 := IH.le.trans le245 hl248
                    replace R3 := R3.mono hl248
                    replace R6 := R6.mono hl248
                    replace R9 := R9.mono hl248
                    replace R242 := R242.mono hl248
                    refine .some (fun ex => (pto b16 (.cells #[.int .i64 a0.Rows, .int .i64 a0.Cols, .slice p1 a0.Start.length c2, .slice p4 a0.Col.length c5, .slice p7 a0.Val.length c8] 29 (0, 0))) :: (pto b18 (.cells #[.int .i64 a1.1, .int .i64 a1.2] 23 (0, 0))) :: (pto b20 (.cells #[.int .i64 a2.1, .int .i64 a2.2] 23 (0, 0))) :: ex) rfl (fun _ _ => (.s (.s (.s .z)))) rfl trivial ?_
                    refine .w [] [] [3, 7, 7] rfl (by kernel_rfl) (by kernel_rfl) (by kernel_rfl) ((dropE_kept rfl rfl)) (.inr (dropE_kept rfl rfl)) fun ex => ?_
                    have hw264 := W_ref07_SameItems (I := I247) R242 R254 hd
                    refine .call Tryz.call20 rfl hw264 rfl rfl fun v262 I259 hl260 hv261 => ?_
                    obtain ⟨r258, rfl, hd⟩ := hv261
                    have le265 := IH.le.trans le256 hl260
                    have le266 := IH.le.trans le257 hl260
                    replace R3 := R3.mono hl260
                    replace R6 := R6.mono hl260
                    replace R9 := R9.mono hl260
                    replace R242 := R242.mono hl260
                    replace R254 := R254.mono hl260
                    refine .some (fun ex => (pto b16 (.cells #[.int .i64 a0.Rows, .int .i64 a0.Cols, .slice p1 a0.Start.length c2, .slice p4 a0.Col.length c5, .slice p7 a0.Val.length c8] 29 (0, 0))) :: (pto b18 (.cells #[.int .i64 a1.1, .int .i64 a1.2] 23 (0, 0))) :: (pto b20 (.cells #[.int .i64 a2.1, .int .i64 a2.2] 23 (0, 0))) :: ex) rfl (fun _ _ => (.s (.s (.s .z)))) rfl trivial ?_
                    refine .f [8, 8] rfl (by kernel_rfl) rfl rfl (fun ex => .move rfl rfl rfl .mk) ?_
                    refine split r258 (fun hb267 => ?_) (fun hb267 => ?_)
                    · have hd := hd.1 hb267
                      refine .f [9] rfl (by kernel_rfl) rfl rfl (fun ex => .gyes rfl rfl hb267 (.loadW Tryz.isAgg29 Tryz.sizeOf29 rfl .z rfl rfl rfl .mk)) ?_
                      refine .f [9] rfl (by kernel_rfl) rfl rfl (fun ex => .gyes rfl rfl hb267 (.loadW Tryz.isAgg29 Tryz.sizeOf29 rfl .z rfl rfl rfl .mk)) ?_
                      refine .w [12] [[], []] [10, 9, 9] rfl (by kernel_rfl) (by kernel_rfl) (by kernel_rfl) ((dropE_kept rfl rfl)) (.inr (dropE_kept rfl rfl)) fun ex => ?_
                      have hw278 := W_csr_Triples (I := I259) R3 R6 R9 hd
                      refine .gyes rfl rfl hb267 (.callO Tryz.call24 rfl hw278 rfl rfl fun v272 I269 l273 hl270 hv271 => ?_)
                      obtain ⟨r268, p274, c275, rfl, rfl, hd⟩ := hv271
                      have le279 := IH.le.trans le265 hl270
                      have le280 := IH.le.trans le266 hl270
                      replace R3 := R3.mono hl270
                      replace R6 := R6.mono hl270
                      replace R9 := R9.mono hl270
                      replace R242 := R242.mono hl270
                      replace R254 := R254.mono hl270
                      refine .some (fun ex => (OwnSl eTriple 60 p274 c275 r268) :: (pto b16 (.cells #[.int .i64 a0.Rows, .int .i64 a0.Cols, .slice p1 a0.Start.length c2, .slice p4 a0.Col.length c5, .slice p7 a0.Val.length c8] 29 (0, 0))) :: (pto b18 (.cells #[.int .i64 a1.1, .int .i64 a1.2] 23 (0, 0))) :: (pto b20 (.cells #[.int .i64 a2.1, .int .i64 a2.2] 23 (0, 0))) :: ex) rfl (fun _ _ => (.s (.s (.s (.s .z))))) rfl (.cc [9] rfl (by kernel_rfl) rfl rfl rfl (fun ex => .gyes rfl rfl hb267 (.loadW Tryz.isAgg29 Tryz.sizeOf29 rfl (.s .z) rfl rfl rfl .mk)) trivial) ?_
                      refine .w [] [[]] [12, 11, 9] rfl (by kernel_rfl) (by kernel_rfl) (by kernel_rfl) ((dropE_kept rfl rfl)) (.inr (dropE_kept rfl rfl)) fun ex => ?_
                      have hw290 := W_ref07_Triples (I := I269) R3 R6 R9 hd
                      refine .gyes rfl rfl hb267 (.call Tryz.call25 rfl hw290 rfl rfl fun v285 I282 hl283 hv284 => ?_)
                      obtain ⟨r281, p287, c288, rfl, R289, hd⟩ := hv284
                      have le291 := IH.le.trans le279 hl283
                      have le292 := IH.le.trans le280 hl283
                      replace R3 := R3.mono hl283
                      replace R6 := R6.mono hl283
                      replace R9 := R9.mono hl283
                      replace R242 := R242.mono hl283
                      replace R254 := R254.mono hl283
                      refine .some (fun ex => (OwnSl eTriple 60 p274 c275 r268) :: (pto b16 (.cells #[.int .i64 a0.Rows, .int .i64 a0.Cols, .slice p1 a0.Start.length c2, .slice p4 a0.Col.length c5, .slice p7 a0.Val.length c8] 29 (0, 0))) :: (pto b18 (.cells #[.int .i64 a1.1, .int .i64 a1.2] 23 (0, 0))) :: (pto b20 (.cells #[.int .i64 a2.1, .int .i64 a2.2] 23 (0, 0))) :: ex) rfl (fun _ _ => (.s (.s (.s (.s .z))))) rfl trivial ?_
                      refine .w [] [] [11, 13, 13, 9] rfl (by kernel_rfl) (by kernel_rfl) (by kernel_rfl) ((dropE_kept rfl rfl)) (.inr (dropE_kept rfl rfl)) fun ex => ?_
                      have hw294 := fun (J : IH) (hJ : IH.le I282 J) (hL : lentAll J [OwnSl eTriple 60 p274 c275 r268]) => W_ref06_SameTriples (I := J) (lent hL.1) (R289.mono hJ) hd
                      refine .gyes rfl rfl hb267 (.callB (.f Tryz.call23 rfl) (.c .z .n) hw294 rfl rfl fun v295 _ hv296 => ?_)
                      obtain ⟨r293, rfl, hd⟩ := hv296
                      refine .some (fun ex => (OwnSl eTriple 60 p274 c275 r268) :: (pto b16 (.cells #[.int .i64 a0.Rows, .int .i64 a0.Cols, .slice p1 a0.Start.length c2, .slice p4 a0.Col.length c5, .slice p7 a0.Val.length c8] 29 (0, 0))) :: (pto b18 (.cells #[.int .i64 a1.1, .int .i64 a1.2] 23 (0, 0))) :: (pto b20 (.cells #[.int .i64 a2.1, .int .i64 a2.2] 23 (0, 0))) :: ex) rfl (fun _ _ => (.s (.s (.s (.s .z))))) rfl trivial ?_
                      refine .f [9, 14] rfl (by kernel_rfl) rfl rfl (fun ex => .pickT rfl hb267 rfl rfl rfl .mk) ?_
                      refine .f [15, 14] rfl (by kernel_rfl) rfl rfl (fun ex => .move rfl rfl rfl .mk) ?_
                      refine split r293 (fun hb297 => ?_) (fun hb297 => ?_)
                      · have hd := hd.1 hb297
                        refine .f [16] rfl (by kernel_rfl) rfl rfl (fun ex => .gyes rfl rfl hb297 (.loadW Tryz.isAgg29 Tryz.sizeOf29 rfl (.s .z) rfl rfl rfl .mk)) ?_
                        refine .f [16] rfl (by kernel_rfl) rfl rfl (fun ex => .gyes rfl rfl hb297 (.loadW Tryz.isAgg29 Tryz.sizeOf29 rfl (.s .z) rfl rfl rfl .mk)) ?_
                        refine .w [19] [[], [], [16]] [17, 16, 16] rfl (by kernel_rfl) (by kernel_rfl) (by kernel_rfl) ((dropE_kept rfl rfl)) (.inr (dropE_kept rfl rfl)) fun ex => ?_
                        have hw313 := W_csr_Turn (I := I282) R3 R6 R9 hd
                        refine .gyes rfl rfl hb297 (.call Tryz.call26 rfl hw313 rfl rfl fun v302 I299 hl300 hv301 => ?_)
                        obtain ⟨r298, p304, c305, p307, c308, p310, c311, rfl, R306, R309, R312, hd⟩ := hv301
                        have le314 := IH.le.trans le291 hl300
                        have le315 := IH.le.trans le292 hl300
                        replace R3 := R3.mono hl300
                        replace R6 := R6.mono hl300
                        replace R9 := R9.mono hl300
                        replace R242 := R242.mono hl300
                        replace R254 := R254.mono hl300
                        replace R289 := R289.mono hl300
                        refine .some (fun ex => (OwnSl eTriple 60 p274 c275 r268) :: (pto b16 (.cells #[.int .i64 a0.Rows, .int .i64 a0.Cols, .slice p1 a0.Start.length c2, .slice p4 a0.Col.length c5, .slice p7 a0.Val.length c8] 29 (0, 0))) :: (pto b18 (.cells #[.int .i64 a1.1, .int .i64 a1.2] 23 (0, 0))) :: (pto b20 (.cells #[.int .i64 a2.1, .int .i64 a2.2] 23 (0, 0))) :: ex) rfl (fun _ _ => (.s (.s (.s (.s .z))))) rfl (.cc [16] rfl (by kernel_rfl) rfl rfl rfl (fun ex => .gyes rfl rfl hb297 (.loadW Tryz.isAgg29 Tryz.sizeOf29 rfl (.s .z) rfl rfl rfl .mk)) trivial) ?_
                        refine .w [] [[]] [19, 18, 16] rfl (by kernel_rfl) (by kernel_rfl) (by kernel_rfl) ((dropE_kept rfl rfl)) (.inr (dropE_kept rfl rfl)) fun ex => ?_
                        have hw331 := W_ref07_Turn (I := I299) R3 R6 R9 hd
                        refine .gyes rfl rfl hb297 (.call Tryz.call27 rfl hw331 rfl rfl fun v320 I317 hl318 hv319 => ?_)
                        obtain ⟨r316, p322, c323, p325, c326, p328, c329, rfl, R324, R327, R330, hd⟩ := hv319
                        have le332 := IH.le.trans le314 hl318
                        have le333 := IH.le.trans le315 hl318
                        replace R3 := R3.mono hl318
                        replace R6 := R6.mono hl318
                        replace R9 := R9.mono hl318
                        replace R242 := R242.mono hl318
                        replace R254 := R254.mono hl318
                        replace R289 := R289.mono hl318
                        replace R306 := R306.mono hl318
                        replace R309 := R309.mono hl318
                        replace R312 := R312.mono hl318
                        refine .some (fun ex => (OwnSl eTriple 60 p274 c275 r268) :: (pto b16 (.cells #[.int .i64 a0.Rows, .int .i64 a0.Cols, .slice p1 a0.Start.length c2, .slice p4 a0.Col.length c5, .slice p7 a0.Val.length c8] 29 (0, 0))) :: (pto b18 (.cells #[.int .i64 a1.1, .int .i64 a1.2] 23 (0, 0))) :: (pto b20 (.cells #[.int .i64 a2.1, .int .i64 a2.2] 23 (0, 0))) :: ex) rfl (fun _ _ => (.s (.s (.s (.s .z))))) rfl trivial ?_
                        refine .w [] [] [18, 20, 20, 16] rfl (by kernel_rfl) (by kernel_rfl) (by kernel_rfl) ((dropE_kept rfl rfl)) (.inr (dropE_kept rfl rfl)) fun ex => ?_
                        have hw340 := W_ref07_Same (I := I317) R306 R309 R312 R324 R327 R330 hd
                        refine .gyes rfl rfl hb297 (.call Tryz.call13 rfl hw340 rfl rfl fun v338 I335 hl336 hv337 => ?_)
                        obtain ⟨r334, rfl, hd⟩ := hv337
                        have le341 := IH.le.trans le332 hl336
                        have le342 := IH.le.trans le333 hl336
                        replace R3 := R3.mono hl336
                        replace R6 := R6.mono hl336
                        replace R9 := R9.mono hl336
                        replace R242 := R242.mono hl336
                        replace R254 := R254.mono hl336
                        replace R289 := R289.mono hl336
                        replace R306 := R306.mono hl336
                        replace R309 := R309.mono hl336
                        replace R312 := R312.mono hl336
                        replace R324 := R324.mono hl336
                        replace R327 := R327.mono hl336
                        replace R330 := R330.mono hl336
                        refine .some (fun ex => (OwnSl eTriple 60 p274 c275 r268) :: (pto b16 (.cells #[.int .i64 a0.Rows, .int .i64 a0.Cols, .slice p1 a0.Start.length c2, .slice p4 a0.Col.length c5, .slice p7 a0.Val.length c8] 29 (0, 0))) :: (pto b18 (.cells #[.int .i64 a1.1, .int .i64 a1.2] 23 (0, 0))) :: (pto b20 (.cells #[.int .i64 a2.1, .int .i64 a2.2] 23 (0, 0))) :: ex) rfl (fun _ _ => (.s (.s (.s (.s .z))))) rfl trivial ?_
                        refine .f [16, 21] rfl (by kernel_rfl) rfl rfl (fun ex => .pickT rfl hb297 rfl rfl rfl .mk) ?_
                        refine .f [22, 21] rfl (by kernel_rfl) rfl rfl (fun ex => .move rfl rfl rfl .mk) ?_
                        refine split r334 (fun hb343 => ?_) (fun hb343 => ?_)
                        · have hd := hd.1 hb343
                          refine .f [23] rfl (by kernel_rfl) rfl rfl (fun ex => .gyes rfl rfl hb343 (.loadW Tryz.isAgg29 Tryz.sizeOf29 rfl (.s .z) rfl rfl rfl .mk)) ?_
                          refine .f [23] rfl (by kernel_rfl) rfl rfl (fun ex => .gyes rfl rfl hb343 (.loadW Tryz.isAgg23 Tryz.sizeOf23 rfl (.s (.s .z)) rfl rfl rfl .mk)) ?_
                          refine .f [23] rfl (by kernel_rfl) rfl rfl (fun ex => .gyes rfl rfl hb343 (.loadW Tryz.isAgg23 Tryz.sizeOf23 rfl (.s (.s (.s .z))) rfl rfl rfl .mk)) ?_
                          refine .f [23] rfl (by kernel_rfl) rfl rfl (fun ex => .gyes rfl rfl hb343 (.loadW Tryz.isAgg29 Tryz.sizeOf29 rfl (.s .z) rfl rfl rfl .mk)) ?_
                          refine .f [23] rfl (by kernel_rfl) rfl rfl (fun ex => .gyes rfl rfl hb343 (.loadW Tryz.isAgg23 Tryz.sizeOf23 rfl (.s (.s .z)) rfl rfl rfl .mk)) ?_
                          refine .f [23] rfl (by kernel_rfl) rfl rfl (fun ex => .gyes rfl rfl hb343 (.loadW Tryz.isAgg23 Tryz.sizeOf23 rfl (.s (.s (.s .z))) rfl rfl rfl .mk)) ?_
                          refine .w [30, 29, 28] [[], [], [], [], [23]] [24, 25, 26, 23, 23] rfl (by kernel_rfl) (by kernel_rfl) (by kernel_rfl) ((dropE_kept rfl rfl)) (.inr (dropE_kept rfl rfl)) fun ex => ?_
                          have hw359 := W_csr_Cut (I := I335) R3 R6 R9 hd
                          refine .gyes rfl rfl hb343 (.call Tryz.call28 rfl hw359 rfl rfl fun v348 I345 hl346 hv347 => ?_)
                          obtain ⟨r344, p350, c351, p353, c354, p356, c357, rfl, R352, R355, R358, hd⟩ := hv347
                          have le360 := IH.le.trans le341 hl346
                          have le361 := IH.le.trans le342 hl346
                          replace R3 := R3.mono hl346
                          replace R6 := R6.mono hl346
                          replace R9 := R9.mono hl346
                          replace R242 := R242.mono hl346
                          replace R254 := R254.mono hl346
                          replace R289 := R289.mono hl346
                          replace R306 := R306.mono hl346
                          replace R309 := R309.mono hl346
                          replace R312 := R312.mono hl346
                          replace R324 := R324.mono hl346
                          replace R327 := R327.mono hl346
                          replace R330 := R330.mono hl346
                          refine .some (fun ex => (OwnSl eTriple 60 p274 c275 r268) :: (pto b16 (.cells #[.int .i64 a0.Rows, .int .i64 a0.Cols, .slice p1 a0.Start.length c2, .slice p4 a0.Col.length c5, .slice p7 a0.Val.length c8] 29 (0, 0))) :: (pto b18 (.cells #[.int .i64 a1.1, .int .i64 a1.2] 23 (0, 0))) :: (pto b20 (.cells #[.int .i64 a2.1, .int .i64 a2.2] 23 (0, 0))) :: ex) rfl (fun _ _ => (.s (.s (.s (.s .z))))) rfl (.cc [23] rfl (by kernel_rfl) rfl rfl rfl (fun ex => .gyes rfl rfl hb343 (.loadW Tryz.isAgg23 Tryz.sizeOf23 rfl (.s (.s (.s .z))) rfl rfl rfl .mk)) (.cc [23] rfl (by kernel_rfl) rfl rfl rfl (fun ex => .gyes rfl rfl hb343 (.loadW Tryz.isAgg23 Tryz.sizeOf23 rfl (.s (.s .z)) rfl rfl rfl .mk)) (.cc [23] rfl (by kernel_rfl) rfl rfl rfl (fun ex => .gyes rfl rfl hb343 (.loadW Tryz.isAgg29 Tryz.sizeOf29 rfl (.s .z) rfl rfl rfl .mk)) trivial))) ?_
                          refine .w [] [[], [], []] [28, 29, 30, 27, 23] rfl (by kernel_rfl) (by kernel_rfl) (by kernel_rfl) ((dropE_kept rfl rfl)) (.inr (dropE_kept rfl rfl)) fun ex => ?_
                          have hw377 := W_ref07_Cut (I := I345) R3 R6 R9 hd
                          refine .gyes rfl rfl hb343 (.call Tryz.call29 rfl hw377 rfl rfl fun v366 I363 hl364 hv365 => ?_)
                          obtain ⟨r362, p368, c369, p371, c372, p374, c375, rfl, R370, R373, R376, hd⟩ := hv365
                          have le378 := IH.le.trans le360 hl364
                          have le379 := IH.le.trans le361 hl364
                          replace R3 := R3.mono hl364
                          replace R6 := R6.mono hl364
                          replace R9 := R9.mono hl364
                          replace R242 := R242.mono hl364
                          replace R254 := R254.mono hl364
                          replace R289 := R289.mono hl364
                          replace R306 := R306.mono hl364
                          replace R309 := R309.mono hl364
                          replace R312 := R312.mono hl364
                          replace R324 := R324.mono hl364
                          replace R327 := R327.mono hl364
                          replace R330 := R330.mono hl364
                          replace R352 := R352.mono hl364
                          replace R355 := R355.mono hl364
                          replace R358 := R358.mono hl364
                          refine .some (fun ex => (OwnSl eTriple 60 p274 c275 r268) :: (pto b16 (.cells #[.int .i64 a0.Rows, .int .i64 a0.Cols, .slice p1 a0.Start.length c2, .slice p4 a0.Col.length c5, .slice p7 a0.Val.length c8] 29 (0, 0))) :: (pto b18 (.cells #[.int .i64 a1.1, .int .i64 a1.2] 23 (0, 0))) :: (pto b20 (.cells #[.int .i64 a2.1, .int .i64 a2.2] 23 (0, 0))) :: ex) rfl (fun _ _ => (.s (.s (.s (.s .z))))) rfl trivial ?_
                          refine .w [] [] [27, 31, 31, 23] rfl (by kernel_rfl) (by kernel_rfl) (by kernel_rfl) ((dropE_kept rfl rfl)) (.inr (dropE_kept rfl rfl)) fun ex => ?_
                          have hw386 := W_ref07_Same (I := I363) R352 R355 R358 R370 R373 R376 hd
                          refine .gyes rfl rfl hb343 (.call Tryz.call13 rfl hw386 rfl rfl fun v384 I381 hl382 hv383 => ?_)
                          obtain ⟨r380, rfl, hd⟩ := hv383
                          have le387 := IH.le.trans le378 hl382
                          have le388 := IH.le.trans le379 hl382
                          replace R3 := R3.mono hl382
                          replace R6 := R6.mono hl382
                          replace R9 := R9.mono hl382
                          replace R242 := R242.mono hl382
                          replace R254 := R254.mono hl382
                          replace R289 := R289.mono hl382
                          replace R306 := R306.mono hl382
                          replace R309 := R309.mono hl382
                          replace R312 := R312.mono hl382
                          replace R324 := R324.mono hl382
                          replace R327 := R327.mono hl382
                          replace R330 := R330.mono hl382
                          replace R352 := R352.mono hl382
                          replace R355 := R355.mono hl382
                          replace R358 := R358.mono hl382
                          replace R370 := R370.mono hl382
                          replace R373 := R373.mono hl382
                          replace R376 := R376.mono hl382
                          refine .some (fun ex => (OwnSl eTriple 60 p274 c275 r268) :: (pto b16 (.cells #[.int .i64 a0.Rows, .int .i64 a0.Cols, .slice p1 a0.Start.length c2, .slice p4 a0.Col.length c5, .slice p7 a0.Val.length c8] 29 (0, 0))) :: (pto b18 (.cells #[.int .i64 a1.1, .int .i64 a1.2] 23 (0, 0))) :: (pto b20 (.cells #[.int .i64 a2.1, .int .i64 a2.2] 23 (0, 0))) :: ex) rfl (fun _ _ => (.s (.s (.s (.s .z))))) rfl trivial ?_
                          refine .f [23, 32] rfl (by kernel_rfl) rfl rfl (fun ex => .pickT rfl hb343 rfl rfl rfl .mk) ?_
                          refine .f [33, 32] rfl (by kernel_rfl) rfl rfl (fun ex => .move rfl rfl rfl .mk) ?_
                          refine split r380 (fun hb389 => ?_) (fun hb389 => ?_)
                          · have hd := hd.1 hb389
                            refine .f [34] rfl (by kernel_rfl) rfl rfl (fun ex => .gyes rfl rfl hb389 (.loadW Tryz.isAgg29 Tryz.sizeOf29 rfl (.s .z) rfl rfl rfl .mk)) ?_
                            refine .f [34] rfl (by kernel_rfl) rfl rfl (fun ex => .gyes rfl rfl hb389 (.loadW Tryz.isAgg29 Tryz.sizeOf29 rfl (.s .z) rfl rfl rfl .mk)) ?_
                            refine .w [] [[], [], [], [34]] [35, 36, 34, 34] rfl (by kernel_rfl) (by kernel_rfl) (by kernel_rfl) ((dropE_kept rfl rfl)) (.inr (dropE_kept rfl rfl)) fun ex => ?_
                            have hw396 := W_csr_Same (I := I381) R3 R6 R9 R3 R6 R9 hd
                            refine .gyes rfl rfl hb389 (.call Tryz.call30 rfl hw396 rfl rfl fun v394 I391 hl392 hv393 => ?_)
                            obtain ⟨r390, rfl, hd⟩ := hv393
                            have le397 := IH.le.trans le387 hl392
                            have le398 := IH.le.trans le388 hl392
                            replace R3 := R3.mono hl392
                            replace R6 := R6.mono hl392
                            replace R9 := R9.mono hl392
                            replace R242 := R242.mono hl392
                            replace R254 := R254.mono hl392
                            replace R289 := R289.mono hl392
                            replace R306 := R306.mono hl392
                            replace R309 := R309.mono hl392
                            replace R312 := R312.mono hl392
                            replace R324 := R324.mono hl392
                            replace R327 := R327.mono hl392
                            replace R330 := R330.mono hl392
                            replace R352 := R352.mono hl392
                            replace R355 := R355.mono hl392
                            replace R358 := R358.mono hl392
                            replace R370 := R370.mono hl392
                            replace R373 := R373.mono hl392
                            replace R376 := R376.mono hl392
                            refine .some (fun ex => (OwnSl eTriple 60 p274 c275 r268) :: (pto b16 (.cells #[.int .i64 a0.Rows, .int .i64 a0.Cols, .slice p1 a0.Start.length c2, .slice p4 a0.Col.length c5, .slice p7 a0.Val.length c8] 29 (0, 0))) :: (pto b18 (.cells #[.int .i64 a1.1, .int .i64 a1.2] 23 (0, 0))) :: (pto b20 (.cells #[.int .i64 a2.1, .int .i64 a2.2] 23 (0, 0))) :: ex) rfl (fun _ _ => (.s (.s (.s (.s .z))))) rfl trivial ?_
                            refine .f [34, 37] rfl (by kernel_rfl) rfl rfl (fun ex => .pickT rfl hb389 rfl rfl rfl .mk) ?_
                            refine .e 39 (by kernel_rfl) (by kernel_rfl) (by kernel_rfl) ?_
                            refine .skips 1 rfl ?_
                            refine .nil' fun c w ho hs => Cod.at (E := [(6, _)]) (ho.sub ⟨rfl, trivial⟩) hs ?_
                            refine .drop .z ?_
                            refine .drop .z ?_
                            refine .drop .z ?_
                            refine .drop .z ?_
                            exact .ret (pret Tryz.results4 (.t rfl .n) le397 ⟨r390, rfl, hd⟩)
                          · have hd := hd.2 hb389
                            refine .f [34] rfl (by kernel_rfl) rfl rfl (fun ex => .gno rfl rfl hb389 rfl rfl .mk) ?_
                            refine .f [34] rfl (by kernel_rfl) rfl rfl (fun ex => .gno rfl rfl hb389 rfl rfl .mk) ?_
                            refine .f [35, 36, 34, 34] rfl (by kernel_rfl) rfl rfl (fun ex => .gno rfl rfl hb389 rfl rfl .mk) ?_
                            refine .f [34, 37] rfl (by kernel_rfl) rfl rfl (fun ex => .pickF rfl hb389 rfl rfl rfl .mk) ?_
                            refine .e 39 (by kernel_rfl) (by kernel_rfl) (by kernel_rfl) ?_
                            refine .skips 1 rfl ?_
                            refine .nil' fun c w ho hs => Cod.at (E := [(6, _)]) (ho.sub ⟨rfl, trivial⟩) hs ?_
                            refine .drop .z ?_
                            refine .drop .z ?_
                            refine .drop .z ?_
                            refine .drop .z ?_
                            exact .ret (pret Tryz.results4 (.t rfl .n) le387 ⟨false, rfl, hd⟩)
                        · have hd := hd.2 hb343
                          refine .f [23] rfl (by kernel_rfl) rfl rfl (fun ex => .gno rfl rfl hb343 rfl rfl .mk) ?_
                          refine .f [23] rfl (by kernel_rfl) rfl rfl (fun ex => .gno rfl rfl hb343 rfl rfl .mk) ?_
                          refine .f [23] rfl (by kernel_rfl) rfl rfl (fun ex => .gno rfl rfl hb343 rfl rfl .mk) ?_
                          refine .f [23] rfl (by kernel_rfl) rfl rfl (fun ex => .gno rfl rfl hb343 rfl rfl .mk) ?_
                          refine .f [23] rfl (by kernel_rfl) rfl rfl (fun ex => .gno rfl rfl hb343 rfl rfl .mk) ?_
                          refine .f [23] rfl (by kernel_rfl) rfl rfl (fun ex => .gno rfl rfl hb343 rfl rfl .mk) ?_
                          refine .f [24, 25, 26, 23, 23] rfl (by kernel_rfl) rfl rfl (fun ex => .gno rfl rfl hb343 rfl rfl .mk) ?_
                          refine .f [28, 29, 30, 27, 23] rfl (by kernel_rfl) rfl rfl (fun ex => .gno rfl rfl hb343 rfl rfl .mk) ?_
                          refine .f [27, 31, 31, 23] rfl (by kernel_rfl) rfl rfl (fun ex => .gno rfl rfl hb343 rfl rfl .mk) ?_
                          refine .f [23, 32] rfl (by kernel_rfl) rfl rfl (fun ex => .pickF rfl hb343 rfl rfl rfl .mk) ?_
                          refine .f [33, 32] rfl (by kernel_rfl) rfl rfl (fun ex => .move rfl rfl rfl .mk) ?_
                          refine .f [34] rfl (by kernel_rfl) rfl rfl (fun ex => .gno rfl rfl rfl rfl rfl .mk) ?_
                          refine .f [34] rfl (by kernel_rfl) rfl rfl (fun ex => .gno rfl rfl rfl rfl rfl .mk) ?_
                          refine .f [35, 36, 34, 34] rfl (by kernel_rfl) rfl rfl (fun ex => .gno rfl rfl rfl rfl rfl .mk) ?_
                          refine .f [34, 37] rfl (by kernel_rfl) rfl rfl (fun ex => .pickF rfl rfl rfl rfl rfl .mk) ?_
                          refine .e 39 (by kernel_rfl) (by kernel_rfl) (by kernel_rfl) ?_
                          refine .skips 1 rfl ?_
                          refine .nil' fun c w ho hs => Cod.at (E := [(6, _)]) (ho.sub ⟨rfl, trivial⟩) hs ?_
                          refine .drop .z ?_
                          refine .drop .z ?_
                          refine .drop .z ?_
                          refine .drop .z ?_
                          exact .ret (pret Tryz.results4 (.t rfl .n) le341 ⟨false, rfl, hd⟩)
                      · have hd := hd.2 hb297
                        refine .f [16] rfl (by kernel_rfl) rfl rfl (fun ex => .gno rfl rfl hb297 rfl rfl .mk) ?_
                        refine .f [16] rfl (by kernel_rfl) rfl rfl (fun ex => .gno rfl rfl hb297 rfl rfl .mk) ?_
                        refine .f [17, 16, 16] rfl (by kernel_rfl) rfl rfl (fun ex => .gno rfl rfl hb297 rfl rfl .mk) ?_
                        refine .f [19, 18, 16] rfl (by kernel_rfl) rfl rfl (fun ex => .gno rfl rfl hb297 rfl rfl .mk) ?_
                        refine .f [18, 20, 20, 16] rfl (by kernel_rfl) rfl rfl (fun ex => .gno rfl rfl hb297 rfl rfl .mk) ?_
                        refine .f [16, 21] rfl (by kernel_rfl) rfl rfl (fun ex => .pickF rfl hb297 rfl rfl rfl .mk) ?_
                        refine .f [22, 21] rfl (by kernel_rfl) rfl rfl (fun ex => .move rfl rfl rfl .mk) ?_
                        refine .f [23] rfl (by kernel_rfl) rfl rfl (fun ex => .gno rfl rfl rfl rfl rfl .mk) ?_
                        refine .f [23] rfl (by kernel_rfl) rfl rfl (fun ex => .gno rfl rfl rfl rfl rfl .mk) ?_
                        refine .f [23] rfl (by kernel_rfl) rfl rfl (fun ex => .gno rfl rfl rfl rfl rfl .mk) ?_
                        refine .f [23] rfl (by kernel_rfl) rfl rfl (fun ex => .gno rfl rfl rfl rfl rfl .mk) ?_
                        refine .f [23] rfl (by kernel_rfl) rfl rfl (fun ex => .gno rfl rfl rfl rfl rfl .mk) ?_
                        refine .f [23] rfl (by kernel_rfl) rfl rfl (fun ex => .gno rfl rfl rfl rfl rfl .mk) ?_
                        refine .f [24, 25, 26, 23, 23] rfl (by kernel_rfl) rfl rfl (fun ex => .gno rfl rfl rfl rfl rfl .mk) ?_
                        refine .f [28, 29, 30, 27, 23] rfl (by kernel_rfl) rfl rfl (fun ex => .gno rfl rfl rfl rfl rfl .mk) ?_
                        refine .f [27, 31, 31, 23] rfl (by kernel_rfl) rfl rfl (fun ex => .gno rfl rfl rfl rfl rfl .mk) ?_
                        refine .f [23, 32] rfl (by kernel_rfl) rfl rfl (fun ex => .pickF rfl rfl rfl rfl rfl .mk) ?_
                        refine .f [33, 32] rfl (by kernel_rfl) rfl rfl (fun ex => .move rfl rfl rfl .mk) ?_
                        refine .f [34] rfl (by kernel_rfl) rfl rfl (fun ex => .gno rfl rfl rfl rfl rfl .mk) ?_
                        refine .f [34] rfl (by kernel_rfl) rfl rfl (fun ex => .gno rfl rfl rfl rfl rfl .mk) ?_
                        refine .f [35, 36, 34, 34] rfl (by kernel_rfl) rfl rfl (fun ex => .gno rfl rfl rfl rfl rfl .mk) ?_
                        refine .f [34, 37] rfl (by kernel_rfl) rfl rfl (fun ex => .pickF rfl rfl rfl rfl rfl .mk) ?_
                        refine .e 39 (by kernel_rfl) (by kernel_rfl) (by kernel_rfl) ?_
                        refine .skips 1 rfl ?_
                        refine .nil' fun c w ho hs => Cod.at (E := [(6, _)]) (ho.sub ⟨rfl, trivial⟩) hs ?_
                        refine .drop .z ?_
                        refine .drop .z ?_
                        refine .drop .z ?_
                        refine .drop .z ?_
                        exact .ret (pret Tryz.results4 (.t rfl .n) le291 ⟨false, rfl, hd⟩)
                    · have hd := hd.2 hb267
                      refine .f [9] rfl (by kernel_rfl) rfl rfl (fun ex => .gno rfl rfl hb267 rfl rfl .mk) ?_
                      refine .f [9] rfl (by kernel_rfl) rfl rfl (fun ex => .gno rfl rfl hb267 rfl rfl .mk) ?_
                      refine .f [10, 9, 9] rfl (by kernel_rfl) rfl rfl (fun ex => .gno rfl rfl hb267 rfl rfl .mk) ?_
                      refine .f [12, 11, 9] rfl (by kernel_rfl) rfl rfl (fun ex => .gno rfl rfl hb267 rfl rfl .mk) ?_
                      refine .f [11, 13, 13, 9] rfl (by kernel_rfl) rfl rfl (fun ex => .gno rfl rfl hb267 rfl rfl .mk) ?_
                      refine .f [9, 14] rfl (by kernel_rfl) rfl rfl (fun ex => .pickF rfl hb267 rfl rfl rfl .mk) ?_
                      refine .f [15, 14] rfl (by kernel_rfl) rfl rfl (fun ex => .move rfl rfl rfl .mk) ?_
                      refine .f [16] rfl (by kernel_rfl) rfl rfl (fun ex => .gno rfl rfl rfl rfl rfl .mk) ?_
                      refine .f [16] rfl (by kernel_rfl) rfl rfl (fun ex => .gno rfl rfl rfl rfl rfl .mk) ?_
                      refine .f [17, 16, 16] rfl (by kernel_rfl) rfl rfl (fun ex => .gno rfl rfl rfl rfl rfl .mk) ?_
                      refine .f [19, 18, 16] rfl (by kernel_rfl) rfl rfl (fun ex => .gno rfl rfl rfl rfl rfl .mk) ?_
                      refine .f [18, 20, 20, 16] rfl (by kernel_rfl) rfl rfl (fun ex => .gno rfl rfl rfl rfl rfl .mk) ?_
                      refine .f [16, 21] rfl (by kernel_rfl) rfl rfl (fun ex => .pickF rfl rfl rfl rfl rfl .mk) ?_
                      refine .f [22, 21] rfl (by kernel_rfl) rfl rfl (fun ex => .move rfl rfl rfl .mk) ?_
                      refine .f [23] rfl (by kernel_rfl) rfl rfl (fun ex => .gno rfl rfl rfl rfl rfl .mk) ?_
                      refine .f [23] rfl (by kernel_rfl) rfl rfl (fun ex => .gno rfl rfl rfl rfl rfl .mk) ?_
                      refine .f [23] rfl (by kernel_rfl) rfl rfl (fun ex => .gno rfl rfl rfl rfl rfl .mk) ?_
                      refine .f [23] rfl (by kernel_rfl) rfl rfl (fun ex => .gno rfl rfl rfl rfl rfl .mk) ?_
                      refine .f [23] rfl (by kernel_rfl) rfl rfl (fun ex => .gno rfl rfl rfl rfl rfl .mk) ?_
                      refine .f [23] rfl (by kernel_rfl) rfl rfl (fun ex => .gno rfl rfl rfl rfl rfl .mk) ?_
                      refine .f [24, 25, 26, 23, 23] rfl (by kernel_rfl) rfl rfl (fun ex => .gno rfl rfl rfl rfl rfl .mk) ?_
                      refine .f [28, 29, 30, 27, 23] rfl (by kernel_rfl) rfl rfl (fun ex => .gno rfl rfl rfl rfl rfl .mk) ?_
                      refine .f [27, 31, 31, 23] rfl (by kernel_rfl) rfl rfl (fun ex => .gno rfl rfl rfl rfl rfl .mk) ?_
                      refine .f [23, 32] rfl (by kernel_rfl) rfl rfl (fun ex => .pickF rfl rfl rfl rfl rfl .mk) ?_
                      refine .f [33, 32] rfl (by kernel_rfl) rfl rfl (fun ex => .move rfl rfl rfl .mk) ?_
                      refine .f [34] rfl (by kernel_rfl) rfl rfl (fun ex => .gno rfl rfl rfl rfl rfl .mk) ?_
                      refine .f [34] rfl (by kernel_rfl) rfl rfl (fun ex => .gno rfl rfl rfl rfl rfl .mk) ?_
                      refine .f [35, 36, 34, 34] rfl (by kernel_rfl) rfl rfl (fun ex => .gno rfl rfl rfl rfl rfl .mk) ?_
                      refine .f [34, 37] rfl (by kernel_rfl) rfl rfl (fun ex => .pickF rfl rfl rfl rfl rfl .mk) ?_
                      refine .e 39 (by kernel_rfl) (by kernel_rfl) (by kernel_rfl) ?_
                      refine .skips 1 rfl ?_
                      refine .nil' fun c w ho hs => Cod.at (E := [(6, _)]) (ho.sub ⟨rfl, trivial⟩) hs ?_
                      refine .drop .z ?_
                      refine .drop .z ?_
                      refine .drop .z ?_
                      exact .ret (pret Tryz.results4 (.t rfl .n) le265 ⟨false, rfl, hd⟩)

end Go.Proofs.YtindbiojednfbaaGreat
