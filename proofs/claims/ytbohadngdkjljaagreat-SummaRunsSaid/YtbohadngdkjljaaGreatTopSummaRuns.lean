/- SummaRuns of package fretworklaw26: at every input the law answers true. No conditions. -/
import Derived.Test.YtbohadngdkjljaaGreatRows
import Derived.Test.YtbohadngdkjljaaGreatVSummaRuns1
import Derived.Test.YtbohadngdkjljaaGreatPlyH
import Derived.Test.YtbohadngdkjljaaGreatRD
import Derived.Test.YtbohadngdkjljaaGreatJSummaRuns
import Derived.WalkKit
import Derived.ProofKit
namespace Go.Proofs.YtbohadngdkjljaaGreat.SummaRuns
open Go Go.Fw Go.ChangeShapes Go.WideShapes Go.ChangeAt Go.RowKit
set_option linter.unusedVariables false
set_option maxRecDepth 100000
theorem own:ownKnob Tryz.prog.godebug=none:=by kernel_rfl
theorem LO:laidOutB Tryz.prog=true:=by kernel_rfl
theorem AdF (os:Os) (started:os.Started) (H:Type) (enc:TypeId×Value→H) :
    ReturnsInHanded {} Tryz.checked os 5 .any (Rows.summaRunsSpec.pre6 enc Tryz.prog Tryz.f5 Rows.summaRunsRow.domain false) (Rows.summaRunsSpec.post enc Tryz.prog Tryz.f5 false true false false):=by
  refine returnsInHanded_of_change (C:=Tryz.checked) own started (by kernel_rfl) Tryz.func5
    (ChangeSpec.witness6 (enc:=enc) (C:=Tryz.checked) false ⟨#[],#[.agg #[.int .i64 0,.int .u8 0,.int .u8 0,.int .u8 0,.slice none 0 0,.slice none 0 0,.slice none 0 0,.int .u8 0,.int .u8 0,.int .u8 0],.agg #[.slice none 0 0,.int .u8 0],.agg #[.int .i64 0,.int .i64 0,.int .i64 0,.int .i64 0]],[]⟩ 12 (by kernel_rfl) (by kernel_rfl) (by kernel_rfl) (by kernel_rfl)) ?_
  intro W base args ds gs before hval0 hW hcnd _
  have hval:∀ (j:Nat) t v,Tryz.f5.params[j]? = some t→args[j]? = some v→Value.okWide Tryz.prog W .any base t v:=hval0
  have hW':=hW
  obtain ⟨p,q,hA0,hV,rfl,hfz,hnd⟩:=hW
  have hA:DataW.TrodAll enc Tryz.prog W 0 (fun _=>true) true Tryz.f5.params.toList args.toList ds p:=hA0
  rw [Tryz.params5] at hA hval
  obtain ⟨v0,vs0,d0,ds0,p0,q0,hargs,rfl,rfl,h0,r0⟩:=trodAll_cons hA
  obtain ⟨v1,vs1,d1,ds1,p1,q1,rfl,rfl,rfl,h1,r1⟩:=trodAll_cons r0
  obtain ⟨v2,vs2,d2,ds2,p2,q2,rfl,rfl,rfl,h2,r2⟩:=trodAll_cons r1
  obtain ⟨rfl,rfl,rfl⟩:=trodAll_nil r2
  obtain rfl:args = #[v0,v1,v2]:=by cases args; simp_all
  obtain ⟨cs0,a0,rfl,g0,w0⟩:=Rd.argA AeV (hval 0 58 v0 rfl rfl) h0 (by kernel_rfl)
  obtain ⟨cs0⟩:=cs0
  obtain ⟨q0_,g0,R0⟩:=g0
  cases g0
  obtain ⟨cs1,a1,rfl,g1,w1⟩:=Rd.argA AeZ (hval 1 28 v1 rfl rfl) h1 (by kernel_rfl)
  obtain ⟨cs1⟩:=cs1
  obtain ⟨p1_0,c1_0,g1,R1_0⟩:=g1
  cases g1
  obtain ⟨cs2,a2,rfl,g2,w2⟩:=Rd.argA Af0 (hval 2 71 v2 rfl rfl) h2 (by kernel_rfl)
  obtain ⟨cs2⟩:=cs2
  cases g2
  refine vO (bH R0 R1_0 (mR a0 a1 a2 w0 w1)) fun I v W' hφ hb=>?_
  obtain ⟨r,rfl,rfl⟩:=hφ
  exact ⟨_,rfl,zD LO (by kernel_rfl) rfl Tryz.underlying4 rfl (fun ds hl=>by match ds,hl with | [d0,d1,d2],_=>rfl) hW' hb⟩
theorem over:Rows.summaRunsRow.holds Tryz.pinned (OpenSpec.ofChange Rows.summaRunsSpec):=
  OpenClaim.holds_of_wide 5 Tryz.f5 rfl rfl rfl rfl rfl rfl rfl ⟨rfl,rfl,rfl,rfl,rfl⟩ rfl rfl rfl rfl rfl JN Tryz.func5 JF
    (of_decide_eq_true (by kernel_rfl)) (by unfold Func.isWrapper; first | (rw [if_pos (by decide +kernel)]; kernel_rfl) | (rw [if_neg (by decide +kernel)]; exact ⟨rfl,rfl⟩))
    (fun os started H enc _=>AdF os started H enc)
theorem proved:Rows.SummaRunsSaid:=over
#print axioms proved
end Go.Proofs.YtbohadngdkjljaaGreat.SummaRuns
