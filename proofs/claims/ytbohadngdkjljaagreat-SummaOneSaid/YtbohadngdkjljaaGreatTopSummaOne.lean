/- SummaOne of package fretworklaw26: at every input the law answers true. No conditions. -/
import Derived.Test.YtbohadngdkjljaaGreatRows
import Derived.Test.YtbohadngdkjljaaGreatVSummaOne1
import Derived.Test.YtbohadngdkjljaaGreatSumT
import Derived.Test.YtbohadngdkjljaaGreatRD
import Derived.Test.YtbohadngdkjljaaGreatJSummaOne
import Derived.WalkKit
import Derived.ProofKit
namespace Go.Proofs.YtbohadngdkjljaaGreat.SummaOne
open Go Go.Fw Go.ChangeShapes Go.WideShapes Go.ChangeAt Go.RowKit
set_option linter.unusedVariables false
set_option maxRecDepth 100000
theorem own:ownKnob Tryz.prog.godebug=none:=by kernel_rfl
theorem LO:laidOutB Tryz.prog=true:=by kernel_rfl
theorem Ae0 (os:Os) (started:os.Started) (H:Type) (enc:TypeId×Value→H) :
    ReturnsInHanded {} Tryz.checked os 6 .any (Rows.summaOneSpec.pre6 enc Tryz.prog Tryz.f6 Rows.summaOneRow.domain false) (Rows.summaOneSpec.post enc Tryz.prog Tryz.f6 false true false false):=by
  refine returnsInHanded_of_change (C:=Tryz.checked) own started (by kernel_rfl) Tryz.func6
    (ChangeSpec.witness6 (enc:=enc) (C:=Tryz.checked) false ⟨#[],#[.agg #[.int .i64 0,.int .u8 0,.int .u8 0,.int .u8 0,.slice none 0 0,.slice none 0 0,.slice none 0 0,.int .u8 0,.int .u8 0,.int .u8 0],.agg #[.slice none 0 0,.int .u8 0]],[]⟩ 12 (by kernel_rfl) (by kernel_rfl) (by kernel_rfl) (by kernel_rfl)) ?_
  intro W base args ds gs before hval0 hW hcnd _
  have hval:∀ (j:Nat) t v,Tryz.f6.params[j]? = some t→args[j]? = some v→Value.okWide Tryz.prog W .any base t v:=hval0
  have hW':=hW
  obtain ⟨p,q,hA0,hV,rfl,hfz,hnd⟩:=hW
  have hA:DataW.TrodAll enc Tryz.prog W 0 (fun _=>true) true Tryz.f6.params.toList args.toList ds p:=hA0
  rw [Tryz.params6] at hA hval
  obtain ⟨v0,vs0,d0,ds0,p0,q0,hargs,rfl,rfl,h0,r0⟩:=trodAll_cons hA
  obtain ⟨v1,vs1,d1,ds1,p1,q1,rfl,rfl,rfl,h1,r1⟩:=trodAll_cons r0
  obtain ⟨rfl,rfl,rfl⟩:=trodAll_nil r1
  obtain rfl:args = #[v0,v1]:=by cases args; simp_all
  obtain ⟨cs0,a0,rfl,g0,w0⟩:=Rd.argA AfF (hval 0 58 v0 rfl rfl) h0 (by kernel_rfl)
  obtain ⟨cs0⟩:=cs0
  obtain ⟨p0_0,c0_0,p0_1,c0_1,p0_2,c0_2,g0,R0_0,R0_1,R0_2⟩:=g0
  cases g0
  obtain ⟨cs1,a1,rfl,g1,w1⟩:=Rd.argA AfJ (hval 1 28 v1 rfl rfl) h1 (by kernel_rfl)
  obtain ⟨cs1⟩:=cs1
  obtain ⟨p1_0,c1_0,g1,R1_0⟩:=g1
  cases g1
  refine wN (eJ R0_0 R0_1 R0_2 R1_0 (rK a0 a1 w0)) fun I v W' hφ hb=>?_
  obtain ⟨r,rfl,rfl⟩:=hφ
  exact ⟨_,rfl,yW LO (by kernel_rfl) rfl Tryz.underlying4 rfl (fun ds hl=>by match ds,hl with | [d0,d1],_=>rfl) hW' hb⟩
theorem over:Rows.summaOneRow.holds Tryz.pinned (OpenSpec.ofChange Rows.summaOneSpec):=
  OpenClaim.holds_of_wide 6 Tryz.f6 rfl rfl rfl rfl rfl rfl rfl ⟨rfl,rfl,rfl,rfl,rfl⟩ rfl rfl rfl rfl rfl JN Tryz.func6 JF
    (of_decide_eq_true (by kernel_rfl)) (by unfold Func.isWrapper; first | (rw [if_pos (by decide +kernel)]; kernel_rfl) | (rw [if_neg (by decide +kernel)]; exact ⟨rfl,rfl⟩))
    (fun os started H enc _=>Ae0 os started H enc)
theorem proved:Rows.SummaOneSaid:=over
#print axioms proved
end Go.Proofs.YtbohadngdkjljaaGreat.SummaOne
