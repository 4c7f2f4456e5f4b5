/- SummaFair of package fretworklaw26: at every input the law answers true. No conditions. -/
import Derived.Test.YtbohadngdkjljaaGreatRows
import Derived.Test.YtbohadngdkjljaaGreatVSummaFair1
import Derived.Test.YtbohadngdkjljaaGreatSumQ
import Derived.Test.YtbohadngdkjljaaGreatRD
import Derived.Test.YtbohadngdkjljaaGreatJSummaFair
import Derived.WalkKit
import Derived.ProofKit
namespace Go.Proofs.YtbohadngdkjljaaGreat.SummaFair
open Go Go.Fw Go.ChangeShapes Go.WideShapes Go.ChangeAt Go.RowKit
set_option linter.unusedVariables false
set_option maxRecDepth 100000
theorem own:ownKnob Tryz.prog.godebug=none:=by kernel_rfl
theorem LO:laidOutB Tryz.prog=true:=by kernel_rfl
theorem AdV (os:Os) (started:os.Started) (H:Type) (enc:TypeId×Value→H) :
    ReturnsInHanded {} Tryz.checked os 7 .any (Rows.summaFairSpec.pre6 enc Tryz.prog Tryz.f7 Rows.summaFairRow.domain false) (Rows.summaFairSpec.post enc Tryz.prog Tryz.f7 false true false false):=by
  refine returnsInHanded_of_change (C:=Tryz.checked) own started (by kernel_rfl) Tryz.func7
    (ChangeSpec.witness6 (enc:=enc) (C:=Tryz.checked) false ⟨#[],#[.agg #[.int .i64 0,.int .u8 0,.int .u8 0,.int .u8 0,.slice none 0 0,.slice none 0 0,.slice none 0 0,.int .u8 0,.int .u8 0,.int .u8 0],.int .u8 0,.int .u8 0],[]⟩ 12 (by kernel_rfl) (by kernel_rfl) (by kernel_rfl) (by kernel_rfl)) ?_
  intro W base args ds gs before hval0 hW hcnd _
  have hval:∀ (j:Nat) t v,Tryz.f7.params[j]? = some t→args[j]? = some v→Value.okWide Tryz.prog W .any base t v:=hval0
  have hW':=hW
  obtain ⟨p,q,hA0,hV,rfl,hfz,hnd⟩:=hW
  have hA:DataW.TrodAll enc Tryz.prog W 0 (fun _=>true) true Tryz.f7.params.toList args.toList ds p:=hA0
  rw [Tryz.params7] at hA hval
  obtain ⟨v0,vs0,d0,ds0,p0,q0,hargs,rfl,rfl,h0,r0⟩:=trodAll_cons hA
  obtain ⟨v1,vs1,d1,ds1,p1,q1,rfl,rfl,rfl,h1,r1⟩:=trodAll_cons r0
  obtain ⟨v2,vs2,d2,ds2,p2,q2,rfl,rfl,rfl,h2,r2⟩:=trodAll_cons r1
  obtain ⟨rfl,rfl,rfl⟩:=trodAll_nil r2
  obtain rfl:args = #[v0,v1,v2]:=by cases args; simp_all
  obtain ⟨cs0,a0,rfl,g0,w0⟩:=Rd.argA Af8 (hval 0 58 v0 rfl rfl) h0 (by kernel_rfl)
  obtain ⟨cs0⟩:=cs0
  obtain ⟨p0_0,c0_0,p0_1,c0_1,p0_2,c0_2,g0,R0_0,R0_1,R0_2⟩:=g0
  cases g0
  obtain ⟨a1,g1,w1⟩:=Rd.arg RD5 (hval 1 5 v1 rfl rfl) h1 (by kernel_rfl)
  cases g1
  obtain ⟨a2,g2,w2⟩:=Rd.arg RD5 (hval 2 5 v2 rfl rfl) h2 (by kernel_rfl)
  cases g2
  refine wO (dB R0_0 R0_1 R0_2 (oI a0 a1 a2 w0 w1 w2)) fun I v W' hφ hb=>?_
  obtain ⟨r,rfl,rfl⟩:=hφ
  exact ⟨_,rfl,yV LO (by kernel_rfl) rfl Tryz.underlying4 rfl (fun ds hl=>by match ds,hl with | [d0,d1,d2],_=>rfl) hW' hb⟩
theorem over:Rows.summaFairRow.holds Tryz.pinned (OpenSpec.ofChange Rows.summaFairSpec):=
  OpenClaim.holds_of_wide 7 Tryz.f7 rfl rfl rfl rfl rfl rfl rfl ⟨rfl,rfl,rfl,rfl,rfl⟩ rfl rfl rfl rfl rfl JN Tryz.func7 JF
    (of_decide_eq_true (by kernel_rfl)) (by unfold Func.isWrapper; first | (rw [if_pos (by decide +kernel)]; kernel_rfl) | (rw [if_neg (by decide +kernel)]; exact ⟨rfl,rfl⟩))
    (fun os started H enc _=>AdV os started H enc)
theorem proved:Rows.SummaFairSaid:=over
#print axioms proved
end Go.Proofs.YtbohadngdkjljaaGreat.SummaFair
