/- TopFewest of package fretworktop: at every input the law answers true. No conditions. -/
import Derived.Test.YtieniichmjgmcaaGreatV3
import Derived.Test.YtieniichmjgmcaaGreatO
import Derived.Test.YtieniichmjgmcaaGreatJTopFewest
set_option linter.unusedVariables false
set_option maxRecDepth 100000
namespace Go.Proofs.YtieniichmjgmcaaGreat.TopFewest
open Go Go.Fw Go.ChangeShapes Go.WideShapes Go.ChangeAt Go.RowKit
theorem own:ownKnob Tryz.prog.godebug=none:=by kernel_rfl
theorem LO:laidOutB Tryz.prog=true:=by kernel_rfl
theorem AwX (os:Os) (started:os.Started) (H:Type) (enc:TypeId×Value→H) :
    ReturnsInHanded {} Tryz.checked os 4 .any (Rows.topFewestSpec.pre6 enc Tryz.prog Tryz.f4 Rows.topFewestRow.domain false) (Rows.topFewestSpec.post enc Tryz.prog Tryz.f4 false true false false):=by
  refine returnsInHanded_of_change (C:=Tryz.checked) own started (by kernel_rfl) Tryz.func4
    (ChangeSpec.witness6 (enc:=enc) (C:=Tryz.checked) false ⟨#[],#[.agg #[.int .i64 0,.slice none 0 0,.int .i64 0,.int .u8 0,.int .u8 0],.int .i64 0],[]⟩ 12 (by kernel_rfl) (by kernel_rfl) (by kernel_rfl) (by kernel_rfl)) ?_
  intro W base args ds gs before hval0 hW hcnd _
  have hval:∀ (j:Nat) t v,Tryz.f4.params[j]? = some t→args[j]? = some v→Value.okWide Tryz.prog W .any base t v:=hval0
  have hW':=hW
  obtain ⟨p,q,hA0,hV,rfl,hfz,hnd⟩:=hW
  have hA:DataW.TrodAll enc Tryz.prog W 0 (fun _=>true) true Tryz.f4.params.toList args.toList ds p:=hA0
  rw [Tryz.params4] at hA hval
  obtain ⟨v0,vs0,d0,ds0,p0,q0,hargs,rfl,rfl,h0,r0⟩:=trodAll_cons hA
  obtain ⟨v1,vs1,d1,ds1,p1,q1,rfl,rfl,rfl,h1,r1⟩:=trodAll_cons r0
  obtain ⟨rfl,rfl,rfl⟩:=trodAll_nil r1
  obtain rfl:args = #[v0,v1]:=by cases args; simp_all
  obtain ⟨cs0,a0,rfl,g0,w0⟩:=Rd.argA AyM (hval 0 26 v0 rfl rfl) h0 (by kernel_rfl)
  obtain ⟨cs0⟩:=cs0
  obtain ⟨p0_0,c0_0,g0,R0_0⟩:=g0
  cases g0
  obtain ⟨a1,g1,w1⟩:=Rd.arg RD3 (hval 1 3 v1 rfl rfl) h1 (by kernel_rfl)
  cases g1
  refine Am1 (rP R0_0 (AcF a0 a1 w0 w1)) fun I v W' hφ hb=>?_
  obtain ⟨r,rfl,rfl⟩:=hφ
  exact ⟨_,rfl,ApX LO (by kernel_rfl) rfl Tryz.underlying4 rfl (fun ds hl=>by match ds,hl with | [d0,d1],_=>rfl) hW' hb⟩
theorem over:Rows.topFewestRow.holds Tryz.pinned (OpenSpec.ofChange Rows.topFewestSpec):=
  OpenClaim.holds_of_wide 4 Tryz.f4 rfl rfl rfl rfl rfl rfl rfl ⟨rfl,rfl,rfl,rfl,rfl⟩ rfl rfl rfl rfl rfl JN Tryz.func4 JF
    (of_decide_eq_true (by kernel_rfl)) (by unfold Func.isWrapper; first | (rw [if_pos (by decide +kernel)]; kernel_rfl) | (rw [if_neg (by decide +kernel)]; exact ⟨rfl,rfl⟩))
    (fun os started H enc _=>AwX os started H enc)
theorem proved:Rows.TopFewestSaid:=over
#print axioms proved
end Go.Proofs.YtieniichmjgmcaaGreat.TopFewest
