/- TriLists of package fretworklaw30: at every input the law answers true. No conditions. -/
import Derived.Test.YtbohadngdkjljaaGreatRows
import Derived.Test.YtbohadngdkjljaaGreatVTriLists1
import Derived.Test.YtbohadngdkjljaaGreatTriE
import Derived.Test.YtbohadngdkjljaaGreatRD
import Derived.Test.YtbohadngdkjljaaGreatJTriLists
import Derived.WalkKit
import Derived.ProofKit
namespace Go.Proofs.YtbohadngdkjljaaGreat.TriLists
open Go Go.Fw Go.ChangeShapes Go.WideShapes Go.ChangeAt Go.RowKit
set_option linter.unusedVariables false
set_option maxRecDepth 100000
theorem own:ownKnob Tryz.prog.godebug=none:=by kernel_rfl
theorem LO:laidOutB Tryz.prog=true:=by kernel_rfl
theorem AiY (os:Os) (started:os.Started) (H:Type) (enc:TypeId×Value→H) :
    ReturnsInHanded {} Tryz.checked os 10 .any (Rows.triListsSpec.pre6 enc Tryz.prog Tryz.f10 Rows.triListsRow.domain false) (Rows.triListsSpec.post enc Tryz.prog Tryz.f10 false true false false):=by
  refine returnsInHanded_of_change (C:=Tryz.checked) own started (by kernel_rfl) Tryz.func10
    (ChangeSpec.witness6 (enc:=enc) (C:=Tryz.checked) false ⟨#[],#[.agg #[.int .i64 0,.slice none 0 0],.int .i64 0,.int .i64 0],[]⟩ 12 (by kernel_rfl) (by kernel_rfl) (by kernel_rfl) (by kernel_rfl)) ?_
  intro W base args ds gs before hval0 hW hcnd _
  have hval:∀ (j:Nat) t v,Tryz.f10.params[j]? = some t→args[j]? = some v→Value.okWide Tryz.prog W .any base t v:=hval0
  have hW':=hW
  obtain ⟨p,q,hA0,hV,rfl,hfz,hnd⟩:=hW
  have hA:DataW.TrodAll enc Tryz.prog W 0 (fun _=>true) true Tryz.f10.params.toList args.toList ds p:=hA0
  rw [Tryz.params10] at hA hval
  obtain ⟨v0,vs0,d0,ds0,p0,q0,hargs,rfl,rfl,h0,r0⟩:=trodAll_cons hA
  obtain ⟨v1,vs1,d1,ds1,p1,q1,rfl,rfl,rfl,h1,r1⟩:=trodAll_cons r0
  obtain ⟨v2,vs2,d2,ds2,p2,q2,rfl,rfl,rfl,h2,r2⟩:=trodAll_cons r1
  obtain ⟨rfl,rfl,rfl⟩:=trodAll_nil r2
  obtain rfl:args = #[v0,v1,v2]:=by cases args; simp_all
  obtain ⟨cs0,a0,rfl,g0,w0⟩:=Rd.argA AkH (hval 0 24 v0 rfl rfl) h0 (by kernel_rfl)
  obtain ⟨cs0⟩:=cs0
  obtain ⟨p0_0,c0_0,g0,R0_0⟩:=g0
  cases g0
  obtain ⟨a1,g1,w1⟩:=Rd.arg RD3 (hval 1 3 v1 rfl rfl) h1 (by kernel_rfl)
  cases g1
  obtain ⟨a2,g2,w2⟩:=Rd.arg RD3 (hval 2 3 v2 rfl rfl) h2 (by kernel_rfl)
  cases g2
  refine AbU (gM R0_0 (xG a0 a1 a2)) fun I v W' hφ hb=>?_
  obtain ⟨r,rfl,rfl⟩:=hφ
  exact ⟨_,rfl,AdK LO (by kernel_rfl) rfl Tryz.underlying4 rfl (fun ds hl=>by match ds,hl with | [d0,d1,d2],_=>rfl) hW' hb⟩
theorem over:Rows.triListsRow.holds Tryz.pinned (OpenSpec.ofChange Rows.triListsSpec):=
  OpenClaim.holds_of_wide 10 Tryz.f10 rfl rfl rfl rfl rfl rfl rfl ⟨rfl,rfl,rfl,rfl,rfl⟩ rfl rfl rfl rfl rfl JN Tryz.func10 JF
    (of_decide_eq_true (by kernel_rfl)) (by unfold Func.isWrapper; first | (rw [if_pos (by decide +kernel)]; kernel_rfl) | (rw [if_neg (by decide +kernel)]; exact ⟨rfl,rfl⟩))
    (fun os started H enc _=>AiY os started H enc)
theorem proved:Rows.TriListsSaid:=over
#print axioms proved
end Go.Proofs.YtbohadngdkjljaaGreat.TriLists
