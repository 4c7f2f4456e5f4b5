/- How arguments read (printed by a program of ours). -/
import Derived.Test.YtaefnmlbnkmahaaGreatOK
import Derived.Test.YtaefnmlbnkmahaaGreatF
import Derived.Test.YtaefnmlbnkmahaaGreatFwT
namespace Go.Proofs.YtaefnmlbnkmahaaGreat
open Go Go.Fw
set_option linter.unusedVariables false
set_option maxRecDepth 100000
theorem RD47:Rd Tryz.prog 47 eI64 (inR .i64):=Rd.int (by kernel_rfl) Tryz.underlying47 _
theorem RD3:Rd Tryz.prog 3 eI64 (inR .i64):=Rd.int (by kernel_rfl) Tryz.underlying3 _
theorem RD2:Rd Tryz.prog 2 eI64 (inR .i64):=Rd.int (by kernel_rfl) Tryz.underlying2 _
theorem RD125:Rd Tryz.prog 125 eU64 (inR .u64):=Rd.int (by kernel_rfl) Tryz.underlying125 _
theorem RD127:Rd Tryz.prog 127 eWide okWide:=by
  refine ⟨by kernel_rfl,fun enc w sp held fuel cs d h=>?_⟩
  obtain ⟨hl,n,hf⟩:=trod_fields Tryz.underlying127 h
  have hl:cs.length=2:=hl.trans (by kernel_rfl)
  obtain ⟨x0,h0,k0⟩:=Rd.field RD2 hf 0 rfl rfl (off:=0) rfl
  obtain ⟨x1,h1,k1⟩:=Rd.field RD125 hf 1 rfl rfl (off:=1) rfl
  obtain ⟨c0,c1,rfl⟩:∃ c0 c1,cs=[c0,c1]:=by
    match cs,hl with
    | [c0,c1],_=>exact ⟨c0,c1,rfl⟩
  have e0:[c0]=[Value.int .i64 x0]:=h0
  simp only [List.cons.injEq,and_true] at e0
  obtain rfl:=e0
  have e1:[c1]=[Value.int .u64 x1]:=h1
  simp only [List.cons.injEq,and_true] at e1
  obtain rfl:=e1
  exact ⟨{ Hi:=x0,Lo:=x1 },rfl,k0,k1⟩
theorem RD78:Rd Tryz.prog 78 (slEl eWide) (fun xs=>(∀ x∈xs,okWide x)∧xs.length≤maxLen):=Rd.slice (by kernel_rfl) Tryz.underlying78 (by decide) RD127
end Go.Proofs.YtaefnmlbnkmahaaGreat
