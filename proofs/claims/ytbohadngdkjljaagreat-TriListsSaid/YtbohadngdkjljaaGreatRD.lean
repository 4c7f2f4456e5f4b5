/- How arguments read (printed by a program of ours). -/
import Derived.Test.YtbohadngdkjljaaGreatOK
import Derived.Test.YtbohadngdkjljaaGreatF
import Derived.Test.YtbohadngdkjljaaGreatFwT
namespace Go.Proofs.YtbohadngdkjljaaGreat
open Go Go.Fw
set_option linter.unusedVariables false
set_option maxRecDepth 100000
theorem RD3:Rd Tryz.prog 3 AE (inR .i64):=Rd.int (by kernel_rfl) Tryz.underlying3 _
theorem RD2:Rd Tryz.prog 2 AE (inR .i64):=Rd.int (by kernel_rfl) Tryz.underlying2 _
theorem AkF:Rd Tryz.prog 49 BU yK:=by
  refine ⟨by kernel_rfl,fun enc w sp held fuel cs d h=>?_⟩
  obtain ⟨hl,n,hf⟩:=gW Tryz.underlying49 h
  have hl:cs.length=3:=hl.trans (by kernel_rfl)
  obtain ⟨x0,h0,k0⟩:=Rd.field RD3 hf 0 rfl rfl (off:=0) rfl
  obtain ⟨x1,h1,k1⟩:=Rd.field RD3 hf 1 rfl rfl (off:=1) rfl
  obtain ⟨x2,h2,k2⟩:=Rd.field RD2 hf 2 rfl rfl (off:=2) rfl
  obtain ⟨c0,c1,c2,rfl⟩:∃ c0 c1 c2,cs=[c0,c1,c2]:=by
    match cs,hl with
    | [c0,c1,c2],_=>exact ⟨c0,c1,c2,rfl⟩
  have e0:[c0]=[Value.int .i64 x0]:=h0
  simp only [List.cons.injEq,and_true] at e0
  obtain rfl:=e0
  have e1:[c1]=[Value.int .i64 x1]:=h1
  simp only [List.cons.injEq,and_true] at e1
  obtain rfl:=e1
  have e2:[c2]=[Value.int .i64 x2]:=h2
  simp only [List.cons.injEq,and_true] at e2
  obtain rfl:=e2
  exact ⟨{ From:=x0,To:=x1,W:=x2 },rfl,k0,k1,k2⟩
theorem AkG:Rd Tryz.prog 22 (NN BU) (fun xs=>(∀ x∈xs,yK x)∧xs.length≤maxLen):=Rd.slice (by kernel_rfl) Tryz.underlying22 (by decide) AkF
theorem AkH:Rd Tryz.prog 24 AhT AfY:=by
  refine ⟨by kernel_rfl,fun enc w sp held fuel cs d h=>?_⟩
  obtain ⟨hl,n,hf⟩:=gW Tryz.underlying24 h
  have hl:cs.length=2:=hl.trans (by kernel_rfl)
  obtain ⟨x0,h0,k0⟩:=Rd.field RD3 hf 0 rfl rfl (off:=0) rfl
  obtain ⟨x1,h1,k1⟩:=Rd.field AkG hf 1 rfl rfl (off:=1) rfl
  obtain ⟨c0,c1,rfl⟩:∃ c0 c1,cs=[c0,c1]:=by
    match cs,hl with
    | [c0,c1],_=>exact ⟨c0,c1,rfl⟩
  have e0:[c0]=[Value.int .i64 x0]:=h0
  simp only [List.cons.injEq,and_true] at e0
  obtain rfl:=e0
  obtain ⟨a1_0,b1_0,e1,R1_0⟩:=h1
  have e1:[c1]=[Value.slice a1_0 x1.length b1_0]:=e1
  simp only [List.cons.injEq,and_true] at e1
  obtain rfl:=e1
  exact ⟨{ N:=x0,Edges:=x1 },⟨_,_,rfl,R1_0⟩,k0,k1⟩
end Go.Proofs.YtbohadngdkjljaaGreat
