/- How arguments read (printed by a program of ours). -/
import Derived.Test.YtbohadngdkjljaaGreatOK
import Derived.Test.YtbohadngdkjljaaGreatF
import Derived.Test.YtbohadngdkjljaaGreatFwT
namespace Go.Proofs.YtbohadngdkjljaaGreat
open Go Go.Fw
set_option linter.unusedVariables false
set_option maxRecDepth 100000
theorem RD3:Rd Tryz.prog 3 AE (inR .i64):=Rd.int (by kernel_rfl) Tryz.underlying3 _
theorem RD2:Rd Tryz.prog 2 AE (inR .i64):=Rd.int (by kernel_rfl) Tryz.underlying2 _
theorem AiR:Rd Tryz.prog 49 CB vS:=by
  refine ⟨by kernel_rfl,fun enc w sp held fuel cs d h=>?_⟩
  obtain ⟨hl,n,hf⟩:=XA Tryz.underlying49 h
  have hl:cs.length=3:=hl.trans (by kernel_rfl)
  obtain ⟨x0,h0,k0⟩:=Rd.field RD3 hf 0 rfl rfl (off:=0) rfl
  obtain ⟨x1,h1,k1⟩:=Rd.field RD3 hf 1 rfl rfl (off:=1) rfl
  obtain ⟨x2,h2,k2⟩:=Rd.field RD2 hf 2 rfl rfl (off:=2) rfl
  obtain ⟨c0,c1,c2,rfl⟩:∃ c0 c1 c2,cs=[c0,c1,c2]:=by
    match cs,hl with
    | [c0,c1,c2],_=>exact ⟨c0,c1,c2,rfl⟩
  have e0:[c0]=[Value.int .i64 x0]:=h0
  simp only [List.cons.injEq,and_true] at e0
  obtain rfl:=e0
  have e1:[c1]=[Value.int .i64 x1]:=h1
  simp only [List.cons.injEq,and_true] at e1
  obtain rfl:=e1
  have e2:[c2]=[Value.int .i64 x2]:=h2
  simp only [List.cons.injEq,and_true] at e2
  obtain rfl:=e2
  exact ⟨{ From:=x0,To:=x1,W:=x2 },rfl,k0,k1,k2⟩
theorem AiS:Rd Tryz.prog 22 (MR CB) (fun xs=>(∀ x∈xs,vS x)∧xs.length≤maxLen):=Rd.slice (by kernel_rfl) Tryz.underlying22 (by decide) AiR
theorem AiT:Rd Tryz.prog 24 AgA yA:=by
  refine ⟨by kernel_rfl,fun enc w sp held fuel cs d h=>?_⟩
  obtain ⟨hl,n,hf⟩:=XA Tryz.underlying24 h
  have hl:cs.length=2:=hl.trans (by kernel_rfl)
  obtain ⟨x0,h0,k0⟩:=Rd.field RD3 hf 0 rfl rfl (off:=0) rfl
  obtain ⟨x1,h1,k1⟩:=Rd.field AiS hf 1 rfl rfl (off:=1) rfl
  obtain ⟨c0,c1,rfl⟩:∃ c0 c1,cs=[c0,c1]:=by
    match cs,hl with
    | [c0,c1],_=>exact ⟨c0,c1,rfl⟩
  have e0:[c0]=[Value.int .i64 x0]:=h0
  simp only [List.cons.injEq,and_true] at e0
  obtain rfl:=e0
  obtain ⟨a1_0,b1_0,e1,R1_0⟩:=h1
  have e1:[c1]=[Value.slice a1_0 x1.length b1_0]:=e1
  simp only [List.cons.injEq,and_true] at e1
  obtain rfl:=e1
  exact ⟨{ N:=x0,Edges:=x1 },⟨_,_,rfl,R1_0⟩,k0,k1⟩
theorem RD5:Rd Tryz.prog 5 eU8 (inR .u8):=Rd.int (by kernel_rfl) Tryz.underlying5 _
theorem AiU:Rd Tryz.prog 85 rD W9:=by
  refine ⟨by kernel_rfl,fun enc w sp held fuel cs d h=>?_⟩
  obtain ⟨hl,n,hf⟩:=XA Tryz.underlying85 h
  have hl:cs.length=5:=hl.trans (by kernel_rfl)
  obtain ⟨x0,h0,k0⟩:=Rd.field AiT hf 0 rfl rfl (off:=0) rfl
  obtain ⟨x1,h1,k1⟩:=Rd.field RD3 hf 1 rfl rfl (off:=2) rfl
  obtain ⟨x2,h2,k2⟩:=Rd.field RD5 hf 2 rfl rfl (off:=3) rfl
  obtain ⟨x3,h3,k3⟩:=Rd.field RD5 hf 3 rfl rfl (off:=4) rfl
  obtain ⟨c0,c1,c2,c3,c4,rfl⟩:∃ c0 c1 c2 c3 c4,cs=[c0,c1,c2,c3,c4]:=by
    match cs,hl with
    | [c0,c1,c2,c3,c4],_=>exact ⟨c0,c1,c2,c3,c4,rfl⟩
  obtain ⟨a0_0,b0_0,e0,R0_0⟩:=h0
  have e0:[c0,c1]=[Value.int .i64 x0.N,Value.slice a0_0 x0.Edges.length b0_0]:=e0
  simp only [List.cons.injEq,and_true] at e0
  obtain ⟨rfl,rfl⟩:=e0
  have e1:[c2]=[Value.int .i64 x1]:=h1
  simp only [List.cons.injEq,and_true] at e1
  obtain rfl:=e1
  have e2:[c3]=[Value.int .u8 x2]:=h2
  simp only [List.cons.injEq,and_true] at e2
  obtain rfl:=e2
  have e3:[c4]=[Value.int .u8 x3]:=h3
  simp only [List.cons.injEq,and_true] at e3
  obtain rfl:=e3
  exact ⟨{ G:=x0,V:=x1,R:=x2,C:=x3 },⟨_,_,rfl,R0_0⟩,k0,k1,k2,k3⟩
end Go.Proofs.YtbohadngdkjljaaGreat
