/- How arguments read (printed by a program of ours). -/
import Derived.Test.YtaefnmlbnkmahaaGreatOK
import Derived.Test.YtaefnmlbnkmahaaGreatF
import Derived.Test.YtaefnmlbnkmahaaGreatFwT
namespace Go.Proofs.YtaefnmlbnkmahaaGreat
open Go Go.Fw
set_option linter.unusedVariables false
set_option maxRecDepth 100000
theorem RD47:Rd Tryz.prog 47 eI64 (inR .i64):=Rd.int (by kernel_rfl) Tryz.underlying47 _
theorem RD3:Rd Tryz.prog 3 eI64 (inR .i64):=Rd.int (by kernel_rfl) Tryz.underlying3 _
theorem RD2:Rd Tryz.prog 2 eI64 (inR .i64):=Rd.int (by kernel_rfl) Tryz.underlying2 _
theorem RD30:Rd Tryz.prog 30 (slEl eI64) (fun xs=>(∀ x∈xs,(inR .i64) x)∧xs.length≤maxLen):=Rd.slice (by kernel_rfl) Tryz.underlying30 (by decide) RD2
theorem RD49:Rd Tryz.prog 49 ePlan okPlan:=by
  refine ⟨by kernel_rfl,fun enc w sp held fuel cs d h=>?_⟩
  obtain ⟨hl,n,hf⟩:=trod_fields Tryz.underlying49 h
  have hl:cs.length=5:=hl.trans (by kernel_rfl)
  obtain ⟨x0,h0,k0⟩:=Rd.field RD47 hf 0 rfl rfl (off:=0) rfl
  obtain ⟨x1,h1,k1⟩:=Rd.field RD3 hf 1 rfl rfl (off:=1) rfl
  obtain ⟨x2,h2,k2⟩:=Rd.field RD3 hf 2 rfl rfl (off:=2) rfl
  obtain ⟨x3,h3,k3⟩:=Rd.field RD3 hf 3 rfl rfl (off:=3) rfl
  obtain ⟨x4,h4,k4⟩:=Rd.field RD30 hf 4 rfl rfl (off:=4) rfl
  obtain ⟨c0,c1,c2,c3,c4,rfl⟩:∃ c0 c1 c2 c3 c4,cs=[c0,c1,c2,c3,c4]:=by
    match cs,hl with
    | [c0,c1,c2,c3,c4],_=>exact ⟨c0,c1,c2,c3,c4,rfl⟩
  have e0:[c0]=[Value.int .i64 x0]:=h0
  simp only [List.cons.injEq,and_true] at e0
  obtain rfl:=e0
  have e1:[c1]=[Value.int .i64 x1]:=h1
  simp only [List.cons.injEq,and_true] at e1
  obtain rfl:=e1
  have e2:[c2]=[Value.int .i64 x2]:=h2
  simp only [List.cons.injEq,and_true] at e2
  obtain rfl:=e2
  have e3:[c3]=[Value.int .i64 x3]:=h3
  simp only [List.cons.injEq,and_true] at e3
  obtain rfl:=e3
  obtain ⟨a4_0,b4_0,e4,R4_0⟩:=h4
  have e4:[c4]=[Value.slice a4_0 x4.length b4_0]:=e4
  simp only [List.cons.injEq,and_true] at e4
  obtain rfl:=e4
  exact ⟨{ Kind:=x0,N:=x1,Source:=x2,Length:=x3,Draws:=x4 },⟨_,_,rfl,R4_0⟩,k0,k1,k2,k3,k4⟩
theorem RD27:Rd Tryz.prog 27 eEdge okEdge:=by
  refine ⟨by kernel_rfl,fun enc w sp held fuel cs d h=>?_⟩
  obtain ⟨hl,n,hf⟩:=trod_fields Tryz.underlying27 h
  have hl:cs.length=3:=hl.trans (by kernel_rfl)
  obtain ⟨x0,h0,k0⟩:=Rd.field RD3 hf 0 rfl rfl (off:=0) rfl
  obtain ⟨x1,h1,k1⟩:=Rd.field RD3 hf 1 rfl rfl (off:=1) rfl
  obtain ⟨x2,h2,k2⟩:=Rd.field RD2 hf 2 rfl rfl (off:=2) rfl
  obtain ⟨c0,c1,c2,rfl⟩:∃ c0 c1 c2,cs=[c0,c1,c2]:=by
    match cs,hl with
    | [c0,c1,c2],_=>exact ⟨c0,c1,c2,rfl⟩
  have e0:[c0]=[Value.int .i64 x0]:=h0
  simp only [List.cons.injEq,and_true] at e0
  obtain rfl:=e0
  have e1:[c1]=[Value.int .i64 x1]:=h1
  simp only [List.cons.injEq,and_true] at e1
  obtain rfl:=e1
  have e2:[c2]=[Value.int .i64 x2]:=h2
  simp only [List.cons.injEq,and_true] at e2
  obtain rfl:=e2
  exact ⟨{ From:=x0,To:=x1,W:=x2 },rfl,k0,k1,k2⟩
theorem RD22:Rd Tryz.prog 22 (slEl eEdge) (fun xs=>(∀ x∈xs,okEdge x)∧xs.length≤maxLen):=Rd.slice (by kernel_rfl) Tryz.underlying22 (by decide) RD27
theorem RD24:Rd Tryz.prog 24 eGraph okGraph:=by
  refine ⟨by kernel_rfl,fun enc w sp held fuel cs d h=>?_⟩
  obtain ⟨hl,n,hf⟩:=trod_fields Tryz.underlying24 h
  have hl:cs.length=2:=hl.trans (by kernel_rfl)
  obtain ⟨x0,h0,k0⟩:=Rd.field RD3 hf 0 rfl rfl (off:=0) rfl
  obtain ⟨x1,h1,k1⟩:=Rd.field RD22 hf 1 rfl rfl (off:=1) rfl
  obtain ⟨c0,c1,rfl⟩:∃ c0 c1,cs=[c0,c1]:=by
    match cs,hl with
    | [c0,c1],_=>exact ⟨c0,c1,rfl⟩
  have e0:[c0]=[Value.int .i64 x0]:=h0
  simp only [List.cons.injEq,and_true] at e0
  obtain rfl:=e0
  obtain ⟨a1_0,b1_0,e1,R1_0⟩:=h1
  have e1:[c1]=[Value.slice a1_0 x1.length b1_0]:=e1
  simp only [List.cons.injEq,and_true] at e1
  obtain rfl:=e1
  exact ⟨{ N:=x0,Edges:=x1 },⟨_,_,rfl,R1_0⟩,k0,k1⟩
theorem RD5:Rd Tryz.prog 5 eU8 (inR .u8):=Rd.int (by kernel_rfl) Tryz.underlying5 _
theorem RD64:Rd Tryz.prog 64 eLaw22_Case okLaw22_Case:=by
  refine ⟨by kernel_rfl,fun enc w sp held fuel cs d h=>?_⟩
  obtain ⟨hl,n,hf⟩:=trod_fields Tryz.underlying64 h
  have hl:cs.length=8:=hl.trans (by kernel_rfl)
  obtain ⟨x0,h0,k0⟩:=Rd.field RD49 hf 0 rfl rfl (off:=0) rfl
  obtain ⟨x1,h1,k1⟩:=Rd.field RD24 hf 1 rfl rfl (off:=5) rfl
  obtain ⟨x2,h2,k2⟩:=Rd.field RD5 hf 2 rfl rfl (off:=7) rfl
  obtain ⟨c0,c1,c2,c3,c4,c5,c6,c7,rfl⟩:∃ c0 c1 c2 c3 c4 c5 c6 c7,cs=[c0,c1,c2,c3,c4,c5,c6,c7]:=by
    match cs,hl with
    | [c0,c1,c2,c3,c4,c5,c6,c7],_=>exact ⟨c0,c1,c2,c3,c4,c5,c6,c7,rfl⟩
  obtain ⟨a0_0,b0_0,e0,R0_0⟩:=h0
  have e0:[c0,c1,c2,c3,c4]=[Value.int .i64 x0.Kind,Value.int .i64 x0.N,Value.int .i64 x0.Source,Value.int .i64 x0.Length,Value.slice a0_0 x0.Draws.length b0_0]:=e0
  simp only [List.cons.injEq,and_true] at e0
  obtain ⟨rfl,rfl,rfl,rfl,rfl⟩:=e0
  obtain ⟨a1_0,b1_0,e1,R1_0⟩:=h1
  have e1:[c5,c6]=[Value.int .i64 x1.N,Value.slice a1_0 x1.Edges.length b1_0]:=e1
  simp only [List.cons.injEq,and_true] at e1
  obtain ⟨rfl,rfl⟩:=e1
  have e2:[c7]=[Value.int .u8 x2]:=h2
  simp only [List.cons.injEq,and_true] at e2
  obtain rfl:=e2
  exact ⟨{ P:=x0,G:=x1,Limit:=x2 },⟨_,_,_,_,rfl,R0_0,R1_0⟩,k0,k1,k2⟩
end Go.Proofs.YtaefnmlbnkmahaaGreat
