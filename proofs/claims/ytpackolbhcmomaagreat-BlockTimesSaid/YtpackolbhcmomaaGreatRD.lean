/- How arguments read (printed by a program of ours). -/
import Derived.Test.YtpackolbhcmomaaGreatOK
import Derived.Test.YtpackolbhcmomaaGreatF
import Derived.Test.YtpackolbhcmomaaGreatFwT
namespace Go.Proofs.YtpackolbhcmomaaGreat
open Go Go.Fw
set_option linter.unusedVariables false
set_option maxRecDepth 100000
theorem RD22:Rd Tryz.prog 22 eI64 (inR .i64):=Rd.int (by kernel_rfl) Tryz.underlying22 _
theorem RD5:Rd Tryz.prog 5 eU8 (inR .u8):=Rd.int (by kernel_rfl) Tryz.underlying5 _
theorem RD23:Rd Tryz.prog 23 (flat 2 (fun x:Int×Int=>[.int .u8 x.1,.int .u8 x.2]) (fun _=>⟨rfl,rfl⟩)) (fun x=>(inR .u8) (x.1)∧(inR .u8) (x.2)):=by
  refine ⟨by kernel_rfl,fun enc w sp held fuel cs d h=>?_⟩
  obtain ⟨hl,hf⟩:=Rd.elemA Tryz.underlying23 RD5 h
  have hl:cs.length=2:=hl.trans (by kernel_rfl)
  obtain ⟨x0,h0,k0⟩:=hf 0 (by decide)
  obtain ⟨x1,h1,k1⟩:=hf 1 (by decide)
  obtain ⟨c0,c1,rfl⟩:∃ c0 c1,cs=[c0,c1]:=by
    match cs,hl with
    | [c0,c1],_=>exact ⟨c0,c1,rfl⟩
  have e0:[c0]=[Value.int .u8 x0]:=h0
  simp only [List.cons.injEq,and_true] at e0
  obtain rfl:=e0
  have e1:[c1]=[Value.int .u8 x1]:=h1
  simp only [List.cons.injEq,and_true] at e1
  obtain rfl:=e1
  exact ⟨(x0,x1),rfl,k0,k1⟩
theorem RD3:Rd Tryz.prog 3 eI64 (inR .i64):=Rd.int (by kernel_rfl) Tryz.underlying3 _
theorem RD2:Rd Tryz.prog 2 eI64 (inR .i64):=Rd.int (by kernel_rfl) Tryz.underlying2 _
theorem RD75:Rd Tryz.prog 75 eTriple okTriple:=by
  refine ⟨by kernel_rfl,fun enc w sp held fuel cs d h=>?_⟩
  obtain ⟨hl,n,hf⟩:=trod_fields Tryz.underlying75 h
  have hl:cs.length=3:=hl.trans (by kernel_rfl)
  obtain ⟨x0,h0,k0⟩:=Rd.field RD3 hf 0 rfl rfl (off:=0) rfl
  obtain ⟨x1,h1,k1⟩:=Rd.field RD3 hf 1 rfl rfl (off:=1) rfl
  obtain ⟨x2,h2,k2⟩:=Rd.field RD2 hf 2 rfl rfl (off:=2) rfl
  obtain ⟨c0,c1,c2,rfl⟩:∃ c0 c1 c2,cs=[c0,c1,c2]:=by
    match cs,hl with
    | [c0,c1,c2],_=>exact ⟨c0,c1,c2,rfl⟩
  have e0:[c0]=[Value.int .i64 x0]:=h0
  simp only [List.cons.injEq,and_true] at e0
  obtain rfl:=e0
  have e1:[c1]=[Value.int .i64 x1]:=h1
  simp only [List.cons.injEq,and_true] at e1
  obtain rfl:=e1
  have e2:[c2]=[Value.int .i64 x2]:=h2
  simp only [List.cons.injEq,and_true] at e2
  obtain rfl:=e2
  exact ⟨{ Row:=x0,Col:=x1,Val:=x2 },rfl,k0,k1,k2⟩
theorem RD24:Rd Tryz.prog 24 (slEl eTriple) (fun xs=>(∀ x∈xs,okTriple x)∧xs.length≤maxLen):=Rd.slice (by kernel_rfl) Tryz.underlying24 (by decide) RD75
theorem RD72:Rd Tryz.prog 72 eItem okItem:=by
  refine ⟨by kernel_rfl,fun enc w sp held fuel cs d h=>?_⟩
  obtain ⟨hl,n,hf⟩:=trod_fields Tryz.underlying72 h
  have hl:cs.length=2:=hl.trans (by kernel_rfl)
  obtain ⟨x0,h0,k0⟩:=Rd.field RD3 hf 0 rfl rfl (off:=0) rfl
  obtain ⟨x1,h1,k1⟩:=Rd.field RD2 hf 1 rfl rfl (off:=1) rfl
  obtain ⟨c0,c1,rfl⟩:∃ c0 c1,cs=[c0,c1]:=by
    match cs,hl with
    | [c0,c1],_=>exact ⟨c0,c1,rfl⟩
  have e0:[c0]=[Value.int .i64 x0]:=h0
  simp only [List.cons.injEq,and_true] at e0
  obtain rfl:=e0
  have e1:[c1]=[Value.int .i64 x1]:=h1
  simp only [List.cons.injEq,and_true] at e1
  obtain rfl:=e1
  exact ⟨{ At:=x0,Val:=x1 },rfl,k0,k1⟩
theorem RD25:Rd Tryz.prog 25 (slEl eItem) (fun xs=>(∀ x∈xs,okItem x)∧xs.length≤maxLen):=Rd.slice (by kernel_rfl) Tryz.underlying25 (by decide) RD72
theorem RD76:Rd Tryz.prog 76 eU64 (inR .u64):=Rd.int (by kernel_rfl) Tryz.underlying76 _
theorem RD26:Rd Tryz.prog 26 (slEl eU64) (fun xs=>(∀ x∈xs,(inR .u64) x)∧xs.length≤maxLen):=Rd.slice (by kernel_rfl) Tryz.underlying26 (by decide) RD76
theorem RD4:Rd Tryz.prog 4 eB (fun _=>True):=Rd.bool (by kernel_rfl) Tryz.underlying4 _
theorem RD28:Rd Tryz.prog 28 eLaw13_Task okLaw13_Task:=by
  refine ⟨by kernel_rfl,fun enc w sp held fuel cs d h=>?_⟩
  obtain ⟨hl,n,hf⟩:=trod_fields Tryz.underlying28 h
  have hl:cs.length=8:=hl.trans (by kernel_rfl)
  obtain ⟨x0,h0,k0⟩:=Rd.field RD22 hf 0 rfl rfl (off:=0) rfl
  obtain ⟨x1,h1,k1⟩:=Rd.field RD23 hf 1 rfl rfl (off:=1) rfl
  obtain ⟨x2,h2,k2⟩:=Rd.field RD24 hf 2 rfl rfl (off:=3) rfl
  obtain ⟨x3,h3,k3⟩:=Rd.field RD25 hf 3 rfl rfl (off:=4) rfl
  obtain ⟨x4,h4,k4⟩:=Rd.field RD25 hf 4 rfl rfl (off:=5) rfl
  obtain ⟨x5,h5,k5⟩:=Rd.field RD26 hf 5 rfl rfl (off:=6) rfl
  obtain ⟨x6,h6,k6⟩:=Rd.field RD4 hf 6 rfl rfl (off:=7) rfl
  obtain ⟨c0,c1,c2,c3,c4,c5,c6,c7,rfl⟩:∃ c0 c1 c2 c3 c4 c5 c6 c7,cs=[c0,c1,c2,c3,c4,c5,c6,c7]:=by
    match cs,hl with
    | [c0,c1,c2,c3,c4,c5,c6,c7],_=>exact ⟨c0,c1,c2,c3,c4,c5,c6,c7,rfl⟩
  have e0:[c0]=[Value.int .i64 x0]:=h0
  simp only [List.cons.injEq,and_true] at e0
  obtain rfl:=e0
  have e1:[c1,c2]=[Value.int .u8 x1.1,Value.int .u8 x1.2]:=h1
  simp only [List.cons.injEq,and_true] at e1
  obtain ⟨rfl,rfl⟩:=e1
  obtain ⟨a2_0,b2_0,e2,R2_0⟩:=h2
  have e2:[c3]=[Value.slice a2_0 x2.length b2_0]:=e2
  simp only [List.cons.injEq,and_true] at e2
  obtain rfl:=e2
  obtain ⟨a3_0,b3_0,e3,R3_0⟩:=h3
  have e3:[c4]=[Value.slice a3_0 x3.length b3_0]:=e3
  simp only [List.cons.injEq,and_true] at e3
  obtain rfl:=e3
  obtain ⟨a4_0,b4_0,e4,R4_0⟩:=h4
  have e4:[c5]=[Value.slice a4_0 x4.length b4_0]:=e4
  simp only [List.cons.injEq,and_true] at e4
  obtain rfl:=e4
  obtain ⟨a5_0,b5_0,e5,R5_0⟩:=h5
  have e5:[c6]=[Value.slice a5_0 x5.length b5_0]:=e5
  simp only [List.cons.injEq,and_true] at e5
  obtain rfl:=e5
  have e6:[c7]=[Value.bool x6]:=h6
  simp only [List.cons.injEq,and_true] at e6
  obtain rfl:=e6
  exact ⟨{ Ring:=x0,Size:=x1,L:=x2,X:=x3,Y:=x4,F:=x5,Others:=x6 },⟨_,_,_,_,_,_,_,_,rfl,R2_0,R3_0,R4_0,R5_0⟩,k0,k1,k2,k3,k4,k5,k6⟩
end Go.Proofs.YtpackolbhcmomaaGreat
