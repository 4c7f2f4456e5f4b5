/- How arguments read. -/
import Derived.Test.YtbohadngdkjljaaGreatOK
import Derived.Test.YtbohadngdkjljaaGreatF
import Derived.Test.YtbohadngdkjljaaGreatFwT
namespace Go.Proofs.YtbohadngdkjljaaGreat
open Go Go.Fw
set_option linter.unusedVariables false
set_option maxRecDepth 100000
theorem AeS:Rd Tryz.prog 37 BQ (SQ .i64):=Rd.int (by kernel_rfl) Tryz.underlying37 _
theorem RD5:Rd Tryz.prog 5 eU8 (SQ .u8):=Rd.int (by kernel_rfl) Tryz.underlying5 _
theorem AeT:Rd Tryz.prog 53 (IF 3 (fun x:Int×Int×Int=>[.int .u8 x.1,.int .u8 x.2.1,.int .u8 x.2.2]) (fun _=>⟨rfl,rfl⟩)) (fun x=>(SQ .u8) (x.1)∧(SQ .u8) (x.2.1)∧(SQ .u8) (x.2.2)):=by
  refine ⟨by kernel_rfl,fun enc w sp held fuel cs d h=>?_⟩
  obtain ⟨hl,hf⟩:=Rd.elemA Tryz.underlying53 RD5 h
  have hl:cs.length=3:=hl.trans (by kernel_rfl)
  obtain ⟨x0,h0,k0⟩:=hf 0 (by decide)
  obtain ⟨x1,h1,k1⟩:=hf 1 (by decide)
  obtain ⟨x2,h2,k2⟩:=hf 2 (by decide)
  obtain ⟨c0,c1,c2,rfl⟩:∃ c0 c1 c2,cs=[c0,c1,c2]:=by
    match cs,hl with
    | [c0,c1,c2],_=>exact ⟨c0,c1,c2,rfl⟩
  have e0:[c0]=[Value.int .u8 x0]:=h0
  simp only [List.cons.injEq,and_true] at e0
  obtain rfl:=e0
  have e1:[c1]=[Value.int .u8 x1]:=h1
  simp only [List.cons.injEq,and_true] at e1
  obtain rfl:=e1
  have e2:[c2]=[Value.int .u8 x2]:=h2
  simp only [List.cons.injEq,and_true] at e2
  obtain rfl:=e2
  exact ⟨(x0,x1,x2),rfl,k0,k1,k2⟩
theorem RD3:Rd Tryz.prog 3 BQ (SQ .i64):=Rd.int (by kernel_rfl) Tryz.underlying3 _
theorem RD2:Rd Tryz.prog 2 BQ (SQ .i64):=Rd.int (by kernel_rfl) Tryz.underlying2 _
theorem AeH:Rd Tryz.prog 103 B5 KU:=by
  refine ⟨by kernel_rfl,fun enc w sp held fuel cs d h=>?_⟩
  obtain ⟨hl,n,hf⟩:=OR Tryz.underlying103 h
  have hl:cs.length=3:=hl.trans (by kernel_rfl)
  obtain ⟨x0,h0,k0⟩:=Rd.field RD3 hf 0 rfl rfl (off:=0) rfl
  obtain ⟨x1,h1,k1⟩:=Rd.field RD3 hf 1 rfl rfl (off:=1) rfl
  obtain ⟨x2,h2,k2⟩:=Rd.field RD2 hf 2 rfl rfl (off:=2) rfl
  obtain ⟨c0,c1,c2,rfl⟩:∃ c0 c1 c2,cs=[c0,c1,c2]:=by
    match cs,hl with
    | [c0,c1,c2],_=>exact ⟨c0,c1,c2,rfl⟩
  have e0:[c0]=[Value.int .i64 x0]:=h0
  simp only [List.cons.injEq,and_true] at e0
  obtain rfl:=e0
  have e1:[c1]=[Value.int .i64 x1]:=h1
  simp only [List.cons.injEq,and_true] at e1
  obtain rfl:=e1
  have e2:[c2]=[Value.int .i64 x2]:=h2
  simp only [List.cons.injEq,and_true] at e2
  obtain rfl:=e2
  exact ⟨{ Row:=x0,Col:=x1,Val:=x2 },rfl,k0,k1,k2⟩
theorem AdB:Rd Tryz.prog 54 (JI B5) (fun xs=>(∀ x∈xs,KU x)∧xs.length≤maxLen):=Rd.slice (by kernel_rfl) Tryz.underlying54 (by decide) AeH
theorem AeU:Rd Tryz.prog 56 nV ZM:=by
  refine ⟨by kernel_rfl,fun enc w sp held fuel cs d h=>?_⟩
  obtain ⟨hl,n,hf⟩:=OR Tryz.underlying56 h
  have hl:cs.length=7:=hl.trans (by kernel_rfl)
  obtain ⟨x0,h0,k0⟩:=Rd.field AeS hf 0 rfl rfl (off:=0) rfl
  obtain ⟨x1,h1,k1⟩:=Rd.field AeT hf 1 rfl rfl (off:=1) rfl
  obtain ⟨x2,h2,k2⟩:=Rd.field AdB hf 2 rfl rfl (off:=4) rfl
  obtain ⟨x3,h3,k3⟩:=Rd.field AdB hf 3 rfl rfl (off:=5) rfl
  obtain ⟨x4,h4,k4⟩:=Rd.field AdB hf 4 rfl rfl (off:=6) rfl
  obtain ⟨c0,c1,c2,c3,c4,c5,c6,rfl⟩:∃ c0 c1 c2 c3 c4 c5 c6,cs=[c0,c1,c2,c3,c4,c5,c6]:=by
    match cs,hl with
    | [c0,c1,c2,c3,c4,c5,c6],_=>exact ⟨c0,c1,c2,c3,c4,c5,c6,rfl⟩
  have e0:[c0]=[Value.int .i64 x0]:=h0
  simp only [List.cons.injEq,and_true] at e0
  obtain rfl:=e0
  have e1:[c1,c2,c3]=[Value.int .u8 x1.1,Value.int .u8 x1.2.1,Value.int .u8 x1.2.2]:=h1
  simp only [List.cons.injEq,and_true] at e1
  obtain ⟨rfl,rfl,rfl⟩:=e1
  obtain ⟨a2_0,b2_0,e2,R2_0⟩:=h2
  have e2:[c4]=[Value.slice a2_0 x2.length b2_0]:=e2
  simp only [List.cons.injEq,and_true] at e2
  obtain rfl:=e2
  obtain ⟨a3_0,b3_0,e3,R3_0⟩:=h3
  have e3:[c5]=[Value.slice a3_0 x3.length b3_0]:=e3
  simp only [List.cons.injEq,and_true] at e3
  obtain rfl:=e3
  obtain ⟨a4_0,b4_0,e4,R4_0⟩:=h4
  have e4:[c6]=[Value.slice a4_0 x4.length b4_0]:=e4
  simp only [List.cons.injEq,and_true] at e4
  obtain rfl:=e4
  exact ⟨{ Ring:=x0,Size:=x1,A:=x2,B:=x3,M:=x4 },⟨((a2_0,b2_0),(a3_0,b3_0),(a4_0,b4_0)),rfl,⟨R2_0,R3_0,R4_0⟩⟩,k0,k1,k2,k3,k4⟩
theorem AeV:Rd Tryz.prog 58 nW TT:=by
  refine ⟨by kernel_rfl,fun enc w sp held fuel cs d h=>?_⟩
  obtain ⟨hl,n,hf⟩:=OR Tryz.underlying58 h
  have hl:cs.length=10:=hl.trans (by kernel_rfl)
  obtain ⟨x0,h0,k0⟩:=Rd.field AeU hf 0 rfl rfl (off:=0) rfl
  obtain ⟨x1,h1,k1⟩:=Rd.field RD5 hf 1 rfl rfl (off:=7) rfl
  obtain ⟨x2,h2,k2⟩:=Rd.field RD5 hf 2 rfl rfl (off:=8) rfl
  obtain ⟨x3,h3,k3⟩:=Rd.field RD5 hf 3 rfl rfl (off:=9) rfl
  obtain ⟨c0,c1,c2,c3,c4,c5,c6,c7,c8,c9,rfl⟩:∃ c0 c1 c2 c3 c4 c5 c6 c7 c8 c9,cs=[c0,c1,c2,c3,c4,c5,c6,c7,c8,c9]:=by
    match cs,hl with
    | [c0,c1,c2,c3,c4,c5,c6,c7,c8,c9],_=>exact ⟨c0,c1,c2,c3,c4,c5,c6,c7,c8,c9,rfl⟩
  obtain ⟨g0,e0,R0⟩:=h0
  have e0:[c0,c1,c2,c3,c4,c5,c6]=[Value.int .i64 x0.Ring,Value.int .u8 x0.Size.1,Value.int .u8 x0.Size.2.1,Value.int .u8 x0.Size.2.2,Value.slice g0.1.1 x0.A.length g0.1.2,Value.slice g0.2.1.1 x0.B.length g0.2.1.2,Value.slice g0.2.2.1 x0.M.length g0.2.2.2]:=e0
  simp only [List.cons.injEq,and_true] at e0
  obtain ⟨rfl,rfl,rfl,rfl,rfl,rfl,rfl⟩:=e0
  have e1:[c7]=[Value.int .u8 x1]:=h1
  simp only [List.cons.injEq,and_true] at e1
  obtain rfl:=e1
  have e2:[c8]=[Value.int .u8 x2]:=h2
  simp only [List.cons.injEq,and_true] at e2
  obtain rfl:=e2
  have e3:[c9]=[Value.int .u8 x3]:=h3
  simp only [List.cons.injEq,and_true] at e3
  obtain rfl:=e3
  exact ⟨{ T:=x0,R:=x1,C:=x2,Room:=x3 },⟨((g0.1.1,g0.1.2),(g0.2.1.1,g0.2.1.2),(g0.2.2.1,g0.2.2.2)),rfl,⟨R0.1,R0.2.1,R0.2.2⟩⟩,k0,k1,k2,k3⟩
theorem AeW:Rd Tryz.prog 45 BQ (SQ .i64):=Rd.int (by kernel_rfl) Tryz.underlying45 _
theorem AeX:Rd Tryz.prog 47 UM qV:=by
  refine ⟨by kernel_rfl,fun enc w sp held fuel cs d h=>?_⟩
  obtain ⟨hl,n,hf⟩:=OR Tryz.underlying47 h
  have hl:cs.length=4:=hl.trans (by kernel_rfl)
  obtain ⟨x0,h0,k0⟩:=Rd.field AeW hf 0 rfl rfl (off:=0) rfl
  obtain ⟨x1,h1,k1⟩:=Rd.field RD3 hf 1 rfl rfl (off:=1) rfl
  obtain ⟨x2,h2,k2⟩:=Rd.field RD3 hf 2 rfl rfl (off:=2) rfl
  obtain ⟨x3,h3,k3⟩:=Rd.field RD3 hf 3 rfl rfl (off:=3) rfl
  obtain ⟨c0,c1,c2,c3,rfl⟩:∃ c0 c1 c2 c3,cs=[c0,c1,c2,c3]:=by
    match cs,hl with
    | [c0,c1,c2,c3],_=>exact ⟨c0,c1,c2,c3,rfl⟩
  have e0:[c0]=[Value.int .i64 x0]:=h0
  simp only [List.cons.injEq,and_true] at e0
  obtain rfl:=e0
  have e1:[c1]=[Value.int .i64 x1]:=h1
  simp only [List.cons.injEq,and_true] at e1
  obtain rfl:=e1
  have e2:[c2]=[Value.int .i64 x2]:=h2
  simp only [List.cons.injEq,and_true] at e2
  obtain rfl:=e2
  have e3:[c3]=[Value.int .i64 x3]:=h3
  simp only [List.cons.injEq,and_true] at e3
  obtain rfl:=e3
  exact ⟨{ Kind:=x0,A:=x1,B:=x2,K:=x3 },rfl,k0,k1,k2,k3⟩
theorem AeY:Rd Tryz.prog 26 (JI UM) (fun xs=>(∀ x∈xs,qV x)∧xs.length≤maxLen):=Rd.slice (by kernel_rfl) Tryz.underlying26 (by decide) AeX
theorem AeZ:Rd Tryz.prog 28 hM VF:=by
  refine ⟨by kernel_rfl,fun enc w sp held fuel cs d h=>?_⟩
  obtain ⟨hl,n,hf⟩:=OR Tryz.underlying28 h
  have hl:cs.length=2:=hl.trans (by kernel_rfl)
  obtain ⟨x0,h0,k0⟩:=Rd.field AeY hf 0 rfl rfl (off:=0) rfl
  obtain ⟨x1,h1,k1⟩:=Rd.field RD5 hf 1 rfl rfl (off:=1) rfl
  obtain ⟨c0,c1,rfl⟩:∃ c0 c1,cs=[c0,c1]:=by
    match cs,hl with
    | [c0,c1],_=>exact ⟨c0,c1,rfl⟩
  obtain ⟨a0_0,b0_0,e0,R0_0⟩:=h0
  have e0:[c0]=[Value.slice a0_0 x0.length b0_0]:=e0
  simp only [List.cons.injEq,and_true] at e0
  obtain rfl:=e0
  have e1:[c1]=[Value.int .u8 x1]:=h1
  simp only [List.cons.injEq,and_true] at e1
  obtain rfl:=e1
  exact ⟨{ L:=x0,Windows:=x1 },⟨_,_,rfl,R0_0⟩,k0,k1⟩
theorem Af0:Rd Tryz.prog 71 (IF 4 (fun x:Int×Int×Int×Int=>[.int .i64 x.1,.int .i64 x.2.1,.int .i64 x.2.2.1,.int .i64 x.2.2.2]) (fun _=>⟨rfl,rfl⟩)) (fun x=>(SQ .i64) (x.1)∧(SQ .i64) (x.2.1)∧(SQ .i64) (x.2.2.1)∧(SQ .i64) (x.2.2.2)):=by
  refine ⟨by kernel_rfl,fun enc w sp held fuel cs d h=>?_⟩
  obtain ⟨hl,hf⟩:=Rd.elemA Tryz.underlying71 RD3 h
  have hl:cs.length=4:=hl.trans (by kernel_rfl)
  obtain ⟨x0,h0,k0⟩:=hf 0 (by decide)
  obtain ⟨x1,h1,k1⟩:=hf 1 (by decide)
  obtain ⟨x2,h2,k2⟩:=hf 2 (by decide)
  obtain ⟨x3,h3,k3⟩:=hf 3 (by decide)
  obtain ⟨c0,c1,c2,c3,rfl⟩:∃ c0 c1 c2 c3,cs=[c0,c1,c2,c3]:=by
    match cs,hl with
    | [c0,c1,c2,c3],_=>exact ⟨c0,c1,c2,c3,rfl⟩
  have e0:[c0]=[Value.int .i64 x0]:=h0
  simp only [List.cons.injEq,and_true] at e0
  obtain rfl:=e0
  have e1:[c1]=[Value.int .i64 x1]:=h1
  simp only [List.cons.injEq,and_true] at e1
  obtain rfl:=e1
  have e2:[c2]=[Value.int .i64 x2]:=h2
  simp only [List.cons.injEq,and_true] at e2
  obtain rfl:=e2
  have e3:[c3]=[Value.int .i64 x3]:=h3
  simp only [List.cons.injEq,and_true] at e3
  obtain rfl:=e3
  exact ⟨(x0,x1,x2,x3),rfl,k0,k1,k2,k3⟩
end Go.Proofs.YtbohadngdkjljaaGreat
