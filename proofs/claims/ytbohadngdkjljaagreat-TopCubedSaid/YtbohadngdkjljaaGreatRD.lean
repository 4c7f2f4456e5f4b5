/- How arguments read (printed by a program of ours). -/
import Derived.Test.YtbohadngdkjljaaGreatOK
import Derived.Test.YtbohadngdkjljaaGreatF
import Derived.Test.YtbohadngdkjljaaGreatFwT
namespace Go.Proofs.YtbohadngdkjljaaGreat
open Go Go.Fw
set_option linter.unusedVariables false
set_option maxRecDepth 100000
theorem RD3:Rd Tryz.prog 3 AE (jA .i64):=Rd.int (by kernel_rfl) Tryz.underlying3 _
theorem RD2:Rd Tryz.prog 2 AE (jA .i64):=Rd.int (by kernel_rfl) Tryz.underlying2 _
theorem AdE:Rd Tryz.prog 49 GU pJ:=by
  refine ⟨by kernel_rfl,fun enc w sp held fuel cs d h=>?_⟩
  obtain ⟨hl,n,hf⟩:=RG Tryz.underlying49 h
  have hl:cs.length=3:=hl.trans (by kernel_rfl)
  obtain ⟨x0,h0,k0⟩:=Rd.field RD3 hf 0 rfl rfl (off:=0) rfl
  obtain ⟨x1,h1,k1⟩:=Rd.field RD3 hf 1 rfl rfl (off:=1) rfl
  obtain ⟨x2,h2,k2⟩:=Rd.field RD2 hf 2 rfl rfl (off:=2) rfl
  obtain ⟨c0,c1,c2,rfl⟩:∃ c0 c1 c2,cs=[c0,c1,c2]:=by
    match cs,hl with
    | [c0,c1,c2],_=>exact ⟨c0,c1,c2,rfl⟩
  have e0:[c0]=[Value.int .i64 x0]:=h0
  simp only [List.cons.injEq,and_true] at e0
  obtain rfl:=e0
  have e1:[c1]=[Value.int .i64 x1]:=h1
  simp only [List.cons.injEq,and_true] at e1
  obtain rfl:=e1
  have e2:[c2]=[Value.int .i64 x2]:=h2
  simp only [List.cons.injEq,and_true] at e2
  obtain rfl:=e2
  exact ⟨{ From:=x0,To:=x1,W:=x2 },rfl,k0,k1,k2⟩
theorem AdF:Rd Tryz.prog 22 (QW GU) (fun xs=>(∀ x∈xs,pJ x)∧xs.length≤maxLen):=Rd.slice (by kernel_rfl) Tryz.underlying22 (by decide) AdE
theorem AdG:Rd Tryz.prog 24 AbB zU:=by
  refine ⟨by kernel_rfl,fun enc w sp held fuel cs d h=>?_⟩
  obtain ⟨hl,n,hf⟩:=RG Tryz.underlying24 h
  have hl:cs.length=2:=hl.trans (by kernel_rfl)
  obtain ⟨x0,h0,k0⟩:=Rd.field RD3 hf 0 rfl rfl (off:=0) rfl
  obtain ⟨x1,h1,k1⟩:=Rd.field AdF hf 1 rfl rfl (off:=1) rfl
  obtain ⟨c0,c1,rfl⟩:∃ c0 c1,cs=[c0,c1]:=by
    match cs,hl with
    | [c0,c1],_=>exact ⟨c0,c1,rfl⟩
  have e0:[c0]=[Value.int .i64 x0]:=h0
  simp only [List.cons.injEq,and_true] at e0
  obtain rfl:=e0
  obtain ⟨a1_0,b1_0,e1,R1_0⟩:=h1
  have e1:[c1]=[Value.slice a1_0 x1.length b1_0]:=e1
  simp only [List.cons.injEq,and_true] at e1
  obtain rfl:=e1
  exact ⟨{ N:=x0,Edges:=x1 },⟨_,_,rfl,R1_0⟩,k0,k1⟩
theorem RD5:Rd Tryz.prog 5 eU8 (jA .u8):=Rd.int (by kernel_rfl) Tryz.underlying5 _
theorem AdH:Rd Tryz.prog 25 (IX 2 (fun x:Int×Int=>[.int .u8 x.1,.int .u8 x.2]) (fun _=>⟨rfl,rfl⟩)) (fun x=>(jA .u8) (x.1)∧(jA .u8) (x.2)):=by
  refine ⟨by kernel_rfl,fun enc w sp held fuel cs d h=>?_⟩
  obtain ⟨hl,hf⟩:=Rd.elemA Tryz.underlying25 RD5 h
  have hl:cs.length=2:=hl.trans (by kernel_rfl)
  obtain ⟨x0,h0,k0⟩:=hf 0 (by decide)
  obtain ⟨x1,h1,k1⟩:=hf 1 (by decide)
  obtain ⟨c0,c1,rfl⟩:∃ c0 c1,cs=[c0,c1]:=by
    match cs,hl with
    | [c0,c1],_=>exact ⟨c0,c1,rfl⟩
  have e0:[c0]=[Value.int .u8 x0]:=h0
  simp only [List.cons.injEq,and_true] at e0
  obtain rfl:=e0
  have e1:[c1]=[Value.int .u8 x1]:=h1
  simp only [List.cons.injEq,and_true] at e1
  obtain rfl:=e1
  exact ⟨(x0,x1),rfl,k0,k1⟩
theorem AdI:Rd Tryz.prog 45 AE (jA .i64):=Rd.int (by kernel_rfl) Tryz.underlying45 _
theorem AdJ:Rd Tryz.prog 47 V7 pK:=by
  refine ⟨by kernel_rfl,fun enc w sp held fuel cs d h=>?_⟩
  obtain ⟨hl,n,hf⟩:=RG Tryz.underlying47 h
  have hl:cs.length=4:=hl.trans (by kernel_rfl)
  obtain ⟨x0,h0,k0⟩:=Rd.field AdI hf 0 rfl rfl (off:=0) rfl
  obtain ⟨x1,h1,k1⟩:=Rd.field RD3 hf 1 rfl rfl (off:=1) rfl
  obtain ⟨x2,h2,k2⟩:=Rd.field RD3 hf 2 rfl rfl (off:=2) rfl
  obtain ⟨x3,h3,k3⟩:=Rd.field RD3 hf 3 rfl rfl (off:=3) rfl
  obtain ⟨c0,c1,c2,c3,rfl⟩:∃ c0 c1 c2 c3,cs=[c0,c1,c2,c3]:=by
    match cs,hl with
    | [c0,c1,c2,c3],_=>exact ⟨c0,c1,c2,c3,rfl⟩
  have e0:[c0]=[Value.int .i64 x0]:=h0
  simp only [List.cons.injEq,and_true] at e0
  obtain rfl:=e0
  have e1:[c1]=[Value.int .i64 x1]:=h1
  simp only [List.cons.injEq,and_true] at e1
  obtain rfl:=e1
  have e2:[c2]=[Value.int .i64 x2]:=h2
  simp only [List.cons.injEq,and_true] at e2
  obtain rfl:=e2
  have e3:[c3]=[Value.int .i64 x3]:=h3
  simp only [List.cons.injEq,and_true] at e3
  obtain rfl:=e3
  exact ⟨{ Kind:=x0,A:=x1,B:=x2,K:=x3 },rfl,k0,k1,k2,k3⟩
theorem AdK:Rd Tryz.prog 26 (QW V7) (fun xs=>(∀ x∈xs,pK x)∧xs.length≤maxLen):=Rd.slice (by kernel_rfl) Tryz.underlying26 (by decide) AdJ
theorem AdL:Rd Tryz.prog 28 fO dS:=by
  refine ⟨by kernel_rfl,fun enc w sp held fuel cs d h=>?_⟩
  obtain ⟨hl,n,hf⟩:=RG Tryz.underlying28 h
  have hl:cs.length=2:=hl.trans (by kernel_rfl)
  obtain ⟨x0,h0,k0⟩:=Rd.field AdK hf 0 rfl rfl (off:=0) rfl
  obtain ⟨x1,h1,k1⟩:=Rd.field RD5 hf 1 rfl rfl (off:=1) rfl
  obtain ⟨c0,c1,rfl⟩:∃ c0 c1,cs=[c0,c1]:=by
    match cs,hl with
    | [c0,c1],_=>exact ⟨c0,c1,rfl⟩
  obtain ⟨a0_0,b0_0,e0,R0_0⟩:=h0
  have e0:[c0]=[Value.slice a0_0 x0.length b0_0]:=e0
  simp only [List.cons.injEq,and_true] at e0
  obtain rfl:=e0
  have e1:[c1]=[Value.int .u8 x1]:=h1
  simp only [List.cons.injEq,and_true] at e1
  obtain rfl:=e1
  exact ⟨{ L:=x0,Windows:=x1 },⟨_,_,rfl,R0_0⟩,k0,k1⟩
end Go.Proofs.YtbohadngdkjljaaGreat
