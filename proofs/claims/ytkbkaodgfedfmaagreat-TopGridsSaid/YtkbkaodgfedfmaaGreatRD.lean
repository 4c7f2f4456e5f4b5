/- How arguments read. -/
import Derived.Test.YtkbkaodgfedfmaaGreatOK
import Derived.Test.YtkbkaodgfedfmaaGreatF
import Derived.Test.YtkbkaodgfedfmaaGreatFwT
namespace Go.Proofs.YtkbkaodgfedfmaaGreat
open Go Go.Fw
set_option linter.unusedVariables false
set_option maxRecDepth 100000
theorem AoD:Rd Tryz.prog 22 AR (fE .i64):=Rd.int (by kernel_rfl) Tryz.underlying22 _
theorem RD3:Rd Tryz.prog 3 AR (fE .i64):=Rd.int (by kernel_rfl) Tryz.underlying3 _
theorem RD2:Rd Tryz.prog 2 AR (fE .i64):=Rd.int (by kernel_rfl) Tryz.underlying2 _
theorem AoE:Rd Tryz.prog 23 (mD AR) (λxs=>(∀ x∈xs,(fE .i64) x)∧xs.length<=maxLen):=Rd.slice (by kernel_rfl) Tryz.underlying23 (by decide) RD2
theorem AoF:Rd Tryz.prog 25 AmY AgW:=by
  refine⟨by kernel_rfl,λenc w sp held fuel cs d h=>?_⟩;obtain⟨hl,n,hf⟩:=MS Tryz.underlying25 h;have hl:cs.length=5:=hl.trans (by kernel_rfl);obtain⟨x0,h0,k0⟩:=Rd.field AoD hf 0 rfl rfl (off:=0) rfl;obtain⟨x1,h1,k1⟩:=Rd.field RD3 hf 1 rfl rfl (off:=1) rfl;obtain⟨x2,h2,k2⟩:=Rd.field RD3 hf 2 rfl rfl (off:=2) rfl;obtain⟨x3,h3,k3⟩:=Rd.field RD3 hf 3 rfl rfl (off:=3) rfl;obtain⟨x4,h4,k4⟩:=Rd.field AoE hf 4 rfl rfl (off:=4) rfl
  obtain⟨c0,c1,c2,c3,c4,rfl⟩:∃ c0 c1 c2 c3 c4,cs=[c0,c1,c2,c3,c4]:=by
    match cs,hl with
    | [c0,c1,c2,c3,c4],_=>exact⟨c0,c1,c2,c3,c4,rfl⟩
  have e0:[c0]=[Value.int .i64 x0]:=h0;simp only[List.cons.injEq,and_true] at e0;obtain rfl:=e0;have e1:[c1]=[Value.int .i64 x1]:=h1;simp only[List.cons.injEq,and_true] at e1;obtain rfl:=e1;have e2:[c2]=[Value.int .i64 x2]:=h2;simp only[List.cons.injEq,and_true] at e2;obtain rfl:=e2;have e3:[c3]=[Value.int .i64 x3]:=h3;simp only[List.cons.injEq,and_true] at e3;obtain rfl:=e3;obtain⟨a4_0,b4_0,e4,R4_0⟩:=h4;have e4:[c4]=[Value.slice a4_0 x4.length b4_0]:=e4;simp only[List.cons.injEq,and_true] at e4;obtain rfl:=e4;exact⟨{ Kind:=x0,N:=x1,Source:=x2,Length:=x3,Draws:=x4 },⟨_,_,rfl,R4_0⟩,k0,k1,k2,k3,k4⟩
theorem Ao0:Rd Tryz.prog 139 CW AbC:=by
  refine⟨by kernel_rfl,λenc w sp held fuel cs d h=>?_⟩;obtain⟨hl,n,hf⟩:=MS Tryz.underlying139 h;have hl:cs.length=3:=hl.trans (by kernel_rfl);obtain⟨x0,h0,k0⟩:=Rd.field RD3 hf 0 rfl rfl (off:=0) rfl;obtain⟨x1,h1,k1⟩:=Rd.field RD3 hf 1 rfl rfl (off:=1) rfl;obtain⟨x2,h2,k2⟩:=Rd.field RD2 hf 2 rfl rfl (off:=2) rfl
  obtain⟨c0,c1,c2,rfl⟩:∃ c0 c1 c2,cs=[c0,c1,c2]:=by
    match cs,hl with
    | [c0,c1,c2],_=>exact⟨c0,c1,c2,rfl⟩
  have e0:[c0]=[Value.int .i64 x0]:=h0;simp only[List.cons.injEq,and_true] at e0;obtain rfl:=e0;have e1:[c1]=[Value.int .i64 x1]:=h1;simp only[List.cons.injEq,and_true] at e1;obtain rfl:=e1;have e2:[c2]=[Value.int .i64 x2]:=h2;simp only[List.cons.injEq,and_true] at e2;obtain rfl:=e2;exact⟨{ From:=x0,To:=x1,W:=x2 },rfl,k0,k1,k2⟩
theorem AoG:Rd Tryz.prog 26 (mD CW) (λxs=>(∀ x∈xs,AbC x)∧xs.length<=maxLen):=Rd.slice (by kernel_rfl) Tryz.underlying26 (by decide) Ao0
theorem AoH:Rd Tryz.prog 28 AlM AcY:=by
  refine⟨by kernel_rfl,λenc w sp held fuel cs d h=>?_⟩;obtain⟨hl,n,hf⟩:=MS Tryz.underlying28 h;have hl:cs.length=2:=hl.trans (by kernel_rfl);obtain⟨x0,h0,k0⟩:=Rd.field RD3 hf 0 rfl rfl (off:=0) rfl;obtain⟨x1,h1,k1⟩:=Rd.field AoG hf 1 rfl rfl (off:=1) rfl
  obtain⟨c0,c1,rfl⟩:∃ c0 c1,cs=[c0,c1]:=by
    match cs,hl with
    | [c0,c1],_=>exact⟨c0,c1,rfl⟩
  have e0:[c0]=[Value.int .i64 x0]:=h0;simp only[List.cons.injEq,and_true] at e0;obtain rfl:=e0;obtain⟨a1_0,b1_0,e1,R1_0⟩:=h1;have e1:[c1]=[Value.slice a1_0 x1.length b1_0]:=e1;simp only[List.cons.injEq,and_true] at e1;obtain rfl:=e1;exact⟨{ N:=x0,Edges:=x1 },⟨_,_,rfl,R1_0⟩,k0,k1⟩
theorem RD5:Rd Tryz.prog 5 eU8 (fE .u8):=Rd.int (by kernel_rfl) Tryz.underlying5 _
theorem AoI:Rd Tryz.prog 30 xW WZ:=by
  refine⟨by kernel_rfl,λenc w sp held fuel cs d h=>?_⟩;obtain⟨hl,n,hf⟩:=MS Tryz.underlying30 h;have hl:cs.length=8:=hl.trans (by kernel_rfl);obtain⟨x0,h0,k0⟩:=Rd.field AoF hf 0 rfl rfl (off:=0) rfl;obtain⟨x1,h1,k1⟩:=Rd.field AoH hf 1 rfl rfl (off:=5) rfl;obtain⟨x2,h2,k2⟩:=Rd.field RD5 hf 2 rfl rfl (off:=7) rfl
  obtain⟨c0,c1,c2,c3,c4,c5,c6,c7,rfl⟩:∃ c0 c1 c2 c3 c4 c5 c6 c7,cs=[c0,c1,c2,c3,c4,c5,c6,c7]:=by
    match cs,hl with
    | [c0,c1,c2,c3,c4,c5,c6,c7],_=>exact⟨c0,c1,c2,c3,c4,c5,c6,c7,rfl⟩
  obtain⟨a0_0,b0_0,e0,R0_0⟩:=h0;have e0:[c0,c1,c2,c3,c4]=[Value.int .i64 x0.Kind,Value.int .i64 x0.N,Value.int .i64 x0.Source,Value.int .i64 x0.Length,Value.slice a0_0 x0.Draws.length b0_0]:=e0;simp only[List.cons.injEq,and_true] at e0;obtain⟨rfl,rfl,rfl,rfl,rfl⟩:=e0;obtain⟨a1_0,b1_0,e1,R1_0⟩:=h1;have e1:[c5,c6]=[Value.int .i64 x1.N,Value.slice a1_0 x1.Edges.length b1_0]:=e1;simp only[List.cons.injEq,and_true] at e1;obtain⟨rfl,rfl⟩:=e1;have e2:[c7]=[Value.int .u8 x2]:=h2;simp only[List.cons.injEq,and_true] at e2;obtain rfl:=e2;exact⟨{ P:=x0,G:=x1,Limit:=x2 },⟨((a0_0,b0_0),(a1_0,b1_0)),rfl,⟨R0_0,R1_0⟩⟩,k0,k1,k2⟩
theorem AoJ:Rd Tryz.prog 96 AR (fE .i64):=Rd.int (by kernel_rfl) Tryz.underlying96 _
theorem AoK:Rd Tryz.prog 97 AR (fE .i64):=Rd.int (by kernel_rfl) Tryz.underlying97 _
theorem AoL:Rd Tryz.prog 99 PI nR:=by
  refine⟨by kernel_rfl,λenc w sp held fuel cs d h=>?_⟩;obtain⟨hl,n,hf⟩:=MS Tryz.underlying99 h;have hl:cs.length=2:=hl.trans (by kernel_rfl);obtain⟨x0,h0,k0⟩:=Rd.field AoJ hf 0 rfl rfl (off:=0) rfl;obtain⟨x1,h1,k1⟩:=Rd.field AoK hf 1 rfl rfl (off:=1) rfl
  obtain⟨c0,c1,rfl⟩:∃ c0 c1,cs=[c0,c1]:=by
    match cs,hl with
    | [c0,c1],_=>exact⟨c0,c1,rfl⟩
  have e0:[c0]=[Value.int .i64 x0]:=h0;simp only[List.cons.injEq,and_true] at e0;obtain rfl:=e0;have e1:[c1]=[Value.int .i64 x1]:=h1;simp only[List.cons.injEq,and_true] at e1;obtain rfl:=e1;exact⟨{ Way:=x0,Form:=x1 },rfl,k0,k1⟩
theorem AoM:Rd Tryz.prog 31 (mD PI) (λxs=>(∀ x∈xs,nR x)∧xs.length<=maxLen):=Rd.slice (by kernel_rfl) Tryz.underlying31 (by decide) AoL
theorem AoN:Rd Tryz.prog 33 xX fQ:=by
  refine⟨by kernel_rfl,λenc w sp held fuel cs d h=>?_⟩;obtain⟨hl,n,hf⟩:=MS Tryz.underlying33 h;have hl:cs.length=12:=hl.trans (by kernel_rfl);obtain⟨x0,h0,k0⟩:=Rd.field AoI hf 0 rfl rfl (off:=0) rfl;obtain⟨x1,h1,k1⟩:=Rd.field RD5 hf 1 rfl rfl (off:=8) rfl;obtain⟨x2,h2,k2⟩:=Rd.field RD5 hf 2 rfl rfl (off:=9) rfl;obtain⟨x3,h3,k3⟩:=Rd.field RD5 hf 3 rfl rfl (off:=10) rfl;obtain⟨x4,h4,k4⟩:=Rd.field AoM hf 4 rfl rfl (off:=11) rfl
  obtain⟨c0,c1,c2,c3,c4,c5,c6,c7,c8,c9,c10,c11,rfl⟩:∃ c0 c1 c2 c3 c4 c5 c6 c7 c8 c9 c10 c11,cs=[c0,c1,c2,c3,c4,c5,c6,c7,c8,c9,c10,c11]:=by
    match cs,hl with
    | [c0,c1,c2,c3,c4,c5,c6,c7,c8,c9,c10,c11],_=>exact⟨c0,c1,c2,c3,c4,c5,c6,c7,c8,c9,c10,c11,rfl⟩
  obtain⟨g0,e0,R0⟩:=h0;have e0:[c0,c1,c2,c3,c4,c5,c6,c7]=[Value.int .i64 x0.P.Kind,Value.int .i64 x0.P.N,Value.int .i64 x0.P.Source,Value.int .i64 x0.P.Length,Value.slice g0.1.1 x0.P.Draws.length g0.1.2,Value.int .i64 x0.G.N,Value.slice g0.2.1 x0.G.Edges.length g0.2.2,Value.int .u8 x0.Limit]:=e0;simp only[List.cons.injEq,and_true] at e0;obtain⟨rfl,rfl,rfl,rfl,rfl,rfl,rfl,rfl⟩:=e0;have e1:[c8]=[Value.int .u8 x1]:=h1;simp only[List.cons.injEq,and_true] at e1;obtain rfl:=e1;have e2:[c9]=[Value.int .u8 x2]:=h2;simp only[List.cons.injEq,and_true] at e2;obtain rfl:=e2;have e3:[c10]=[Value.int .u8 x3]:=h3;simp only[List.cons.injEq,and_true] at e3;obtain rfl:=e3;obtain⟨a4_0,b4_0,e4,R4_0⟩:=h4;have e4:[c11]=[Value.slice a4_0 x4.length b4_0]:=e4;simp only[List.cons.injEq,and_true] at e4;obtain rfl:=e4;exact⟨{ Model:=x0,R:=x1,C:=x2,Room:=x3,Choices:=x4 },⟨(((g0.1.1,g0.1.2),(g0.2.1,g0.2.2)),(a4_0,b4_0)),rfl,⟨⟨R0.1,R0.2⟩,R4_0⟩⟩,k0,k1,k2,k3,k4⟩
theorem AoO:Rd Tryz.prog 34 (KK 3 (λx:Int×Int×Int=>[.int .u8 x.1,.int .u8 x.2.1,.int .u8 x.2.2]) (λ_=>⟨rfl,rfl⟩)) (λx=>(fE .u8) (x.1)∧(fE .u8) (x.2.1)∧(fE .u8) (x.2.2)):=by
  refine⟨by kernel_rfl,λenc w sp held fuel cs d h=>?_⟩;obtain⟨hl,hf⟩:=Rd.elemA Tryz.underlying34 RD5 h;have hl:cs.length=3:=hl.trans (by kernel_rfl);obtain⟨x0,h0,k0⟩:=hf 0 (by decide);obtain⟨x1,h1,k1⟩:=hf 1 (by decide);obtain⟨x2,h2,k2⟩:=hf 2 (by decide)
  obtain⟨c0,c1,c2,rfl⟩:∃ c0 c1 c2,cs=[c0,c1,c2]:=by
    match cs,hl with
    | [c0,c1,c2],_=>exact⟨c0,c1,c2,rfl⟩
  have e0:[c0]=[Value.int .u8 x0]:=h0;simp only[List.cons.injEq,and_true] at e0;obtain rfl:=e0;have e1:[c1]=[Value.int .u8 x1]:=h1;simp only[List.cons.injEq,and_true] at e1;obtain rfl:=e1;have e2:[c2]=[Value.int .u8 x2]:=h2;simp only[List.cons.injEq,and_true] at e2;obtain rfl:=e2;exact⟨(x0,x1,x2),rfl,k0,k1,k2⟩
end Go.Proofs.YtkbkaodgfedfmaaGreat
