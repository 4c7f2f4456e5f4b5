/- The walks (printed by a program of ours). -/
import Derived.Test.YtggmiaebkplnlaaGreatV1
namespace Go.Proofs.YtggmiaebkplnlaaGreat
open Go Go.Fw
set_option linter.unusedVariables false
set_option linter.unusedSimpArgs false
set_option maxRecDepth 8000
set_option maxHeartbeats 1000000
open Tryz
theorem W_prog_changed_59a {I : IH} {o0 : Vec} {o1 : Plan} {o2 : State} {o3 : Int} {a0 : State} {a1 : Int} {b5 : Nat} {p6 : Option Addr} {c7 : Nat} {b9 : Nat} {p10 : Option Addr} {c11 : Nat} {b13 : Nat} {p14 : Option Addr} {c15 : Nat} {p17 : Option Addr} {c18 : Nat} {p20 : Option Addr} {c21 : Nat} {b23 : Nat} {p24 : Option Addr} {c25 : Nat} {p27 : Option Addr} {c28 : Nat} {p30 : Option Addr} {c31 : Nat} {Q : State → Prop} (R8 : RepSl eItem I p6 c7 o0.Items) (R12 : RepSl eI64 I p10 c11 o1.Draws) (R16 : RepSl eI64 I p14 c15 o2.A) (R19 : RepSl eI64 I p17 c18 o2.B) (R22 : RepSl eU64 I p20 c21 o2.On) (R26 : RepSl eI64 I p24 c25 a0.A) (R29 : RepSl eI64 I p27 c28 a0.B) (R32 : RepSl eU64 I p30 c31 a0.On) (hd : prog_changed_59a o0 o1 o2 o3 a0 a1 Q) :
  Fun prog 53 #[.agg #[.int .i64 a0.Low, .int .i64 a0.High, .slice p24 a0.A.length c25, .slice p27 a0.B.length c28, .slice p30 a0.On.length c31], .int .i64 a1, .func (.func 64) #[] #[.pointer (some ⟨b5, 0, none⟩), .pointer (some ⟨b9, 0, none⟩), .pointer (some ⟨b13, 0, none⟩), .pointer (some ⟨b23, 0, none⟩)]] I [pto b5 (.cells #[.int .i64 o0.N, .slice p6 o0.Items.length c7] 51 (0, 0)), pto b9 (.cells #[.int .i64 o1.Kind, .int .i64 o1.N, .int .i64 o1.Source, .int .i64 o1.Length, .slice p10 o1.Draws.length c11] 25 (0, 0)), pto b13 (.cells #[.int .i64 o2.Low, .int .i64 o2.High, .slice p14 o2.A.length c15, .slice p17 o2.B.length c18, .slice p20 o2.On.length c21] 46 (0, 0)), pto b23 (.cells #[.int .i64 o3] 3 (0, 0))] (fun I_ v l => ∃ r p33 c34 p36 c37 p39 c40, v = .agg #[.int .i64 r.Low, .int .i64 r.High, .slice p33 r.A.length c34, .slice p36 r.B.length c37, .slice p39 r.On.length c40] ∧ RepSl eI64 I_ p33 c34 r.A ∧ RepSl eI64 I_ p36 c37 r.B ∧ RepSl eU64 I_ p39 c40 r.On ∧ l = [pto b5 (.cells #[.int .i64 o0.N, .slice p6 o0.Items.length c7] 51 (0, 0)), pto b9 (.cells #[.int .i64 o1.Kind, .int .i64 o1.N, .int .i64 o1.Source, .int .i64 o1.Length, .slice p10 o1.Draws.length c11] 25 (0, 0)), pto b13 (.cells #[.int .i64 o2.Low, .int .i64 o2.High, .slice p14 o2.A.length c15, .slice p17 o2.B.length c18, .slice p20 o2.On.length c21] 46 (0, 0)), pto b23 (.cells #[.int .i64 o3] 3 (0, 0))] ∧ Q r) := by
 refine Fun.enter (vs := [.agg #[.int .i64 a0.Low, .int .i64 a0.High, .slice p24 a0.A.length c25, .slice p27 a0.B.length c28, .slice p30 a0.On.length c31], .int .i64 a1, .func (.func 64) #[] #[.pointer (some ⟨b5, 0, none⟩), .pointer (some ⟨b9, 0, none⟩), .pointer (some ⟨b13, 0, none⟩), .pointer (some ⟨b23, 0, none⟩)]]) func53 r ntmps53 r (.c (.c (.c .n))) fun w0 M => ?_
 refine .sr (.boxA r r r fun b37 => ?_)
 refine .allocA zv46 r r fun b39 => ?_
 refine .nilS [6, 3, 2, 1] r r (.sr (.fa un46 r sz3 r (o := 0) r r r (.load1 ia3 r (.s .z) r r r (.fa un46 r sz3 r (o := 1) r r r (.load1 ia3 r (.s .z) r r r (.build zv46 un46 BI46 (.c r r r (.t .nil) (.c r r r (.s (.t .nil)) .n)) (by exact ⟨⟨_, _, r, r, r⟩, ⟨⟨_, _, r, r, r⟩, trivial⟩⟩) r r (.allocA zv46 r r fun b43 => ?_)))))))
 refine .storeA sz46 r r .z (.t (.t (.t (.t (.t .nil))))) r r (.nilS [7, 6, 2, 1] r r (.drop (.s (.s .z)) (.sr (.ks 1 r (.nilS [8, 7, 6, 2, 1] r r (.seq (.sr (.ks 2 r (.nilS [19, 18, 8, 7, 6, 2, 1] r r ?_)))))))))
 refine .block (.own0 eI64 2 (.own0 eI64 2 (.own0 eI64 3 (.loop hd (fun (s : (List Int) × (List Int) × (List Int) × Int) c w => match s with | (s157, s161, s165, s169) => ∃ I_ p158 c159 p162 c163 p166 c167, IH.le I I_ ∧ Ok ⟨52, [], none⟩ [(1, .int .i64 a1), (2, .func (.func 64) #[] #[.pointer (some ⟨b5, 0, none⟩), .pointer (some ⟨b9, 0, none⟩), .pointer (some ⟨b13, 0, none⟩), .pointer (some ⟨b23, 0, none⟩)]), (6, .pointer (some ⟨b39, 0, none⟩)), (7, .pointer (some ⟨b43, 0, none⟩)), (8, .slice p166 s165.length c167), (18, .int .i64 a1), (19, .int .i64 s169)] c ∧ Sym w0 M I I_ [pto b5 (.cells #[.int .i64 o0.N, .slice p6 o0.Items.length c7] 51 (0, 0)), pto b9 (.cells #[.int .i64 o1.Kind, .int .i64 o1.N, .int .i64 o1.Source, .int .i64 o1.Length, .slice p10 o1.Draws.length c11] 25 (0, 0)), pto b13 (.cells #[.int .i64 o2.Low, .int .i64 o2.High, .slice p14 o2.A.length c15, .slice p17 o2.B.length c18, .slice p20 o2.On.length c21] 46 (0, 0)), pto b23 (.cells #[.int .i64 o3] 3 (0, 0)), pto b39 (.cells #[.int .i64 0, .int .i64 0, .slice none 0 0, .slice none 0 0, .slice none 0 0] 46 (0, 0)), pto b43 (.cells #[.int .i64 a0.Low, .int .i64 a0.High, .slice p158 s157.length c159, .slice p162 s161.length c163, .slice none 0 0] 46 (0, 0)), OwnSl eI64 2 p158 c159 s157, OwnSl eI64 2 p162 c163 s161, OwnSl eI64 3 p166 c167 s165] w) (fun c w ho hs => ⟨I, _, _, _, _, _, _, (.refl _), ho.sub ⟨r, r, r, r, r, r, r, trivial⟩, hs.pick (.c (.s (.s (.s (.s (.s .z))))) (.c (.s (.s (.s (.s (.s .z))))) (.c (.s (.s (.s (.s (.s .z))))) (.c (.s (.s (.s (.s (.s .z))))) (.c (.s (.s (.s (.s .z)))) (.c (.s (.s (.s .z))) (.c (.s (.s .z)) (.c (.s .z) (.c .z .n)))))))))⟩) ?_))))
 rintro ⟨s157, s161, s165, s169⟩ next173 hd c w hst
 obtain ⟨I174, p158, c159, p162, c163, p166, c167, hl175, hok, hsym⟩ := hst
 replace R8 := R8.mono hl175
 replace R12 := R12.mono hl175
 replace R16 := R16.mono hl175
 replace R19 := R19.mono hl175
 replace R22 := R22.mono hl175
 refine Cod.at hok hsym (.sr (.ks 1 r (.nilS [20, 19, 18, 8, 7, 6, 2, 1] r r (.seq (.condP r hd (fun hb177 hd => ?_) fun hb177 hd => ?_)))))
 · refine .skipS [19, 18, 8, 7, 6, 2, 1] r r (.seq (.block (.sr (.ks 2 r (.nilS [9, 19, 18, 8, 7, 6, 2, 1] r r (.sr (.ks 2 r ?_)))))))
   have hw186 := W_prog_Update_1_24a (I := I174) (o0 := o0) (o1 := o1) (o2 := o2) (o3 := o3) (a0 := s169) (b5 := b5) (p6 := p6) (c7 := c7) (b9 := b9) (p10 := p10) (c11 := c11) (b13 := b13) (p14 := p14) (c15 := c15) (p17 := p17) (c18 := c18) (p20 := p20) (c21 := c21) (b23 := b23) R8 R12 R16 R19 R22 hd
   refine .callS (.c call64 r r) (.c .z (.c .z (.c .z (.c .z .n)))) hw186 r r fun v190 I187 l191 hl188 hv189 => ?_
   obtain ⟨r192, rfl, rfl, hd⟩ := hv189
   have le193 := IH.le.trans hl175 hl188
   replace R8 := R8.mono hl188
   replace R12 := R12.mono hl188
   replace R16 := R16.mono hl188
   replace R19 := R19.mono hl188
   replace R22 := R22.mono hl188
   refine .re (m' := [pto b5 (.cells #[.int .i64 o0.N, .slice p6 o0.Items.length c7] 51 (0, 0)), pto b9 (.cells #[.int .i64 o1.Kind, .int .i64 o1.N, .int .i64 o1.Source, .int .i64 o1.Length, .slice p10 o1.Draws.length c11] 25 (0, 0)), pto b13 (.cells #[.int .i64 o2.Low, .int .i64 o2.High, .slice p14 o2.A.length c15, .slice p17 o2.B.length c18, .slice p20 o2.On.length c21] 46 (0, 0)), pto b23 (.cells #[.int .i64 o3] 3 (0, 0)), pto b39 (.cells #[.int .i64 0, .int .i64 0, .slice none 0 0, .slice none 0 0, .slice none 0 0] 46 (0, 0)), pto b43 (.cells #[.int .i64 a0.Low, .int .i64 a0.High, .slice p158 s157.length c159, .slice p162 s161.length c163, .slice none 0 0] 46 (0, 0)), OwnSl eI64 2 p158 c159 s157, OwnSl eI64 2 p162 c163 s161, OwnSl eI64 3 p166 c167 s165]) r (.ks 7 r (.nilS [12, 11, 10, 9, 19, 18, 8, 7, 6, 2, 1] r r (.seq (.dr [0, 1, 2, 5, 6, 7, 8, 3, 4, 10, 999, 9, 11] 12 (.g r r r (fun _ => .fa un46 r sz23 r (o := 2) r r r .mk) (.g r r r (fun _ => .load1 ia23 r (.s (.s (.s (.s (.s .z))))) r r r .mk) (.fk 1 r (.g r r r (fun _ => .fa un46 r sz23 r (o := 3) r r r .mk) (.g r r r (fun _ => .load1 ia23 r (.s (.s (.s (.s (.s .z))))) r r r .mk) ?_)))))))))
   refine .fk 1 r (.a (fun b => .slice (some ⟨b, 0, none⟩) 1 1) (fun b => pto b (.cells #[.int .i64 r192.2.1] 2 (0, 0))) r r r r (fun _ L hL ex => .buildSlice 1 un23 sz2 zv2 r r (.c r r r .n) r r fun b => .mk (val := fun b => .slice (some ⟨b, 0, none⟩) 1 1) (atom := fun b => pto b (.cells #[.int .i64 r192.2.1] 2 (0, 0))) hL b) (.ww r fun ex => ?_))
   refine .buildSlice 1 un23 sz2 zv2 r r (.c r r r .n) r r fun b195 => ?_
   refine .so 10 r r r (.ck 1 r r (.cg r r r r (fun _ => .load1 ia23 r (.s (.s (.s (.s (.s (.s .z)))))) r r r .mk) (.cg r r r r (fun _ => .fa un46 r sz23 r (o := 3) r r r .mk) (.cg r r r r (fun _ => .load1 ia23 r (.s (.s (.s (.s (.s (.s .z)))))) r r r .mk) (.cg r r r r (fun _ => .fa un46 r sz23 r (o := 2) r r r .mk) trivial))))) (.ww r fun ex => ?_)
   obtain ⟨hl197, hd⟩ := hd
   refine .append (ys := [r192.1]) 8 (.s (.s (.s (.s (.s (.s (.s .z))))))) un23 un23 IN2 r r r r r r r r r (.box .z (.one r) r) hl197 r r fun p198 c199 => ?_
   refine .so 10 r r r (.ck 1 r r (.cg r r r r (fun _ => .load1 ia23 r (.s (.s (.s (.s (.s (.s (.s .z))))))) r r r .mk) (.cg r r r r (fun _ => .fa un46 r sz23 r (o := 3) r r r .mk) trivial))) (.g r r r (fun _ => .fa un46 r sz23 r (o := 2) r r r .mk) (.b r fun b201 => DrawD.nop (.ww r fun ex => ?_)))
   obtain ⟨hl202, hd⟩ := hd
   refine .append (ys := [r192.2.1]) 8 (.s (.s (.s (.s (.s (.s (.s (.s .z)))))))) un23 un23 IN2 r r r r r r r r r (.box (.s (.s (.s (.s (.s (.s (.s (.s (.s (.s .z)))))))))) (.one r) r) hl202 r r fun p203 c204 => ?_
   refine .so 11 r r r (.cg r r r r (fun _ => .fa un46 r sz23 r (o := 2) r r r .mk) trivial) (.ww r fun ex => ?_)
   refine .store1 sz23 r r (.s (.s (.s (.s (.s (.s (.s (.s .z)))))))) (.s (.s (.t .nil))) r (.sn 11 r r r trivial (.e2 12 (.fa un46 r sz23 r (o := 3) r r r (.store1 sz23 r r (.s (.s (.s (.s (.s (.s (.s (.s .z)))))))) (.s (.s (.s (.t .nil)))) r (.nilS [12, 9, 19, 18, 8, 7, 6, 2, 1] r r (.drop (.s (.s .z)) (.drop (.s (.s (.s (.s (.s (.s (.s (.s (.s .z))))))))) (.sr (.ks 1 r ?_)))))))))
   refine .nilS [41, 9, 19, 18, 8, 7, 6, 2, 1] r r (.condP r hd (fun hb206 hd => ?_) fun hb206 hd => ?_)
   · refine .region (.ks 2 r (.buildSlice 1 un30 sz3 zv3 r r (.c r r r .n) r r fun b207 => ?_))
     obtain ⟨hl209, hd⟩ := hd
     refine .append (ys := [s169]) 8 (.s (.s (.s (.s (.s (.s (.s (.s (.s .z))))))))) un30 un30 IN3 r r r r r r r r r (.box .z (.one r) r) hl209 r r fun p210 c211 => ?_
     exact .ks 1 r (.nilS [8, 19, 18, 7, 6, 2, 1] r r (.drop (.s .z) (.region (.ks 2 r (.nil' fun c w ho hs => ⟨((s157 ++ ([r192.1])), (s161 ++ ([r192.2.1])), (s165 ++ ([s169])), w64 (s169 + 1)), hd, I187, _, _, _, _, _, _, le193, ho.sub ⟨r, r, r, r, r, r, r, trivial⟩, hs.pick (.c (.s (.s (.s .z))) (.c (.s (.s (.s .z))) (.c (.s (.s (.s .z))) (.c (.s (.s (.s .z))) (.c (.s (.s (.s .z))) (.c (.s (.s (.s .z))) (.c (.s (.s .z)) (.c (.s .z) (.c .z .n)))))))))⟩)))))
   exact .skipS [19, 18, 8, 7, 6, 2, 1] r r (.region (.ks 2 r (.nil' fun c w ho hs => ⟨((s157 ++ ([r192.1])), (s161 ++ ([r192.2.1])), s165, w64 (s169 + 1)), hd, I187, _, _, _, _, _, _, le193, ho.sub ⟨r, r, r, r, r, r, r, trivial⟩, hs.pick (.c (.s (.s .z)) (.c (.s (.s .z)) (.c (.s (.s .z)) (.c (.s (.s .z)) (.c (.s (.s .z)) (.c (.s (.s .z)) (.c (.s .z) (.c .z (.c .z .n)))))))))⟩)))
 refine .exitS [8, 7, 6, 2, 1] r r (.sr (.ks 2 r (.pub (.s (.s (.s (.s (.s (.s (.s (.s .z)))))))) fun I213 hl214 R215 => ?_)))
 have le216 := IH.le.trans hl175 hl214
 replace R8 := R8.mono hl214
 replace R12 := R12.mono hl214
 replace R16 := R16.mono hl214
 replace R19 := R19.mono hl214
 replace R22 := R22.mono hl214
 have hw226 := W_flags_Of (I := I213) R215 hd
 refine .call call79 r hw226 r r fun v221 I218 hl219 hv220 => ?_
 obtain ⟨r217, p223, c224, rfl, R225, hd⟩ := hv220
 have le227 := IH.le.trans le216 hl219
 replace R8 := R8.mono hl219
 replace R12 := R12.mono hl219
 replace R16 := R16.mono hl219
 replace R19 := R19.mono hl219
 replace R22 := R22.mono hl219
 replace R215 := R215.mono hl219
 refine .fa un46 r sz44 r (o := 4) r r r (.store1 sz44 r r (.s (.s (.s (.s (.s .z))))) (.s (.s (.s (.s (.t .nil))))) r (.nilS [7, 6, 2] r r (.sr (.loadW ia46 sz46 r (.s (.s (.s (.s (.s .z))))) r r r (.storeA sz46 r r (.s (.s (.s (.s .z)))) (.t (.t (.t (.t (.t .nil))))) r r (.nilS [6, 2] r r (.drop (.s (.s (.s (.s (.s .z))))) (.pub (.s (.s (.s (.s (.s (.s .z)))))) fun I228 hl229 R230 => ?_))))))))
 have le231 := IH.le.trans le227 hl229
 replace R8 := R8.mono hl229
 replace R12 := R12.mono hl229
 replace R16 := R16.mono hl229
 replace R19 := R19.mono hl229
 replace R22 := R22.mono hl229
 replace R225 := R225.mono hl229
 refine .pub (.s (.s (.s (.s (.s .z))))) fun I232 hl233 R234 => ?_
 have le235 := IH.le.trans le231 hl233
 replace R8 := R8.mono hl233
 replace R12 := R12.mono hl233
 replace R16 := R16.mono hl233
 replace R19 := R19.mono hl233
 replace R22 := R22.mono hl233
 replace R225 := R225.mono hl233
 replace R230 := R230.mono hl233
 exact .ret (oret results53 (.w ia46 sz46 r (.s (.s (.s (.s .z)))) r .n) le235 (.c .z (.c .z (.c .z (.c .z .n)))) ⟨({ Low := a0.Low, High := a0.High, A := s157, B := s161, On := r217 } : State), _, _, _, _, _, _, r, R234, R230, R225, r, hd⟩)

theorem W_prog_Update {I : IH} {a0 : Plan} {a1 : State} {a2 : Int} {a3 : Vec} {p1 : Option Addr} {c2 : Nat} {p4 : Option Addr} {c5 : Nat} {p7 : Option Addr} {c8 : Nat} {p10 : Option Addr} {c11 : Nat} {p13 : Option Addr} {c14 : Nat} {Q : State → Prop} (R3 : RepSl eI64 I p1 c2 a0.Draws) (R6 : RepSl eI64 I p4 c5 a1.A) (R9 : RepSl eI64 I p7 c8 a1.B) (R12 : RepSl eU64 I p10 c11 a1.On) (R15 : RepSl eItem I p13 c14 a3.Items) (hd : prog_Update a0 a1 a2 a3 Q) :
  PFun prog 22 [.agg #[.int .i64 a0.Kind, .int .i64 a0.N, .int .i64 a0.Source, .int .i64 a0.Length, .slice p1 a0.Draws.length c2], .agg #[.int .i64 a1.Low, .int .i64 a1.High, .slice p4 a1.A.length c5, .slice p7 a1.B.length c8, .slice p10 a1.On.length c11], .int .i64 a2, .agg #[.int .i64 a3.N, .slice p13 a3.Items.length c14]] I (o19_ Q) := by
 refine Fun.enter func22 r ntmps22 r (.c (.c (.c (.c .n)))) fun w0 M => ?_
 refine .sr (.boxA r r r fun b35 => ?_)
 refine .boxA r r r fun b37 => ?_
 refine .box1 r r r r fun b39 => ?_
 refine .boxA r r r fun b41 => ?_
 refine .allocA zv46 r r fun b43 => ?_
 refine .nilS [8, 7, 6, 5, 4] r r (.sr (.loadW ia25 sz25 r (.s (.s (.s (.s .z)))) r r r (.loadW ia46 sz46 r (.s (.s (.s .z))) r r r ?_)))
 have hw76 := W_prog_sure (I := I) R3 R6 R9 R12 hd
 refine .call call60 r hw76 r r fun v65 I62 hl63 hv64 => ?_
 obtain ⟨r61, p67, c68, p70, c71, p73, c74, rfl, R69, R72, R75, hd⟩ := hv64
 replace R3 := R3.mono hl63
 replace R6 := R6.mono hl63
 replace R9 := R9.mono hl63
 replace R12 := R12.mono hl63
 replace R15 := R15.mono hl63
 refine .storeA sz46 r r (.s (.s (.s .z))) (.t (.t (.t (.t (.t .nil))))) r r (.nilS [8, 7, 6, 5, 4] r r (.sr (.fa un46 r sz3 r (o := 1) r r r (.load1 ia3 r (.s (.s (.s .z))) r r r (.fa un46 r sz3 r (o := 0) r r r (.load1 ia3 r (.s (.s (.s .z))) r r r (.ks 2 r (.nilS [9, 8, 7, 6, 5, 4] r r (.seq ?_)))))))))
 refine .seq ?_
 refine Cod.joinQ (σ := Bool) hd (fun (s87 : Bool) c w => ∃ I_, IH.le I62 I_ ∧ Ok ⟨45, [], none⟩ [(4, .pointer (some ⟨b35, 0, none⟩)), (5, .pointer (some ⟨b37, 0, none⟩)), (6, .pointer (some ⟨b39, 0, none⟩)), (7, .pointer (some ⟨b41, 0, none⟩)), (8, .pointer (some ⟨b43, 0, none⟩)), (9, .int .i64 (w64 (r61.High - r61.Low))), (26, .bool s87)] c ∧ Sym w0 M I I_ [pto b35 (.cells #[.int .i64 a0.Kind, .int .i64 a0.N, .int .i64 a0.Source, .int .i64 a0.Length, .slice p1 a0.Draws.length c2] 25 (0, 0)), pto b37 (.cells #[.int .i64 r61.Low, .int .i64 r61.High, .slice p67 r61.A.length c68, .slice p70 r61.B.length c71, .slice p73 r61.On.length c74] 46 (0, 0)), pto b39 (.cells #[.int .i64 a2] 3 (0, 0)), pto b41 (.cells #[.int .i64 a3.N, .slice p13 a3.Items.length c14] 51 (0, 0)), pto b43 (.cells #[.int .i64 0, .int .i64 0, .slice none 0 0, .slice none 0 0, .slice none 0 0] 46 (0, 0))] w) (fun k88 hd => ?_) ?_
 · skip
   refine .region (.loadW ia51 sz51 r (.s .z) r r r ?_)
   have hw90 := W_spvec_Right (I := I62) R15 hd
   refine .callP call61 r hw90 r r fun v91 hv92 => ?_
   obtain ⟨r89, rfl, hd⟩ := hv92
   refine .ks 2 r ?_
   refine splitP hd (fun hb93 hd => ?_) fun hb93 hd => ?_
   · rw [hb93]
     exact .ks 5 r (.nil' fun c w ho hs => ⟨true, hd, I62, (.refl _), ho.sub ⟨r, r, r, r, r, r, r, trivial⟩, hs.pick (.c (.s (.s (.s (.s .z)))) (.c (.s (.s (.s .z))) (.c (.s (.s .z)) (.c (.s .z) (.c .z .n)))))⟩)
   rw [hb93]
   exact .gyes r r r (.fa un51 r sz3 r (o := 0) r r r (.gyes r r r (.load1 ia3 r (.s .z) r r r (.ks 3 r (.nil' fun c w ho hs => ⟨(a3.N != (w64 (r61.High - r61.Low))), hd, I62, (.refl _), ho.sub ⟨r, r, r, r, r, r, r, trivial⟩, hs.pick (.c (.s (.s (.s (.s .z)))) (.c (.s (.s (.s .z))) (.c (.s (.s .z)) (.c (.s .z) (.c .z .n)))))⟩)))))
 rintro s87 hd c w hst
 obtain ⟨I94, hl95, hok, hsym⟩ := hst
 have le96 := IH.le.trans hl63 hl95
 replace R3 := R3.mono hl95
 replace R15 := R15.mono hl95
 replace R69 := R69.mono hl95
 replace R72 := R72.mono hl95
 replace R75 := R75.mono hl95
 refine Cod.at hok hsym (.condP r hd (fun hb97 hd => ?_) fun hb97 hd => ?_)
 · refine .seq (.dr [0, 1, 2, 3, 4, 5, 7, 8, 10, 11, 6, 9, 12, 13] 14 (.g r r r (fun _ => .fa un46 r sz3 r (o := 0) r r r .mk) (.g r r r (fun _ => .load1 ia3 r (.s .z) r r r .mk) (.g r r r (fun _ => .fa un46 r sz3 r (o := 1) r r r .mk) (.g r r r (fun _ => .load1 ia3 r (.s .z) r r r .mk) (.g r r r (fun _ => .fa un46 r sz23 r (o := 2) r r r .mk) (.g r r r (fun _ => .load1 ia23 r (.s .z) r r r .mk) (.g r r r (fun _ => .fa un46 r sz23 r (o := 3) r r r .mk) (.g r r r (fun _ => .load1 ia23 r (.s .z) r r r .mk) ?_)))))))))
   refine .g r r r (fun _ => .fa un46 r sz44 r (o := 4) r r r .mk) (.g r r r (fun _ => .load1 ia44 r (.s .z) r r r .mk) (.ww r fun ex => ?_))
   have hw107 := W_slices_Clone_int64_int64 (I := I94) R69 hd
   refine .call call62 r hw107 r r fun v102 I99 hl100 hv101 => ?_
   obtain ⟨r98, p104, c105, rfl, R106, hd⟩ := hv101
   have le108 := IH.le.trans le96 hl100
   have le109 := IH.le.trans hl95 hl100
   replace R3 := R3.mono hl100
   replace R15 := R15.mono hl100
   replace R69 := R69.mono hl100
   replace R72 := R72.mono hl100
   replace R75 := R75.mono hl100
   refine .so 5 r r r (.cg r r r r (fun _ => .load1 ia44 r (.s .z) r r r .mk) (.cg r r r r (fun _ => .fa un46 r sz44 r (o := 4) r r r .mk) (.cg r r r r (fun _ => .load1 ia23 r (.s .z) r r r .mk) (.cg r r r r (fun _ => .fa un46 r sz23 r (o := 3) r r r .mk) (.cg r r r r (fun _ => .load1 ia3 r (.s .z) r r r .mk) (.cg r r r r (fun _ => .fa un46 r sz3 r (o := 1) r r r .mk) (.cg r r r r (fun _ => .load1 ia3 r (.s .z) r r r .mk) (.cg r r r r (fun _ => .fa un46 r sz3 r (o := 0) r r r .mk) trivial)))))))) (.ww r fun ex => ?_)
   have hw119 := W_slices_Clone_int64_int64 (I := I99) R72 hd
   refine .call call62 r hw119 r r fun v114 I111 hl112 hv113 => ?_
   obtain ⟨r110, p116, c117, rfl, R118, hd⟩ := hv113
   have le120 := IH.le.trans le108 hl112
   have le121 := IH.le.trans le109 hl112
   replace R3 := R3.mono hl112
   replace R15 := R15.mono hl112
   replace R69 := R69.mono hl112
   replace R72 := R72.mono hl112
   replace R75 := R75.mono hl112
   replace R106 := R106.mono hl112
   refine .so 5 r r r (.cg r r r r (fun _ => .load1 ia44 r (.s .z) r r r .mk) (.cg r r r r (fun _ => .fa un46 r sz44 r (o := 4) r r r .mk) (.cg r r r r (fun _ => .load1 ia3 r (.s .z) r r r .mk) (.cg r r r r (fun _ => .fa un46 r sz3 r (o := 1) r r r .mk) (.cg r r r r (fun _ => .load1 ia3 r (.s .z) r r r .mk) (.cg r r r r (fun _ => .fa un46 r sz3 r (o := 0) r r r .mk) trivial)))))) (.ww r fun ex => ?_)
   have hw131 := W_slices_Clone_uint64_uint64 (I := I111) R75 hd
   refine .call call63 r hw131 r r fun v126 I123 hl124 hv125 => ?_
   obtain ⟨r122, p128, c129, rfl, R130, hd⟩ := hv125
   have le132 := IH.le.trans le120 hl124
   have le133 := IH.le.trans le121 hl124
   replace R3 := R3.mono hl124
   replace R15 := R15.mono hl124
   replace R69 := R69.mono hl124
   replace R72 := R72.mono hl124
   replace R75 := R75.mono hl124
   replace R106 := R106.mono hl124
   replace R118 := R118.mono hl124
   exact .so 5 r r r (.cg r r r r (fun _ => .load1 ia3 r (.s .z) r r r .mk) (.cg r r r r (fun _ => .fa un46 r sz3 r (o := 1) r r r .mk) (.cg r r r r (fun _ => .load1 ia3 r (.s .z) r r r .mk) (.cg r r r r (fun _ => .fa un46 r sz3 r (o := 0) r r r .mk) trivial)))) (.g r r r (fun _ => .build zv46 un46 BI46 (.c r r r (.t .nil) (.c r r r (.s (.t .nil)) (.c r r r (.s (.s (.t .nil))) (.c r r r (.s (.s (.s (.t .nil)))) (.c r r r (.s (.s (.s (.s (.t .nil))))) .n))))) (by exact ⟨⟨_, _, r, r, r⟩, ⟨⟨_, _, r, r, r⟩, ⟨⟨_, _, r, r, r⟩, ⟨⟨_, _, r, r, r⟩, ⟨⟨_, _, r, r, r⟩, trivial⟩⟩⟩⟩⟩) r r .mk) (.e2 14 (.storeA sz46 r r (.s (.s (.s (.s .z)))) (.t (.t (.t (.t (.t .nil))))) r r (.nilS [8] r r (.drop .z (.drop .z (.drop .z (.drop .z (.ret (pret results22 (.w ia46 sz46 r .z r .n) le132 ⟨({ Low := r61.Low, High := r61.High, A := r98, B := r110, On := r122 } : State), _, _, _, _, _, _, r, R106, R118, R130, hd⟩))))))))))
 refine .skipS [9, 8, 7, 6, 5, 4] r r (.sr (.loadW ia46 sz46 r (.s .z) r r r (.ks 1 r (.mkFn r r r r ?_))))
 have hw134 := W_prog_changed_59a (I := I94) (o0 := a3) (o1 := a0) (o2 := r61) (o3 := a2) (a0 := r61) (a1 := (w64 (r61.High - r61.Low))) (b5 := b41) (p6 := p13) (c7 := c14) (b9 := b35) (p10 := p1) (c11 := c2) (b13 := b37) (p14 := p67) (c15 := c68) (p17 := p70) (c18 := c71) (p20 := p73) (c21 := c74) (b23 := b39) R15 R3 R69 R72 R75 R69 R72 R75 hd
 refine .callS (.f call53 r) (.c (.s (.s (.s .z))) (.c .z (.c .z (.c .z .n)))) hw134 r r fun v138 I135 l139 hl136 hv137 => ?_
 obtain ⟨r140, p141, c142, p144, c145, p147, c148, rfl, R143, R146, R149, rfl, hd⟩ := hv137
 have le150 := IH.le.trans le96 hl136
 have le151 := IH.le.trans hl95 hl136
 replace R3 := R3.mono hl136
 replace R15 := R15.mono hl136
 replace R69 := R69.mono hl136
 replace R72 := R72.mono hl136
 replace R75 := R75.mono hl136
 exact .re (m' := [pto b41 (.cells #[.int .i64 a3.N, .slice p13 a3.Items.length c14] 51 (0, 0)), pto b35 (.cells #[.int .i64 a0.Kind, .int .i64 a0.N, .int .i64 a0.Source, .int .i64 a0.Length, .slice p1 a0.Draws.length c2] 25 (0, 0)), pto b37 (.cells #[.int .i64 r61.Low, .int .i64 r61.High, .slice p67 r61.A.length c68, .slice p70 r61.B.length c71, .slice p73 r61.On.length c74] 46 (0, 0)), pto b39 (.cells #[.int .i64 a2] 3 (0, 0)), pto b43 (.cells #[.int .i64 0, .int .i64 0, .slice none 0 0, .slice none 0 0, .slice none 0 0] 46 (0, 0))]) r (.storeA sz46 r r (.s (.s (.s (.s .z)))) (.t (.t (.t (.t (.t .nil))))) r r (.nilS [8] r r (.drop .z (.drop .z (.drop .z (.drop .z (.ret (pret results22 (.w ia46 sz46 r .z r .n) le150 ⟨r140, _, _, _, _, _, _, r, R143, R146, R149, hd⟩))))))))

theorem W_law21_live {I : IH} {Q : Bool → Prop}  (hd : law21_live Q) :
  PFun prog 7 [] I (fun _ => o0_ Q) := by
 refine Fun.enter func7 r ntmps7 r .n fun w0 M => ?_
 refine .sr (.ks 1 r (.nilS [] r r (.sr (.build zeroValue25 un25 BI25 (.c r r r (.t .nil) (.c r r r (.s (.t .nil)) (.c r r r (.s (.s (.t .nil))) .n))) (by exact ⟨⟨_, _, r, r, r⟩, ⟨⟨_, _, r, r, r⟩, ⟨⟨_, _, r, r, r⟩, trivial⟩⟩⟩) r r (.allocA zeroValue25 r r fun b3 => ?_)))))
 refine .storeA sz25 r r .z (.t (.t (.t (.t (.t .nil))))) r r (.nilS [1] r r (.sr (.loadW ia25 sz25 r .z r r r ?_)))
 have hw38 := W_prog_Begin (I := I) (a0 := ({ Kind := 1, N := 3, Source := 1, Length := 0, Draws := ([] : List Int) } : Plan)) (.nil _ none 0) hd
 refine .call call18 r hw38 r r fun v27 I24 hl25 hv26 => ?_
 obtain ⟨r23, p29, c30, p32, c33, p35, c36, rfl, R31, R34, R37, hd⟩ := hv26
 refine .allocA zv46 r r fun b39 => ?_
 refine .storeA sz46 r r .z (.t (.t (.t (.t (.t .nil))))) r r (.nilS [2, 1] r r (.sr (.loadW ia25 sz25 r (.s .z) r r r (.loadW ia46 sz46 r .z r r r ?_))))
 have hw63 := W_prog_Out (I := I24) (a0 := ({ Kind := 1, N := 3, Source := 1, Length := 0, Draws := ([] : List Int) } : Plan)) (.nil _ none 0) R31 R34 R37 hd
 refine .call call24 r hw63 r r fun v58 I55 hl56 hv57 => ?_
 obtain ⟨r54, p60, c61, rfl, R62, hd⟩ := hv57
 have le64 := IH.le.trans hl25 hl56
 replace R31 := R31.mono hl56
 replace R34 := R34.mono hl56
 replace R37 := R37.mono hl56
 refine .allocA zv51 r r fun b65 => ?_
 refine .storeA sz51 r r .z (.t (.t .nil)) r r (.nilS [3, 2, 1] r r (.sr (.loadW ia25 sz25 r (.s (.s .z)) r r r (.loadW ia46 sz46 r (.s .z) r r r ?_))))
 have hw87 := W_prog_Asked (I := I55) (a0 := ({ Kind := 1, N := 3, Source := 1, Length := 0, Draws := ([] : List Int) } : Plan)) (.nil _ none 0) R31 R34 R37 hd
 refine .call call34 r hw87 r r fun v82 I79 hl80 hv81 => ?_
 obtain ⟨r78, p84, c85, rfl, R86, hd⟩ := hv81
 have le88 := IH.le.trans le64 hl80
 replace R31 := R31.mono hl80
 replace R34 := R34.mono hl80
 replace R37 := R37.mono hl80
 replace R62 := R62.mono hl80
 refine .ks 5 r (.nilS [5, 4, 3, 2, 1] r r (.sr (.loadW ia25 sz25 r (.s (.s .z)) r r r (.loadW ia46 sz46 r (.s .z) r r r (.build zv71 un71 BI71 (.c r r r (.t .nil) (.c r r r (.s (.t .nil)) .n)) (by exact ⟨⟨_, _, r, r, r⟩, ⟨⟨_, _, r, r, r⟩, trivial⟩⟩) r r (.buildSlice 1 un49 sz71 zv71 r r (.c r r r .n) r r fun b115 => ?_))))))
 refine .ownB (El := eItem) (ys := ([({ At := 2, Val := 1 } : Item)] : List Item)) .z (.one r) r (.build zv51 un51 BI51 (.c r r r (.t .nil) (.c r r r (.s (.t .nil)) .n)) (by exact ⟨⟨_, _, r, r, r⟩, ⟨⟨_, _, r, r, r⟩, trivial⟩⟩) r r (.pub .z fun I118 hl119 R120 => ?_))
 have le121 := IH.le.trans le88 hl119
 replace R31 := R31.mono hl119
 replace R34 := R34.mono hl119
 replace R37 := R37.mono hl119
 replace R62 := R62.mono hl119
 replace R86 := R86.mono hl119
 have hw137 := W_prog_Update (I := I118) (a0 := ({ Kind := 1, N := 3, Source := 1, Length := 0, Draws := ([] : List Int) } : Plan)) (a3 := ({ N := 3, Items := ([({ At := 2, Val := 1 } : Item)] : List Item) } : Vec)) (.nil _ none 0) R31 R34 R37 R120 hd
 refine .call call22 r hw137 r r fun v126 I123 hl124 hv125 => ?_
 obtain ⟨r122, p128, c129, p131, c132, p134, c135, rfl, R130, R133, R136, hd⟩ := hv125
 have le138 := IH.le.trans le121 hl124
 replace R31 := R31.mono hl124
 replace R34 := R34.mono hl124
 replace R37 := R37.mono hl124
 replace R62 := R62.mono hl124
 replace R86 := R86.mono hl124
 replace R120 := R120.mono hl124
 refine .allocA zv46 r r fun b139 => ?_
 refine .storeA sz46 r r .z (.t (.t (.t (.t (.t .nil))))) r r (.nilS [6, 5, 4, 3, 2, 1] r r (.sr (.loadW ia25 sz25 r (.s (.s (.s .z))) r r r (.build zv73 un73 BI73 (.c r r r (.t .nil) (.c r r r (.s (.t .nil)) (.c r r r (.s (.s (.t .nil))) .n))) (by exact ⟨⟨_, _, r, r, r⟩, ⟨⟨_, _, r, r, r⟩, ⟨⟨_, _, r, r, r⟩, trivial⟩⟩⟩) r r (.buildSlice 1 un26 sz73 zv73 r r (.c r r r .n) r r fun b167 => ?_)))))
 refine .ownB (El := eEdge) (ys := ([({ From := 1, To := 2, W := 9 } : Edge)] : List Edge)) .z (.one r) r (.build zv28 un28 BI28 (.c r r r (.t .nil) (.c r r r (.s (.t .nil)) .n)) (by exact ⟨⟨_, _, r, r, r⟩, ⟨⟨_, _, r, r, r⟩, trivial⟩⟩) r r (.pub .z fun I170 hl171 R172 => ?_))
 have le173 := IH.le.trans le138 hl171
 replace R31 := R31.mono hl171
 replace R34 := R34.mono hl171
 replace R37 := R37.mono hl171
 replace R62 := R62.mono hl171
 replace R86 := R86.mono hl171
 replace R130 := R130.mono hl171
 replace R133 := R133.mono hl171
 replace R136 := R136.mono hl171
 have hw189 := W_prog_Matrix (I := I170) (a0 := ({ Kind := 1, N := 3, Source := 1, Length := 0, Draws := ([] : List Int) } : Plan)) (a1 := ({ N := 3, Edges := ([({ From := 1, To := 2, W := 9 } : Edge)] : List Edge) } : Graph)) (.nil _ none 0) R172 hd
 refine .call call8 r hw189 r r fun v178 I175 hl176 hv177 => ?_
 obtain ⟨r174, p180, c181, p183, c184, p186, c187, rfl, R182, R185, R188, hd⟩ := hv177
 have le190 := IH.le.trans le173 hl176
 replace R31 := R31.mono hl176
 replace R34 := R34.mono hl176
 replace R37 := R37.mono hl176
 replace R62 := R62.mono hl176
 replace R86 := R86.mono hl176
 replace R130 := R130.mono hl176
 replace R133 := R133.mono hl176
 replace R136 := R136.mono hl176
 replace R172 := R172.mono hl176
 refine .ks 3 r (.allocA zv32 r r fun b191 => ?_)
 refine .storeA sz32 r r .z (.t (.t (.t (.t (.t .nil))))) r r (.ks 1 r (.nilS [8, 7, 6, 5, 4, 3, 2, 1] r r (.sr (.fa un46 r sz23 r (o := 2) r r r (.load1 ia23 r (.s (.s (.s .z))) r r r (.buildSlice 3 un23 sz2 zv2 r r (.c r r r (.c r r r (.c r r r .n))) r r fun b193 => ?_))))))
 refine .pubB (El := eI64) (ys := ([(-1), 0, (-1)] : List Int)) (k := 3) .z (RepCs.cons (cs := [.int .i64 (-1)]) r (RepCs.cons (cs := [.int .i64 0]) r (RepCs.cons (cs := [.int .i64 (-1)]) r .nil))) r fun I195 hl196 R197 => ?_
 have le198 := IH.le.trans le190 hl196
 replace R31 := R31.mono hl196
 replace R34 := R34.mono hl196
 replace R37 := R37.mono hl196
 replace R62 := R62.mono hl196
 replace R86 := R86.mono hl196
 replace R130 := R130.mono hl196
 replace R133 := R133.mono hl196
 replace R136 := R136.mono hl196
 replace R182 := R182.mono hl196
 replace R185 := R185.mono hl196
 replace R188 := R188.mono hl196
 have hw200 := W_ref07_SameVals (I := I195) R31 R197 hd
 refine .callP call35 r hw200 r r fun v201 hv202 => ?_
 obtain ⟨r199, rfl, hd⟩ := hv202
 refine .ks 1 r ?_
 refine splitP hd (fun hb203 hd => ?_) fun hb203 hd => ?_
 · rw [hb203]
   refine .gyes r r r (.loadW ia25 sz25 r (.s (.s (.s (.s .z)))) r r r (.gyes r r r (.loadW ia46 sz46 r (.s (.s (.s .z))) r r r ?_)))
   have hw205 := W_prog_Live (I := I195) (a0 := ({ Kind := 1, N := 3, Source := 1, Length := 0, Draws := ([] : List Int) } : Plan)) (.nil _ none 0) R31 R34 R37 hd
   refine .gyes r r r (.callP call27 r hw205 r r fun v206 hv207 => ?_)
   obtain ⟨r204, rfl, hd⟩ := hv207
   refine .ks 3 r ?_
   refine splitP hd (fun hb208 hd => ?_) fun hb208 hd => ?_
   · rw [hb208]
     refine .gyes r r r (.fa un51 r sz49 r (o := 1) r r r (.gyes r r r (.load1 ia49 r (.s (.s .z)) r r r (.gyes r r r (.len un49 r r r r (.ks 3 r ?_))))))
     refine splitP hd (fun hb209 hd => ?_) fun hb209 hd => ?_
     · rw [hb209]
       refine .gyes r r r (.fa un51 r sz49 r (o := 1) r r r (.gyes r r r (.load1 ia49 r (.s (.s .z)) r r r ?_)))
       obtain ⟨h210, x211, hx212, hd⟩ := hd
       obtain ⟨b213, o214, cs215, e216, hC217, hr218⟩ := R62.2 _ _ hx212
       cases hr218
       refine .gyes r r r (.ixa un49 sz71 r e216 r h210 (idx_lt hx212 h210) r r (.gyes r r r (.ldW isAgg71 sz71 hC217 r r r r (.gyes r r r (.build zv71 un71 BI71 (.c r r r (.t .nil) (.c r r r (.s (.t .nil)) .n)) (by exact ⟨⟨_, _, r, r, r⟩, ⟨⟨_, _, r, r, r⟩, trivial⟩⟩) r r (.gyes r r r (.eqV r r (EQ71 x211 ({ At := 1, Val := 1 } : Item)) (EG71 _ _ _ _ _) r r r (.ks 2 r ?_))))))))
       refine splitP hd (fun hb219 hd => ?_) fun hb219 hd => ?_
       · rw [hb219]
         refine .ks 1 r ?_
         have hw229 := W_ref03_List (I := I195) R86 hd
         refine .gyes r r r (.call call37 r hw229 r r fun v224 I221 hl222 hv223 => ?_)
         obtain ⟨r220, p226, c227, rfl, R228, hd⟩ := hv223
         have le230 := IH.le.trans le198 hl222
         replace R31 := R31.mono hl222
         replace R34 := R34.mono hl222
         replace R37 := R37.mono hl222
         replace R62 := R62.mono hl222
         replace R86 := R86.mono hl222
         replace R130 := R130.mono hl222
         replace R133 := R133.mono hl222
         replace R136 := R136.mono hl222
         replace R182 := R182.mono hl222
         replace R185 := R185.mono hl222
         replace R188 := R188.mono hl222
         replace R197 := R197.mono hl222
         replace hC217 := hC217.mono hl222
         refine .gyes r r r (.buildSlice 2 un30 sz3 zv3 r r (.c r r r (.c r r r .n)) r r fun b231 => ?_)
         refine .pubB (El := eI64) (ys := ([0, 2] : List Int)) (k := 2) .z (RepCs.cons (cs := [.int .i64 0]) r (RepCs.cons (cs := [.int .i64 2]) r .nil)) r fun I233 hl234 R235 => ?_
         have le236 := IH.le.trans le230 hl234
         replace R31 := R31.mono hl234
         replace R34 := R34.mono hl234
         replace R37 := R37.mono hl234
         replace R62 := R62.mono hl234
         replace R86 := R86.mono hl234
         replace R130 := R130.mono hl234
         replace R133 := R133.mono hl234
         replace R136 := R136.mono hl234
         replace R182 := R182.mono hl234
         replace R185 := R185.mono hl234
         replace R188 := R188.mono hl234
         replace R197 := R197.mono hl234
         replace hC217 := hC217.mono hl234
         replace R228 := R228.mono hl234
         have hw238 := W_ref03_SameInts (I := I233) R228 R235 hd
         refine .gyes r r r (.callP call36 r hw238 r r fun v239 hv240 => ?_)
         obtain ⟨r237, rfl, hd⟩ := hv240
         refine .ks 2 r ?_
         refine splitP hd (fun hb241 hd => ?_) fun hb241 hd => ?_
         · rw [hb241]
           refine .ks 4 r ?_
           refine splitP hd (fun hb242 hd => ?_) fun hb242 hd => ?_
           · rw [hb242]
             refine .gyes r r r (.fa un46 r sz23 r (o := 2) r r r (.gyes r r r (.load1 ia23 r (.s .z) r r r ?_)))
             obtain ⟨h243, x244, hx245, hd⟩ := hd
             obtain ⟨b246, o247, cs248, e249, hC250, hr251⟩ := R130.2 _ _ hx245
             cases hr251
             refine .gyes r r r (.ixa un23 sz2 r e249 r h243 (idx_lt hx245 h243) r r (.gyes r r r (.ld1 (j := 0) ia2 hC250 r r r r r (.ks 3 r ?_))))
             refine splitP hd (fun hb252 hd => ?_) fun hb252 hd => ?_
             · rw [hb252]
               refine .gyes r r r (.fa un46 r sz23 r (o := 3) r r r (.gyes r r r (.load1 ia23 r (.s .z) r r r ?_)))
               obtain ⟨h253, x254, hx255, hd⟩ := hd
               obtain ⟨b256, o257, cs258, e259, hC260, hr261⟩ := R133.2 _ _ hx255
               cases hr261
               refine .gyes r r r (.ixa un23 sz2 r e259 r h253 (idx_lt hx255 h253) r r (.gyes r r r (.ld1 (j := 0) ia2 hC260 r r r r r (.ks 3 r ?_))))
               refine splitP hd (fun hb262 hd => ?_) fun hb262 hd => ?_
               · rw [hb262]
                 refine .ks 4 r ?_
                 refine splitP hd (fun hb263 hd => ?_) fun hb263 hd => ?_
                 · rw [hb263]
                   refine .gyes r r r (.fa un32 r sz23 r (o := 4) r r r (.gyes r r r (.load1 ia23 r .z r r r (.gyes r r r (.len un23 r r r r (.ks 3 r ?_))))))
                   refine splitP hd (fun hb264 hd => ?_) fun hb264 hd => ?_
                   · rw [hb264]
                     refine .gyes r r r (.fa un32 r sz23 r (o := 4) r r r (.gyes r r r (.load1 ia23 r .z r r r ?_)))
                     obtain ⟨h265, x266, hx267, hd⟩ := hd
                     obtain ⟨b268, o269, cs270, e271, hC272, hr273⟩ := R188.2 _ _ hx267
                     cases hr273
                     refine .gyes r r r (.ixa un23 sz2 r e271 r h265 (idx_lt hx267 h265) r r (.gyes r r r (.ld1 (j := 0) ia2 hC272 r r r r r (.ks 3 r ?_))))
                     refine splitP hd (fun hb274 hd => ?_) fun hb274 hd => ?_
                     · rw [hb274]
                       refine .gyes r r r (.loadW ia25 sz25 r (.s (.s (.s (.s .z)))) r r r ?_)
                       have hw276 := W_prog_Right (I := I233) (a0 := ({ Kind := 1, N := 3, Source := 1, Length := 0, Draws := ([] : List Int) } : Plan)) (.nil _ none 0) hd
                       refine .gyes r r r (.callP call10 r hw276 r r fun v277 hv278 => ?_)
                       obtain ⟨r275, rfl, hd⟩ := hv278
                       refine .ks 3 r ?_
                       refine splitP hd (fun hb279 hd => ?_) fun hb279 hd => ?_
                       · rw [hb279]
                         refine .gyes r r r (.build zeroValue25 un25 BI25 .n (by exact trivial) r r ?_)
                         have hw281 := W_prog_Right (I := I233) (a0 := ({ Kind := 0, N := 0, Source := 0, Length := 0, Draws := ([] : List Int) } : Plan)) (.nil _ none 0) hd
                         refine .gyes r r r (.callP call10 r hw281 r r fun v282 hv283 => ?_)
                         obtain ⟨r280, rfl, hd⟩ := hv283
                         refine .ks 3 r ?_
                         refine splitP hd (fun hb284 hd => ?_) fun hb284 hd => ?_
                         · rw [hb284]
                           have hw286 := W_prog_Ring (I := I233) hd
                           refine .gyes r r r (.callP call12 r hw286 r r fun v287 hv288 => ?_)
                           obtain ⟨r285, rfl, hd⟩ := hv288
                           refine .ks 3 r ?_
                           refine splitP hd (fun hb289 hd => ?_) fun hb289 hd => ?_
                           · rw [hb289]
                             refine .gyes r r r (.loadW ia25 sz25 r (.s (.s (.s (.s .z)))) r r r ?_)
                             have hw291 := W_prog_Draw (I := I233) (a0 := ({ Kind := 1, N := 3, Source := 1, Length := 0, Draws := ([] : List Int) } : Plan)) (.nil _ none 0) hd
                             refine .gyes r r r (.callP call14 r hw291 r r fun v292 hv293 => ?_)
                             obtain ⟨r290, rfl, hd⟩ := hv293
                             refine .ks 3 r ?_
                             refine splitP hd (fun hb294 hd => ?_) fun hb294 hd => ?_
                             · rw [hb294]
                               refine .gyes r r r (.loadW ia46 sz46 r (.s (.s (.s .z))) r r r (.gyes r r r (.loadW ia46 sz46 r (.s (.s (.s .z))) r r r ?_)))
                               have hw296 := W_prog_Same (I := I233) R31 R34 R37 R31 R34 R37 hd
                               refine .gyes r r r (.callP call32 r hw296 r r fun v297 hv298 => ?_)
                               obtain ⟨r295, rfl, hd⟩ := hv298
                               refine .ks 2 r ?_
                               refine splitP hd (fun hb299 hd => ?_) fun hb299 hd => ?_
                               · rw [hb299]
                                 refine .gyes r r r (.loadW ia46 sz46 r (.s (.s (.s .z))) r r r (.gyes r r r (.loadW ia46 sz46 r (.s .z) r r r ?_)))
                                 have hw301 := W_prog_Same (I := I233) R31 R34 R37 R130 R133 R136 hd
                                 refine .gyes r r r (.callP call32 r hw301 r r fun v302 hv303 => ?_)
                                 obtain ⟨r300, rfl, hd⟩ := hv303
                                 exact .ks 3 r (.nilS [0] r r (.drop .z (.drop .z (.drop .z (.drop .z (.drop .z (.ret (pret results7 (.t r .n) le236 ⟨(!r300), r, hd⟩))))))))
                               rw [hb299]
                               exact .ks 6 r (.nilS [0] r r (.drop .z (.drop .z (.drop .z (.drop .z (.drop .z (.ret (pret results7 (.t r .n) le236 ⟨false, r, hd⟩))))))))
                             rw [hb294]
                             exact .ks 11 r (.nilS [0] r r (.drop .z (.drop .z (.drop .z (.drop .z (.drop .z (.ret (pret results7 (.t r .n) le236 ⟨false, r, hd⟩))))))))
                           rw [hb289]
                           exact .ks 16 r (.nilS [0] r r (.drop .z (.drop .z (.drop .z (.drop .z (.drop .z (.ret (pret results7 (.t r .n) le236 ⟨false, r, hd⟩))))))))
                         rw [hb284]
                         exact .ks 20 r (.nilS [0] r r (.drop .z (.drop .z (.drop .z (.drop .z (.drop .z (.ret (pret results7 (.t r .n) le236 ⟨false, r, hd⟩))))))))
                       rw [hb279]
                       exact .ks 25 r (.nilS [0] r r (.drop .z (.drop .z (.drop .z (.drop .z (.drop .z (.ret (pret results7 (.t r .n) le236 ⟨false, r, hd⟩))))))))
                     rw [hb274]
                     exact .ks 30 r (.nilS [0] r r (.drop .z (.drop .z (.drop .z (.drop .z (.drop .z (.ret (pret results7 (.t r .n) le236 ⟨false, r, hd⟩))))))))
                   rw [hb264]
                   exact .ks 37 r (.nilS [0] r r (.drop .z (.drop .z (.drop .z (.drop .z (.drop .z (.ret (pret results7 (.t r .n) le236 ⟨false, r, hd⟩))))))))
                 rw [hb263]
                 exact .ks 43 r (.nilS [0] r r (.drop .z (.drop .z (.drop .z (.drop .z (.drop .z (.ret (pret results7 (.t r .n) le236 ⟨false, r, hd⟩))))))))
               rw [hb262]
               exact .ks 47 r (.nilS [0] r r (.drop .z (.drop .z (.drop .z (.drop .z (.drop .z (.ret (pret results7 (.t r .n) le236 ⟨false, r, hd⟩))))))))
             rw [hb252]
             exact .ks 54 r (.nilS [0] r r (.drop .z (.drop .z (.drop .z (.drop .z (.drop .z (.ret (pret results7 (.t r .n) le236 ⟨false, r, hd⟩))))))))
           rw [hb242]
           exact .ks 61 r (.nilS [0] r r (.drop .z (.drop .z (.drop .z (.drop .z (.drop .z (.ret (pret results7 (.t r .n) le236 ⟨false, r, hd⟩))))))))
         rw [hb241]
         exact .ks 65 r (.nilS [0] r r (.drop .z (.drop .z (.drop .z (.drop .z (.drop .z (.ret (pret results7 (.t r .n) le236 ⟨false, r, hd⟩))))))))
       rw [hb219]
       exact .ks 71 r (.nilS [0] r r (.drop .z (.drop .z (.drop .z (.drop .z (.drop .z (.ret (pret results7 (.t r .n) le198 ⟨false, r, hd⟩))))))))
     rw [hb209]
     exact .ks 79 r (.nilS [0] r r (.drop .z (.drop .z (.drop .z (.drop .z (.drop .z (.ret (pret results7 (.t r .n) le198 ⟨false, r, hd⟩))))))))
   rw [hb208]
   exact .ks 85 r (.nilS [0] r r (.drop .z (.drop .z (.drop .z (.drop .z (.drop .z (.ret (pret results7 (.t r .n) le198 ⟨false, r, hd⟩))))))))
 rw [hb203]
 exact .ks 91 r (.nilS [0] r r (.drop .z (.drop .z (.drop .z (.drop .z (.drop .z (.ret (pret results7 (.t r .n) le198 ⟨false, r, hd⟩))))))))

end Go.Proofs.YtggmiaebkplnlaaGreat
