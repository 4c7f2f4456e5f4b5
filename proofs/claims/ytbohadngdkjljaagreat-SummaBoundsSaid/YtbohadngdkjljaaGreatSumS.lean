import Derived.Test.YtbohadngdkjljaaGreatSumR
namespace Go.Proofs.YtbohadngdkjljaaGreat
open Go Go.Fw
set_option linter.unusedVariables false
set_option linter.unusedSimpArgs false
abbrev AdZ (o0:AB) (l k:Int) (o2:List (Nat×AF)):Int×Int×Int×(List Int)×(List Int)×(List Int)×Int×Int×(List Int)×(List Int)×(List Int)×Int×Int×(List Int)×(List Int)×(List Int)×Int×Int×Int×(List AY)×(List (Option Nat))×(List ((Int×Int)×(Option Nat)))×Int×Int×(List (Nat×AF)):=
  (o0.p.Ring,o0.p.A.Rows,o0.p.A.Cols,o0.p.A.Start,o0.p.A.Col,o0.p.A.Val,o0.p.B.Rows,o0.p.B.Cols,o0.p.B.Start,o0.p.B.Col,o0.p.B.Val,o0.p.Mask.Rows,o0.p.Mask.Cols,o0.p.Mask.Start,o0.p.Mask.Col,o0.p.Mask.Val,o0.p.R,o0.p.C,o0.p.Room,o0.stages,o0.workers,o0.boxes,l,k,o2)
theorem AaB (g:Nat→Nat):∀ {a b:Nat},a≤b→LG g a≤LG g b
  | a,b,h=>by
    obtain ⟨k,rfl⟩:∃ k,b=a+k:=⟨b - a,by omega⟩
    rw [cU]; omega
theorem iA (a0:JT) (a1:GQ) (h0:VB a0):MN a0 a1 (fun r=>r=true):=by
  unfold MN
  refine AbR h0 fun d hd hR hC hm=>?_
  have hR1:=hd.R
  have hC1:=hd.C
  have hn16:d.R*d.C≤4*4:=Nat.mul_le_mul hR hC
  have hn1:1≤d.R*d.C:=Nat.mul_pos (by omega) (by omega)
  refine mU hd fun S ads bk hS h hc hrep=>?_
  refine AW rfl ?_
  have ern:((d.R:Int)*(d.C:Int))=((d.R*d.C:Nat):Int):=by simp
  have ewn:AJ (d.p.R*d.p.C)=((d.R*d.C:Nat):Int):=by show AJ ((d.R:Int)*(d.C:Int))=_; rw [ern,AV (by omega) (by omega)]
  rw [ewn]
  refine wO ⟨by omega,by omega⟩ fun l hl=>?_
  have hl120:=hl.len
  have hSl:S.length≤7:=by have:=h.seg.len; simp only [Data.wS] at this; omega
  have hN:UI ((d.wS S).ctx fun i=>ads.getD i 0) (JA (d.wS S))=2*(d.R*d.C)*S.length:=wN h _
  have hrk:Rk ((d.wS S).ctx fun i=>ads.getD i 0):=Aa2 h _
  have hg0:=Y4 h fun i=>ads.getD i 0
  have hl0:=cT h fun i=>ads.getD i 0
  rw [hN] at hl0
  have hcn:((d.wS S).ctx fun i=>ads.getD i 0).n=d.R*d.C:=rfl
  have hcS:((d.wS S).ctx fun i=>ads.getD i 0).S=S:=rfl
  have hcr:((d.wS S).ctx fun i=>ads.getD i 0).room=d.room:=rfl
  generalize ((d.wS S).ctx fun i=>ads.getD i 0)=c at hc hrep hrk hg0 hl0 hcn hcS hcr
  have hNb:2*(d.R*d.C)*S.length≤2*16*7:=Nat.mul_le_mul (by omega) hSl
  refine EP (fun j x=>∃ (i:Nat) (mm:MS) (b0:AB) (b1:List (Nat×AA)) (b2:List (Nat×AF)),x=Aa8 b0 (i:Int) b1 b2∧i+j=l.length∧Rep c mm b0 b1 b2∧Live c (2*(d.R*d.C)*S.length) mm∧Good c mm) (m0:=l.length) ⟨0,_,_,bk,[],rfl,by omega,hrep,hl0,hg0⟩ ?_
  rintro j _ next ⟨i,mm,b0,b1,b2,rfl,hij,hr,hlv,hgd⟩ hnext
  show AQ (decide ((i:Int)<(l.length:Int))) _ _
  refine AD (fun hi=>?_) (fun hi=>wM rfl)
  have hi':i<l.length:=by omega
  refine BG hi' ?_
  have hab:=hl.ab _ (List.getElem_mem hi')
  refine sF hc hrk hr hgd (x:=l[i]) fun e0 e1 e2 he _=>?_
  have hlv2:=hlv.acted hc hgd l[i]
  have hgd2:=hgd.acted hc l[i]
  generalize (mm.act c l[i]).2=m2 at he hlv2 hgd2
  have eA:l[i].A=((l[i].A.toNat:Nat):Int):=by omega
  have eB:l[i].B=((l[i].B.toNat:Nat):Int):=by omega
  have htot:=hlv2.totN
  refine EP (fun j x=>∃ (k:Nat) (f0:AB) (f2:List (Nat×AF)),x=AdZ f0 ((LG (fun w=>(m2.w w).out.length) k:Nat):Int) (k:Int) f2∧k+j=d.R*d.C∧Rep c m2 f0 e1 f2) (m0:=d.R*d.C) ⟨0,e0,e2,rfl,by omega,he⟩ ?_
  rintro j2 _ next2 ⟨k,f0,f2,rfl,hkj,hf⟩ hnext2
  show AQ (decide ((k:Int)<((d.R*d.C:Nat):Int))) _ _
  refine AD (fun hk=>?_) (fun hk=>?_)
  · have hk':k<c.n:=by omega
    have hsum:LG (fun w=>(m2.w w).out.length) k+(m2.w k).out.length≤UI c m2:=by
      have:=AaB (fun w=>(m2.w w).out.length) (show k+1≤c.n by omega)
      exact this
    refine eY hf ?_
    rw [if_pos ⟨by omega,by omega⟩]
    refine BG hi' ?_
    rw [eA]
    refine mO hc hf (by omega) hk' fun g0 g2 hg' _=>?_
    have room1:=(hgd2.room l[i].A.toNat k (by omega) hk').2
    refine AW (by show decide ((d.room:Int)<_)=false; rw [hcr] at room1; simp; omega) (BG hi' ?_)
    rw [eB]
    refine mO hc hg' hk' (by omega) fun q0 q2 hq _=>?_
    have room2:=(hgd2.room k l[i].B.toNat hk' (by omega)).2
    refine AW (by show decide ((d.room:Int)<_)=false; rw [hcr] at room2; simp; omega) ?_
    refine pR hq hk' ?_
    unfold CM
    have hat:=(hlv2.at_ k hk').1
    refine AW (by simp only []; rw [hq.S]; simp; omega) ?_
    have ew:AJ ((k:Int)+1)=((k+1:Nat):Int):=by rw [AV (by omega) (by omega)]; simp
    have es:AJ (((LG (fun w=>(m2.w w).out.length) k:Nat):Int)+(((m2.w ((k:Int)).toNat).out.length:Nat):Int))=((LG (fun w=>(m2.w w).out.length) (k+1):Nat):Int):=by
      rw [Int.toNat_natCast,AV (by omega) (by omega)]
      show _=((LG (fun w=>(m2.w w).out.length) k+(m2.w k).out.length:Nat):Int)
      simp
    rw [es,ew]
    exact hnext2 (j2 - 1) _ (by omega) ⟨k+1,q0,q2,rfl,by omega,hq⟩
  · have hke:k=c.n:=by omega
    subst hke
    refine qB hf (by omega) ?_
    unfold CM
    have e1':((LG (fun w=>(m2.w w).out.length) c.n:Nat):Int)=((UI c m2:Nat):Int):=rfl
    have hst:f0.stages=S:=by rw [hf.S,hcS]
    refine AW ?_ ?_
    · show (AJ (((MV c m2:Nat):Int)+((UI c m2:Nat):Int)) != AJ (AJ (2*((d.R*d.C:Nat):Int))*((f0.stages.length:Nat):Int)))=false
      rw [hst]
      have q1:AJ (((MV c m2:Nat):Int)+((UI c m2:Nat):Int))=((2*(d.R*d.C)*S.length:Nat):Int):=by rw [AV (by omega) (by omega)]; omega
      have q2:AJ (2*((d.R*d.C:Nat):Int))=((2*(d.R*d.C):Nat):Int):=by rw [AV (by omega) (by omega)]; simp
      have q3:((2*(d.R*d.C):Nat):Int)*((S.length:Nat):Int)=((2*(d.R*d.C)*S.length:Nat):Int):=by simp
      rw [q1,q2,q3,AV (by omega) (by omega)]
      simp
    · have ew:AJ ((i:Int)+1)=((i+1:Nat):Int):=by rw [AV (by omega) (by omega)]; simp
      rw [ew]
      exact hnext (j - 1) _ (by omega) ⟨i+1,m2,f0,e1,f2,rfl,by omega,hf,hlv2,hgd2⟩
end Go.Proofs.YtbohadngdkjljaaGreat
