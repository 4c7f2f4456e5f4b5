import Derived.Test.YtbohadngdkjljaaGreatSumR
namespace Go.Proofs.YtbohadngdkjljaaGreat
open Go Go.Fw
set_option linter.unusedVariables false
set_option linter.unusedSimpArgs false
theorem AbA (c:VQ) (m:MS):m.act c { Kind:=5,A:=0,B:=0,K:=0 }=m.window c:=by
  unfold MS.act
  rw [if_neg (by decide),if_neg (by decide),if_pos rfl]
theorem rK (a0:KC) (a1:GX) (h0:WC a0):SJ a0 a1 (fun r=>r=true):=by
  unfold SJ
  refine AcQ h0 fun d hd hR hC hm=>?_
  have hR1:=hd.R
  have hC1:=hd.C
  have hn16:d.R*d.C≤4*4:=Nat.mul_le_mul hR hC
  have hn1:1≤d.R*d.C:=Nat.mul_pos (by omega) (by omega)
  refine oC hd fun S ads bk hS h hc hrep=>?_
  show MO d.r (AZ d.n d.k d.A) (AZ d.k d.q d.B) (AZ d.n d.q d.M) _
  refine nI hd.cA hd.cB hd.cM hd.vA hd.vB ?_
  have ec:aG d.r d.n d.k d.k d.q d.n d.q d.A d.B d.M=(Z3 d,0):=by have:=hd.r; unfold aG; rw [if_neg (by omega),if_neg (by omega)]; rfl
  rw [ec]
  refine AV rfl (AV rfl ?_)
  have ern:((d.R:Int)*(d.C:Int))=((d.R*d.C:Nat):Int):=by simp
  have ewn:AJ (d.p.R*d.p.C)=((d.R*d.C:Nat):Int):=by show AJ ((d.R:Int)*(d.C:Int))=_; rw [ern,AX (by omega) (by omega)]
  rw [ewn]
  refine xX ⟨by omega,by omega⟩ fun l hl=>?_
  have hl120:=hl.len
  have hSl:S.length≤7:=by have:=h.seg.len; simp only [Data.wS] at this; omega
  have hrk:Rk ((d.wS S).ctx fun i=>ads.getD i 0):=Ab1 h _
  have hg0:=YW h fun i=>ads.getD i 0
  have hl0:=eI h fun i=>ads.getD i 0
  have hphi:∀ mm,Live ((d.wS S).ctx fun i=>ads.getD i 0) (OX ((d.wS S).ctx fun i=>ads.getD i 0) (IV (d.wS S))) mm→Good ((d.wS S).ctx fun i=>ads.getD i 0) mm→fB ((d.wS S).ctx fun i=>ads.getD i 0) mm≤1472:=fun mm hlv hgd=>by
    have h1:=Ab9 h hlv hgd
    have h2:4*(d.R*d.C)*S.length≤4*16*7:=Nat.mul_le_mul (by omega) hSl
    have h3:(d.R*d.C)*((d.R*d.C)*d.room)≤16*(16*4):=Nat.mul_le_mul hn16 (Nat.mul_le_mul hn16 hm)
    have h4:fB ((d.wS S).ctx fun i=>ads.getD i 0) mm≤4*(d.R*d.C)*S.length+(d.R*d.C)*((d.R*d.C)*d.room):=h1
    omega
  have hlenC:(Z3 d).length≤1000000000000:=by have:=(tW h).len; show (Z3 (d.wS S)).length≤_; omega
  have hcell:∀ {mm:MS} {b0 b1 b2} {Q:List AK→Prop},Rep ((d.wS S).ctx fun i=>ads.getD i 0) mm b0 b1 b2→mm.ended ((d.wS S).ctx fun i=>ads.getD i 0)=true→Q (Z3 d)→CL b0 b1 Q:=fun hr he hq=>fD h hr he hq
  generalize ((d.wS S).ctx fun i=>ads.getD i 0)=c at hc hrep hrk hg0 hl0 hphi hcell
  generalize OX c (IV (d.wS S))=N at hl0 hphi
  refine ET (fun j x=>∃ (i:Nat) (mm:MS) (b0:AB) (b1:List (Nat×AA)) (b2:List (Nat×AF)),x=rE b0 (i:Int) b1 b2∧i+j=l.length∧Rep c mm b0 b1 b2∧Live c N mm∧Good c mm) (m0:=l.length) ⟨0,_,_,bk,[],rfl,by omega,hrep,hl0,hg0⟩ ?_
  rintro j _ next ⟨i,mm,b0,b1,b2,rfl,hij,hr,hlv,hgd⟩ hnext
  show AR (decide ((i:Int)<(l.length:Int))) _ _
  refine AD (fun hi=>?_) (fun hi=>?_)
  · have hi':i<l.length:=by omega
    refine BH hi' ?_
    refine nU hc hrk hr hgd (x:=l[i]) fun e0 e1 e2 he _=>?_
    have ew:AJ ((i:Int)+1)=((i+1:Nat):Int):=by rw [AX (by omega) (by omega)]; simp
    have go:=hnext (j - 1) (rE e0 ((i+1:Nat):Int) e1 e2) (by omega) ⟨i+1,_,e0,e1,e2,rfl,by omega,he,hlv.acted hc hgd l[i],hgd.acted hc l[i]⟩
    rw [←ew] at go
    refine Y2 hc he ?_
    cases hE:(mm.act c l[i]).2.ended c with
    | false=>exact AV rfl go
    | true=>exact BM rfl (hcell he hE (cF hlenC rfl (AV rfl go)))
  · unfold EV
    refine ET (fun j x=>∃ (i:Nat) (mm:MS) (b0:AB) (b1:List (Nat×AA)) (b2:List (Nat×AF)),x=rE b0 (i:Int) b1 b2∧i+j=2000∧Rep c mm b0 b1 b2∧Live c N mm∧Good c mm∧fB c mm+i≤1999) (m0:=2000) ⟨0,mm,b0,b1,b2,rfl,rfl,hr,hlv,hgd,by have:=hphi mm hlv hgd; omega⟩ ?_
    rintro j2 _ next2 ⟨i2,m2,f0,f1,f2,rfl,hij2,hr2,hlv2,hgd2,hp2⟩ hnext2
    show AR (decide ((i2:Int)<2000)) _ _
    refine AD (fun hi2=>?_) (fun hi2=>by omega)
    refine nU hc hrk hr2 hgd2 (x:={ Kind:=5,A:=0,B:=0,K:=0 }) fun e0 e1 e2 he _=>?_
    rw [AbA] at he ⊢
    obtain ⟨w1,w2,w3⟩:=tU hc hlv2 hgd2
    cases hb:(m2.window c).1 with
    | true=>
      have:=w2 hb
      have ew:AJ ((i2:Int)+1)=((i2+1:Nat):Int):=by rw [AX (by omega) (by omega)]; simp
      refine BM rfl ?_
      rw [ew]
      exact hnext2 (j2 - 1) _ (by omega) ⟨i2+1,_,e0,e1,e2,rfl,by omega,he,hlv2.window hc hgd2,hgd2.window hc,by omega⟩
    | false=>
      have hz:=w3 hb
      have hE:(m2.window c).2.ended c=true:=VG.2 (qY (hlv2.window hc hgd2) (by omega))
      refine AV rfl (xV (BM rfl (Y2 hc he ?_)))
      rw [hE]
      exact BM rfl (hcell he hE (cF hlenC rfl rfl))
end Go.Proofs.YtbohadngdkjljaaGreat
