import Derived.Test.YtaefnmlbnkmahaaGreatGemmF
namespace Go.Proofs.YtaefnmlbnkmahaaGreat
open Go Go.Fw
set_option linter.unusedVariables false
set_option linter.unusedSimpArgs false
def sumN:Nat→(Nat→Int)→Int
  | 0,_=>0
  | n+1,f=>sumN n f+f n
def gO (o:Option Int):Int:=(getO o).1
def nzO (d:Int):Option Int:=if d≠0 then some d else none
theorem gO_nz (d:Int):gO (nzO d)=d:=by
  unfold nzO
  split
  · rfl
  · rename_i h; have:d=0:=Decidable.of_not_not h; subst this; rfl
theorem sumN_congr {f g:Nat→Int}:∀ {n:Nat},(∀ j,j<n→f j=g j)→sumN n f=sumN n g
  | 0,_=>rfl
  | n+1,h=>by show sumN n f+f n=sumN n g+g n; rw [sumN_congr fun j hj=>h j (by omega),h n (by omega)]
theorem sumN_bound {f:Nat→Int} {b:Int}:∀ {n:Nat},(∀ j,j<n→0≤f j∧f j≤b)→0≤sumN n f∧sumN n f≤n*b
  | 0,_=>by simp [sumN]
  | n+1,h=>by
    have h1:=sumN_bound (n:=n) fun j hj=>h j (by omega)
    have h2:=h n (by omega)
    show 0≤sumN n f+f n∧sumN n f+f n≤((n+1:Nat):Int)*b
    have e:((n+1:Nat):Int)*b=n*b+b:=by rw [Int.natCast_succ,Int.add_mul,Int.one_mul]
    omega
theorem sumN_zero {f:Nat→Int} {n:Nat} (h:∀ j,j<n→f j=0):sumN n f=0:=by
  have h1:=sumN_bound (f:=f) (b:=0) (n:=n) fun j hj=>by rw [h j hj]; omega
  omega
theorem sumN_one {f:Nat→Int} {n v:Nat} (hv:v<n) (h:∀ j,j<n→j≠v→f j=0):sumN n f=f v:=by
  induction n with
  | zero=>omega
  | succ n ih=>
    show sumN n f+f n=f v
    by_cases e:v=n
    · subst e; rw [sumN_zero fun j hj=>h j (by omega) (by omega)]; omega
    · rw [ih (by omega) fun j hj=>h j (by omega),h n (by omega) (by omega)]; omega
theorem row5 (A B:Int→Option Int):∀ n:Nat,(rowW 5 n A B=none∧sumN n (fun j=>gO (A j)*gO (B j))=0)∨rowW 5 n A B=some (ofZ (sumN n fun j=>gO (A j)*gO (B j)))
  | 0=>.inl ⟨rfl,rfl⟩
  | n+1=>by
    have ih:=row5 A B n
    rw [rowW_succ]
    unfold stepW
    show (_∧sumN n (fun j=>gO (A j)*gO (B j))+gO (A n)*gO (B n)=0)∨_=some (ofZ (sumN n (fun j=>gO (A j)*gO (B j))+gO (A n)*gO (B n)))
    generalize sumN n (fun j=>gO (A j)*gO (B j))=s at ih ⊢
    cases A n with
    | none=>
      have e:gO none*gO (B n)=0:=by show (0:Int)*_=0; omega
      rw [e,Int.add_zero]; exact ih
    | some a=>
      cases B n with
      | none=>
        have e:gO (some a)*gO none=0:=by show _*(0:Int)=0; omega
        rw [e,Int.add_zero]; exact ih
      | some x=>
        have em:mulW 5 a x=ofZ (a*x):=rfl
        have e:gO (some a)*gO (some x)=a*x:=rfl
        rw [e]
        dsimp only
        rw [em]
        rcases ih with ⟨h1,h2⟩ | h1
        · rw [h1,h2,Int.zero_add]; exact .inr rfl
        · rw [h1]
          refine .inr ?_
          show some (addW 5 (ofZ s) (ofZ (a*x)))=_
          rw [ofZ_add]
theorem row5_nz {A B:Int→Option Int} {n:Nat} (h:inI (sumN n fun j=>gO (A j)*gO (B j))):(rowW 5 n A B).bind (nzW 5)=nzO (sumN n fun j=>gO (A j)*gO (B j)):=by
  rcases row5 A B n with ⟨h1,h2⟩ | h1
  · rw [h1,h2]; rfl
  · rw [h1]
    show nzW 5 (ofZ _)=_
    unfold nzW
    rw [narS_ofZ h]
    rfl
theorem row5_fit {A B:Int→Option Int} {n:Nat} (h:inI (sumN n fun j=>gO (A j)*gO (B j))) {w:Wide} (hw:rowW 5 n A B=some w):(narS w).2=true:=by
  rcases row5 A B n with ⟨h1,_⟩ | h1
  · rw [h1] at hw; cases hw
  · rw [h1] at hw; cases hw; rw [narS_ofZ h]
def aT (T:List Triple) (u j:Nat):Int:=gO (lkI (rowI T u) j)
def X0 (v:Nat) (j:Nat):Int:=if j=v then 1 else 0
def X1 (T:List Triple) (n v:Nat) (u:Nat):Int:=sumN n fun j=>aT T u j*X0 v j
def X2 (T:List Triple) (n v:Nat) (u:Nat):Int:=sumN n fun j=>aT T u j*X1 T n v j
theorem aT_bound {rows cols:Int} {T:List Triple} (h:Canon rows cols T) {b:Int} (hb0:0≤b) (hb:∀ t∈T,0≤t.Val∧t.Val≤b) (u j:Nat):0≤aT T u j∧aT T u j≤b:=by
  unfold aT
  cases e:lkI (rowI T u) j with
  | none=>show (0:Int)≤0∧(0:Int)≤b; omega
  | some x=>exact hb _ ((row_look h (by omega)).1 e)
theorem mul_b {a x b c:Int} (h1:0≤a∧a≤b) (h2:0≤x∧x≤c):0≤a*x∧a*x≤b*c:=
  ⟨Int.mul_nonneg h1.1 h2.1,Int.mul_le_mul h1.2 h2.2 h2.1 (by omega)⟩
theorem X1_is {T:List Triple} {n v:Nat} (hv:v<n) (u:Nat):X1 T n v u=aT T u v:=by
  unfold X1
  rw [sumN_one hv fun j _ hj=>by unfold X0; rw [if_neg hj,Int.mul_zero]]
  unfold X0; rw [if_pos rfl,Int.mul_one]
structure Light (n:Nat) (T:List Triple):Prop where
  can:Canon n n T
  small:n≤23
  val:∀ t∈T,0≤t.Val∧t.Val≤7
theorem Light.a {n:Nat} {T:List Triple} (h:Light n T) (u j:Nat):0≤aT T u j∧aT T u j≤7:=aT_bound h.can (by omega) h.val u j
theorem Light.x1 {n v:Nat} {T:List Triple} (h:Light n T) (hv:v<n) (u:Nat):0≤X1 T n v u∧X1 T n v u≤7:=by rw [X1_is hv]; exact h.a u v
theorem Light.s {n:Nat} {T:List Triple} (h:Light n T) {f:Nat→Int} (hf:∀ j,0≤f j∧f j≤7) (u:Nat):0≤sumN n (fun j=>aT T u j*f j)∧sumN n (fun j=>aT T u j*f j)≤1127:=by
  have h1:=sumN_bound (f:=fun j=>aT T u j*f j) (b:=49) (n:=n) fun j _=>mul_b (c:=7) (h.a u j) (hf j)
  have:=h.small
  omega
theorem Light.int {n:Nat} {T:List Triple} (h:Light n T) {t:Triple} (ht:t∈T):inI t.Val:=by have:=h.val t ht; unfold inI; omega
def stW (X:Nat→Int):GV:=fun j=>(X j,-1,X j != 0)
theorem step_W {T:List Triple} {n v:Nat} {p:Plan} (h:Light n T) (hp:rightPl p=0) (hk:p.Kind=4) (hn:p.N=n) {X:Nat→Int} (hX:∀ j,0≤X j∧X j≤7) {G:GV} (hG:∀ j,j<n→G j=stW X j) {round:Int} :
    stepS p T (segV 0 n G) round=(segV 0 n (stW fun u=>sumN n fun j=>aT T u j*X j),0):=by
  have er:ringPl p.Kind round=5:=by rw [hk]; rfl
  have hB:∀ j:Nat,j<n→gO (lkI (outI n fun i=>tellG p round i (G i)) j)=X j:=fun j hj=>by
    rw [outI_lk]
    have et:tellG p round j (G j)=(X j,X j != 0):=by
      rw [hG j hj]
      unfold tellG stW
      rw [if_neg (by omega),if_neg (by omega)]
    rw [et]
    by_cases h0:X j=0
    · rw [if_neg (by simp [h0]),h0]; rfl
    · rw [if_pos ⟨hj,by simpa using h0⟩]; rfl
  have hS:∀ u:Nat,(sumN n fun j=>gO (lkI (rowI T u) j)*gO (lkI (outI n fun i=>tellG p round i (G i)) j))=sumN n fun j=>aT T u j*X j:=fun u=>sumN_congr fun j hj=>by rw [hB j hj]; rfl
  have hI:∀ u:Nat,inI (sumN n fun j=>aT T u j*X j):=fun u=>by have:=h.s hX u; unfold inI; omega
  rw [(step_seg (T:=T) (G:=G) (round:=round) hp hn).2 fun u w hu _ hw=>?_]
  · congr 1
    show chS _ _ _ _=chS _ _ _ _
    refine chS_congr fun i hi=>?_
    show nextG p round G (hearG p T n round G) (0+i)=stW _ (0+i)
    rw [Nat.zero_add]
    have hh:hearG p T n round G i=nzO (sumN n fun j=>aT T i j*X j):=by
      unfold hearG
      have ha:askG p (G i)=true:=by unfold askG; rw [if_neg (by omega),if_neg (by omega)]
      rw [if_pos ha]
      unfold rowG
      rw [er,row5_nz (by rw [hS]; exact hI i),hS]
    unfold nextG
    rw [hh,hG i hi]
    unfold behG stW
    rw [if_neg (by omega),if_neg (by omega),if_pos hk]
    have:=gO_nz (sumN n fun j=>aT T i j*X j)
    unfold gO at this
    dsimp only
    rw [this]
  · unfold rowG at hw
    rw [er] at hw
    exact row5_fit (by rw [hS]; exact hI u) hw
theorem live_W {n:Nat} {p:Plan} (hp:rightPl p=0) (hk:p.Kind=4) (hn:p.N=n) {G:GV} {X:Nat→Int} (hG:∀ j,j<n→G j=stW X j) {round:Int} (hr:round<p.Length):liveS p (segV 0 n G) round=(cntN n fun i=>X i != 0:Nat):=by
  rw [live_seg hp (by omega),if_neg (by omega)]
  congr 1
  refine cntN_congr fun i hi=>?_
  rw [Nat.zero_add,if_neg (by omega),hG i hi]; rfl
def planW (n v:Nat):Plan:=⟨4,n,v,2,[]⟩
theorem ends_W {T:List Triple} {n v:Nat} (h:Light n T) (hv:v<n) (hp:rightPl (planW n v)=0) :
    (∃ k:Nat,k<2∧Ends (planW n v) T 2 k 1∧(∀ i,i<n→X2 T n v i=0)∧∃ G,seqS (planW n v) T k=segV 0 n G)∨(Ends (planW n v) T 2 2 1∧seqS (planW n v) T 2=segV 0 n (stW (X2 T n v))):=by
  have hn:(planW n v).N=n:=rfl
  have h0:seqS (planW n v) T 0=segV 0 n (gV0 (planW n v)):=begin_seg hp rfl (by rw [hn]; omega) (by omega)
  have g0:∀ j,j<n→gV0 (planW n v) j=stW (X0 v) j:=fun j _=>by
    show ((firstS (planW n v) j).1,(-1:Int),(firstS (planW n v) j).2)=(X0 v j,-1,X0 v j != 0)
    unfold X0 firstS planW
    dsimp only
    by_cases e:j=v
    · subst e; simp
    · have e':¬(j:Int)=v:=by omega
      simp [e,e']
  have x0:∀ j,0≤X0 v j∧X0 v j≤7:=fun j=>by unfold X0; split <;> omega
  have l0:liveS (planW n v) (seqS (planW n v) T 0) 0≠0:=by
    rw [h0,live_W hp rfl hn g0 (by show (0:Int)<2; omega)]
    have h1:=cntN_lt (n:=n) (f:=fun i=>X0 v i != 0) (g:=fun _=>false) (fun i _ hb=>by cases hb) hv (by simp [X0]) rfl
    omega
  have s0:=step_W (T:=T) (v:=v) h hp rfl hn x0 g0 (round:=((0:Nat):Int)+1)
  have h1:seqS (planW n v) T 1=segV 0 n (stW (X1 T n v)):=by
    show (stepS (planW n v) T (seqS (planW n v) T 0) (((0:Nat):Int)+1)).1=_
    rw [h0,s0]; rfl
  have st0:stopS (planW n v) T 2 0=0:=by
    unfold stopS
    rw [if_neg (by simpa using l0),if_neg (by simp),h0,s0,if_neg (by simp)]
  have s1:=step_W (T:=T) (v:=v) h hp rfl hn (h.x1 hv) (G:=stW (X1 T n v)) (fun _ _=>rfl) (round:=((1:Nat):Int)+1)
  have h2:seqS (planW n v) T 2=segV 0 n (stW (X2 T n v)):=by
    show (stepS (planW n v) T (seqS (planW n v) T 1) (((1:Nat):Int)+1)).1=_
    rw [h1,s1]; rfl
  have l1:liveS (planW n v) (seqS (planW n v) T 1) 1=(cntN n fun i=>X1 T n v i != 0:Nat):=by
    rw [h1,live_W hp rfl hn (fun _ _=>rfl) (by show (1:Int)<2; omega)]
  by_cases hc:(cntN n fun i=>X1 T n v i != 0)=0
  · left
    have hz:∀ i,i<n→X1 T n v i=0:=fun i hi=>by
      by_cases e:X1 T n v i=0
      · exact e
      · have h1:=cntN_lt (n:=n) (f:=fun i=>X1 T n v i != 0) (g:=fun _=>false) (fun i _ hb=>by cases hb) hi (by simpa using e) rfl
        omega
    refine ⟨1,by omega,⟨by omega,fun k hk=>?_,?_,by omega⟩,fun i hi=>?_,_,h1⟩
    · have:k=0:=by omega
      subst this; exact st0
    · unfold stopS
      rw [if_pos (by rw [show (((1:Nat):Int))=1 from rfl,l1,hc]; rfl)]
    · unfold X2
      exact sumN_zero fun j hj=>by rw [hz j hj,Int.mul_zero]
  · right
    refine ⟨⟨by omega,fun k hk=>?_,?_,by omega⟩,h2⟩
    · obtain rfl | rfl:k=0∨k=1:=by omega
      · exact st0
      · unfold stopS
        rw [if_neg (by rw [show (((1:Nat):Int))=1 from rfl,l1]; omega),if_neg (by simp),h1,s1,if_neg (by simp)]
    · unfold stopS
      have:liveS (planW n v) (seqS (planW n v) T 2) ((2:Nat):Int)=0:=by
        rw [h2,live_seg hp (by rw [hn]; omega),if_pos ⟨rfl,by show (2:Int)≤2; omega⟩]
      rw [if_pos this]
def twoT (T:List Triple) (n:Nat):List Triple:=(cellsS 5 T T (fullT n n)).filterMap (nzC 5)
theorem full_in {n m i j:Nat} (hi:i<n) (hj:j<m):(⟨i,j,1⟩:Triple)∈fullT n m:=List.mem_flatMap.2 ⟨i,List.mem_range.2 hi,List.mem_map.2 ⟨j,List.mem_range.2 hj,rfl⟩⟩
theorem cell_sum {T:List Triple} {n:Nat} (h:Light n T) (i c:Nat) :
    (cellW 5 T T i c=none∧sumN n (fun j=>aT T i j*aT T j c)=0)∨cellW 5 T T i c=some (ofZ (sumN n fun j=>aT T i j*aT T j c)):=by
  rw [cell_row h.can (by omega)]
  exact row5 (lkI (rowI T i)) (bAt T c) n
theorem sum_fit {T:List Triple} {n:Nat} (h:Light n T) (i c:Nat):0≤sumN n (fun j=>aT T i j*aT T j c)∧sumN n (fun j=>aT T i j*aT T j c)≤1127:=h.s (fun j=>h.a j c) i
theorem two_mem {T:List Triple} {n:Nat} (h:Light n T) {i c:Nat} (hi:i<n) (hc:c<n) {x:Int}:(⟨i,c,x⟩:Triple)∈twoT T n↔x≠0∧x=sumN n fun j=>aT T i j*aT T j c:=by
  have hf:=sum_fit h i c
  have hI:inI (sumN n fun j=>aT T i j*aT T j c):=by unfold inI; omega
  unfold twoT
  rw [List.mem_filterMap]
  constructor
  · rintro ⟨cc,hcc,he⟩
    unfold cellsS at hcc
    obtain ⟨t,ht,hto⟩:=List.mem_filterMap.1 hcc
    unfold cellO at hto
    unfold nzC at he
    split at he
    · rename_i hnz
      obtain ⟨w,hw,hcw⟩:=Option.map_eq_some_iff.1 hto
      subst hcw
      simp only [Option.some.injEq,Triple.mk.injEq] at he
      obtain ⟨e1,e2,e3⟩:=he
      rw [e1,e2] at hw
      rcases cell_sum h i c with ⟨h1,_⟩ | h1
      · rw [h1] at hw; cases hw
      · rw [h1] at hw; cases hw
        simp only at hnz e3
        rw [narS_ofZ hI] at hnz e3
        simp only at hnz e3
        exact ⟨by rw [←e3]; exact hnz,e3.symm⟩
    · cases he
  · rintro ⟨hx,rfl⟩
    refine ⟨⟨i,c,ofZ (sumN n fun j=>aT T i j*aT T j c)⟩,?_,?_⟩
    · unfold cellsS
      refine List.mem_filterMap.2 ⟨_,full_in hi hc,?_⟩
      unfold cellO
      rcases cell_sum h i c with ⟨_,h2⟩ | h1
      · exact absurd h2 hx
      · show Option.map _ (cellW 5 T T i c)=_
        rw [h1]; rfl
    · unfold nzC
      dsimp only
      rw [narS_ofZ hI]
      dsimp only
      rw [if_pos (show _≠zS 5 from hx)]
theorem nzC_at {r:Int} {c:Cell} {t:Triple} (h:nzC r c=some t):t.Row=c.Row∧t.Col=c.Col:=by
  unfold nzC at h
  split at h
  · cases h; exact ⟨rfl,rfl⟩
  · cases h
theorem full_23 {T:List Triple} {n:Nat} (h:Light n T):Canon n n (fullT n n):=fullT_canon (by have:=h.small; omega) (by have:=h.small; omega)
theorem two_canon {T:List Triple} {n:Nat} (h:Light n T):Canon n n (twoT T n):=by
  have hM:=full_23 h
  have hP:CellP n n (cellsS 5 T T (fullT n n)):=cells_P (ra:=(n:Int)) (ca:=n) (rb:=n) (cb:=n) hM
  refine ⟨hM.r0,hM.r1,hM.c0,hM.c1,?_,?_,fun t ht=>?_⟩
  · have h1:=hP.len
    have h2:(twoT T n).length≤(cellsS 5 T T (fullT n n)).length:=List.length_filterMap_le _ _
    omega
  · refine List.Pairwise.filterMap _ (fun a b hab c hc d hd=>?_) hP.inc
    have h1:=nzC_at hc
    have h2:=nzC_at hd
    show ltK (c.Row,c.Col) (d.Row,d.Col)
    rw [h1.1,h1.2,h2.1,h2.2]; exact hab
  · obtain ⟨c,hc,he⟩:=List.mem_filterMap.1 ht
    have h1:=nzC_at he
    have h2:=hP.inn c hc
    unfold inT
    rw [h1.1,h1.2]; exact ⟨h2.1.1,h2.1.2,h2.2.1,h2.2.2⟩
theorem times_W {T:List Triple} {n:Nat} (h:Light n T):timesS 5 n n n n n n T T (fullT n n)=(builtS n n (twoT T n),0):=by
  have e:cellsR 5 n n n n n n T T (fullT n n)=(cellsS 5 T T (fullT n n),0):=by
    unfold cellsR
    rw [if_neg (by omega),if_neg (by omega)]
  unfold timesS
  rw [e,if_neg (by simp)]
  unfold doneC
  rw [if_pos]
  · exact of_self (two_canon h) nzC_inI (by omega)
  · rw [List.all_eq_true]
    intro c hc
    obtain ⟨t,ht,hto⟩:=List.mem_filterMap.1 hc
    obtain ⟨i,_,ht⟩:=List.mem_flatMap.1 ht
    obtain ⟨j,_,rfl⟩:=List.mem_map.1 ht
    obtain ⟨w,hw,hcw⟩:=Option.map_eq_some_iff.1 hto
    subst hcw
    have hf:=sum_fit h i j
    have hI:inI (sumN n fun k=>aT T i k*aT T k j):=by unfold inI; omega
    rcases cell_sum h i j with ⟨h1,_⟩ | h1
    · rw [h1] at hw; cases hw
    · rw [h1] at hw; cases hw
      show (narS (ofZ _)).2=true
      rw [narS_ofZ hI]
theorem two_look {T:List Triple} {n:Nat} (h:Light n T) {i c:Nat} (hi:i<n) (hc:c<n):lkI (rowI (twoT T n) i) c=nzO (sumN n fun j=>aT T i j*aT T j c):=by
  refine opt_ext fun x=>?_
  rw [row_look (two_canon h) (by omega),two_mem h hi hc]
  unfold nzO
  constructor
  · rintro ⟨h1,h2⟩; rw [if_pos (by rw [←h2]; exact h1),h2]
  · intro h1
    split at h1
    · rename_i h2; cases h1; exact ⟨h2,rfl⟩
    · cases h1
theorem pull_W {T:List Triple} {n v:Nat} (h:Light n T) (hv:v<n) :
    ∃ y:Vec,(if (sumsR 5 n n (twoT T n) ⟨n,[⟨v,1⟩]⟩ [] true).2≠0 then (zV,(sumsR 5 n n (twoT T n) ⟨n,[⟨v,1⟩]⟩ [] true).2) else doneS 5 n (sumsR 5 n n (twoT T n) ⟨n,[⟨v,1⟩]⟩ [] true).1)=(y,0)∧VecP y∧y.N=n∧∀ i,i<n→lkI y.Items i=nzO (X2 T n v i):=by
  have hsm:=h.small
  have e:sumsR 5 n n (twoT T n) ⟨n,[⟨v,1⟩]⟩ [] true=(sumsS 5 n n [] true (fun i=>lkI (rowI (twoT T n) i)) (lkI [⟨v,1⟩]),0):=by
    unfold sumsR
    rw [if_neg (by omega),if_neg (by simp)]
    simp
  rw [e,if_neg (by simp)]
  have hsp:=sumsS_prop 5 n [] true (fun i=>lkI (rowI (twoT T n) i)) (lkI [⟨v,1⟩]) n
  generalize sumsS 5 n n [] true (fun i=>lkI (rowI (twoT T n) i)) (lkI [⟨v,1⟩])=l at hsp ⊢
  obtain ⟨q1,q2,q3,q4,q5⟩:=hsp
  have hB:∀ j:Nat,gO (lkI [⟨(v:Int),1⟩] j)=if j=v then 1 else 0:=fun j=>by
    rw [lkI_cons]
    by_cases e:j=v
    · subst e; rw [if_pos rfl,if_pos rfl]; rfl
    · rw [if_neg (by simp only; omega),if_neg e]; rfl
  have hS:∀ i,i<n→(sumN n fun j=>gO (lkI (rowI (twoT T n) i) j)*gO (lkI [⟨(v:Int),1⟩] j))=X2 T n v i:=fun i hi=>by
    rw [sumN_one hv fun j _ hj=>by rw [hB,if_neg hj,Int.mul_zero],hB,if_pos rfl,Int.mul_one,two_look h hi hv,gO_nz]
    unfold X2
    exact sumN_congr fun j _=>by rw [X1_is hv]
  have hX:∀ i,inI (X2 T n v i):=fun i=>by have:=h.s (h.x1 hv) i; unfold X2 inI; omega
  have hlk:∀ i:Nat,i<n→lk l i=rowW 5 n (lkI (rowI (twoT T n) i)) (lkI [⟨(v:Int),1⟩]):=fun i hi=>by
    rw [q5,if_pos ⟨by omega,by omega,by unfold askF; rw [hasF_over (by simp)]; rfl⟩]
  have hd:doneS 5 n l=(⟨n,l.filterMap (nzI 5)⟩,0):=by
    unfold doneS
    rw [if_neg (fun h=>h (by omega)),if_neg,if_neg (fun h=>h q1),if_neg]
    · rintro ⟨s,hs,hb⟩
      have hin:=q4 s hs
      obtain ⟨u,hu⟩:∃ u:Nat,s.At=u:=⟨s.At.toNat,by omega⟩
      have h1:lk l u=some s.Val:=by rw [←hu]; exact mem_lk q1 hs
      have hu':u<n:=by omega
      rw [hlk u hu'] at h1
      have:=row5_fit (by rw [hS u hu']; exact hX u) h1
      rw [hb] at this; cases this
    · rintro (h | ⟨s,hs,h⟩)
      · exact h (by omega)
      · have:=q4 s hs; exact h (by omega)
  refine ⟨_,hd,nz_vecP ⟨by omega,by omega⟩ q1 q4,rfl,fun i hi=>?_⟩
  show lkI (l.filterMap (nzI 5)) i=_
  rw [nz_lk q1,hlk i hi,row5_nz (by rw [hS i hi]; exact hX i),hS i hi]
theorem ones_ok {n m:Nat} {Q:Rows→Prop} (hn:n≤200) (hm:m≤200) (hQ:Q (builtS n m (fullT n m))):top_ones n m Q:=by
  unfold top_ones
  have hv:∀ t∈fullT n m,inI t.Val:=fun t ht=>by rw [(fullT_mem ht).2]; unfold inI; omega
  have hc:=fullT_canon hn hm
  refine range_intro (fun (s:List Triple) i=>(s,i)) 0 n (by omega) (fun i s=>s=fullT i m) (by omega) rfl (fun i s next _ hi hs hx=>?_) (fun s next hs=>?_)
  · subst hs
    refine ifP_dec (fun _=>?_) (fun h=>by omega)
    refine range_intro (fun (s:List Triple) i=>(s,i)) 0 m (by omega) (fun j s=>s=fullT i m++fullR i j) (by omega) (by simp [fullR]) (fun j s nx _ hj hs hy=>?_) (fun s nx hs=>?_)
    · subst hs
      refine ifP_dec (fun _=>appP_intro ?_ (hy _ ?_)) (fun h=>by omega)
      · have h1:=Nat.mul_le_mul (show i≤200 by omega) hm
        rw [List.length_append,fullT_len,fullR,List.length_map,List.length_range,List.length_singleton]
        omega
      · rw [fullR_succ,List.append_assoc]
    · subst hs
      refine ifP_dec (fun h=>by omega) (fun _=>hx _ ?_)
      rw [fullT_succ]
  · subst hs
    refine ifP_dec (fun h=>by omega) (fun _=>ref_Of_ok (by have:=hc.len; omega) hv ?_)
    rw [of_self hc hv (by omega)]
    exact hQ
theorem join_N {N:Int} {K:Int→Prop} (h0:0≤N) (hK:∀ n:Nat,1≤n→N=n∨(N=0∧n=1)→K n):joinP (fun (k33:Int→Prop)=>ifP (N==0) (k33 1) (k33 N)) K:=by
  unfold joinP
  refine ifP_eq (fun h=>hK 1 (by omega) (.inr ⟨h,rfl⟩)) (fun h=>?_)
  obtain ⟨n,rfl⟩:∃ n:Nat,N=n:=⟨N.toNat,by omega⟩
  exact hK n (by omega) (.inl rfl)
theorem planW_right {n v:Nat} (hn:n≤23) (hv:v<n):rightPl (planW n v)=0:=by
  unfold rightPl planW badD
  simp
  omega
theorem TopWalks_ok (a0:Graph) (a1:Int):top_TopWalks a0 a1 (fun r=>r=true):=by
  unfold top_TopWalks
  refine Graph_ok fun g hN hl hg=>join_N hN.1 fun n hn1 hn=>?_
  have hn23:n≤23:=by omega
  have hgd:goodE n g.Edges:=by
    have h:=right_good hg
    rcases hn with hn | ⟨h0,_⟩
    · rw [hn] at h; exact h
    · intro e he
      have:=(h e he).1
      unfold inE at this
      omega
  refine range_intro (fun (s:List Edge) i=>(s,i)) 0 g.Edges.length (by omega) (fun i s=>s.length=g.Edges.length∧goodE n s∧∀ j (hj:j<s.length),j<i→s[j].W≤7) (by omega) ⟨rfl,hgd,fun j _ h=>by omega⟩ (fun i s next _ hi hm hx=>?_) (fun s next hm=>?_)
  · obtain ⟨h1,h2,h3⟩:=hm
    dsimp only
    have his:i<s.length:=by omega
    have hb:0≤bnd .i64 s[i].W 7∧bnd .i64 s[i].W 7≤7:=bnd_le s[i].W (m:=7) (by omega)
    refine ifP_dec (fun _=>idxP_nat his (idxP_nat his (hx _ ⟨by simpa using h1,fun e he=>?_,fun j hj hji=>?_⟩))) (fun h=>by omega)
    · rcases List.mem_or_eq_of_mem_set he with h | h
      · exact h2 e h
      · subst h
        have:=h2 _ (List.getElem_mem his)
        refine ⟨this.1,?_⟩
        unfold wOk
        simp only
        omega
    · rw [List.getElem_set]
      split
      · simp only; omega
      · rename_i h4
        exact h3 j (by simpa using hj) (by simp at h4; omega)
  · obtain ⟨h1,h2,h3⟩:=hm
    dsimp only
    refine ifP_dec (fun h=>by omega) (fun _=>Within_ok (fun h=>by omega) fun _ u u0 u1=>?_)
    obtain ⟨v,rfl⟩:∃ v:Nat,u=v:=⟨u.toNat,by omega⟩
    have hv:v<n:=by omega
    have hW:∀ e∈s,e.W≤7:=fun e he=>by
      obtain ⟨j,hj,rfl⟩:=List.mem_iff_getElem.1 he
      exact h3 j hj (by omega)
    have hr:rightG (⟨n,s⟩:Graph)=0:=good_right (by simp only; omega) (by simp only; omega) h2
    have hc:=graph_canon hr
    have hin:∀ e∈s,inI e.W:=goodE_in h2
    have hL:Light n (graphT ⟨n,s⟩):=⟨hc,hn23,fun t ht=>by
      obtain ⟨e,he,rfl⟩:=graph_src (g:=⟨n,s⟩) hin ht
      have:=(h2 e he).2
      unfold wOk at this
      exact ⟨this.1,hW e he⟩⟩
    have hgs:graphS ⟨n,s⟩=(builtS n n (graphT ⟨n,s⟩),0):=by unfold graphS; rw [if_pos hr]
    refine ref_graph_ok ?_
    rw [hgs]
    refine ones_ok (by omega) (by omega) (gemm_Times_ok hc hc (full_23 hL) (fun t ht=>hL.int ht) (fun t ht=>hL.int ht) ?_)
    rw [times_W hL]
    have hp:=planW_right hn23 hv
    have hm:=(mat_is (p:=planW n v) (g:=⟨n,s⟩) hp rfl hr (by simp only; omega)).1
    have hnm:namG (planW n v) ⟨n,s⟩=⟨n,s⟩:=rfl
    rw [hnm] at hm
    obtain ⟨y,hy1,hy2,hy3,hy4⟩:=pull_W hL hv
    have hxv:VecP ⟨n,[⟨v,1⟩]⟩:=by
      refine ⟨by simp only; omega,by simp only; omega,by unfold IncI; simp,fun x hx=>?_⟩
      rw [List.mem_singleton.1 hx]; simp only; omega
    have hfin:∃ (k:Nat) (G:GV),Ends (planW n v) (graphT ⟨n,s⟩) 2 k 1∧seqS (planW n v) (graphT ⟨n,s⟩) k=segV 0 n G∧((k:Int)<2→(y.Items.length:Int)=0)∧(¬(k:Int)<2→∀ i,i<n→(G i).1=X2 (graphT ⟨n,s⟩) n v i):=by
      rcases ends_W hL hv hp with ⟨k,hk,E,hz,G,hG⟩ | ⟨E,hG⟩
      · refine ⟨k,G,E,hG,fun _=>?_,fun h=>by omega⟩
        cases hi:y.Items with
        | nil=>rfl
        | cons z l=>
          exfalso
          have hzm:z∈y.Items:=by rw [hi]; simp
          have hat:=hy2.ins z hzm
          rw [hy3] at hat
          obtain ⟨j,hj⟩:∃ j:Nat,z.At=j:=⟨z.At.toNat,by omega⟩
          have:=mem_lkI hy2.inc hzm
          rw [hj,hy4 j (by omega),hz j (by omega)] at this
          cases this
      · exact ⟨2,_,E,hG,fun h=>by omega,fun _ i _=>rfl⟩
    obtain ⟨k,G,E,hG,hA,hB⟩:=hfin
    have R:MRun (planW n v) ⟨n,s⟩ 2 (graphT ⟨n,s⟩) k 1:=⟨hp,hc,fun t ht=>hL.int ht,hm,by omega,E⟩
    refine model_Run_ok R (ref10_Of_ok (by simp) ?_)
    rw [sureV_id hxv]
    refine pull_Times_ok (two_canon hL) nzC_inI hxv (fun z hz=>by rw [List.mem_singleton.1 hz]; unfold inI; simp) (by unfold okF; simp) ?_
    rw [hy1]
    have hA0:((segV 0 n G).A.length:Int)=n:=by show ((mapN _ _).length:Int)=n; rw [mapN_len]
    have hlast:(lastS (planW n v) (graphT ⟨n,s⟩) k 1)=⟨1,k,segV 0 n G⟩:=by unfold lastS; rw [hG]
    have hlast':lastS (⟨4,n,v,2,[]⟩:Plan) (graphT ⟨n,s⟩) k 1=⟨1,k,segV 0 n G⟩:=hlast
    rw [hlast']
    dsimp only
    refine ifP_neg rfl (ifP_neg rfl (ifP_neg rfl (ifP_neg (bne_eq_false_iff_eq.2 hA0) (ifP_dec (fun h=>ifP_pos rfl (by simpa using hA h)) (fun h=>?_)))))
    refine scan_intro n (by omega) (fun _=>True) trivial (fun i next hi _ hx=>?_) (fun next _=>?_)
    · refine ifP_dec (fun _=>ref09_Get_ok (by have:=hy2.len; omega) ?_) (fun h=>by omega)
      rw [sureV_id hy2,hy4 i hi]
      refine idxP_at0 (by omega) (by omega) ?_
      have e1:at0 (segV 0 n G).A i=(G i).1:=by
        have:at0 (segV 0 n G).A i=(G (0+i)).1:=mapN_at hi
        rwa [Nat.zero_add] at this
      rw [e1,hB h i hi]
      have e2:=gO_nz (X2 (graphT ⟨n,s⟩) n v i)
      unfold gO at e2
      rw [e2]
      exact ifP_neg (by simp) (hx trivial)
    · exact ifP_dec (fun h=>by omega) (fun _=>rfl)
end Go.Proofs.YtaefnmlbnkmahaaGreat
