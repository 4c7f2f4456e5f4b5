import Derived.Test.YtbohadngdkjljaaGreatT
import Derived.Test.YtbohadngdkjljaaGreatFwP
import Derived.Test.YtbohadngdkjljaaGreatFwQ
import Derived.Test.YtbohadngdkjljaaGreatBlkD
namespace Go.Proofs.YtbohadngdkjljaaGreat
open Go Go.Fw
set_option linter.unusedVariables false
set_option linter.unusedSimpArgs false
structure Abs where
  room:Nat
  row:List Nat
  fs:List BL
  taken:Nat
def rX (f:BL):Prop:=f.Vec.Items=[]∧f.Sums=[]∧f.Triples.length≤1000000000
structure Inv0 (b:AF) (s:Abs):Prop where
  room:b.room=s.room
  row:b.row=s.row.map (fun n:Nat=>(n:Int))
  taken:b.taken=s.taken
  lt:∀ n∈s.row,n<s.fs.length
  by_:∀ n∈s.row,BN (n:Int) b.by_=s.fs[n]?
  byk:EY b.by_
  often:∀ n:Nat,BN (n:Int) b.often=if s.row.count n=0 then none else some (s.row.count n:Int)
  oftk:EY b.often
  rlen:s.row.length≤s.room
  r64:s.room≤64
  seq:∀ (i:Nat) (f:BL),s.fs[i]? = some f→f.Seq=i∧rX f
  flen:s.fs.length≤1000000
  tk:s.taken≤s.fs.length
structure aW (b:AF) (s:Abs):Prop extends Inv0 b s where
  sent:b.sent=s.fs.length
def zf:BL:={ Kind:=0,From:=0,To:=0,Seq:=0,Round:=0,Vec:={ N:=0,Items:=[] },Sums:=[],Triples:=[],N:=0,Over:=false }
def Abs.fullB (s:Abs):Bool:=decide (s.room≤s.row.length)
def Abs.send (s:Abs) (f:BL):Int×Abs:=if s.fullB then (9,s) else (0,{ s with row:=s.row++[s.fs.length],fs:=s.fs++[{ f with Seq:=s.fs.length }] })
def Abs.at (s:Abs) (k:Int):Int:=if k<0 then 3 else if (s.row.length:Int)≤k then 3 else 0
def Abs.num (s:Abs) (k:Int):Nat:=s.row.getD k.toNat 0
def Abs.double (s:Abs) (k:Int):Int×Abs:=if s.at k≠0 then (s.at k,s) else if s.fullB then (9,s) else (0,{ s with row:=s.row++[s.num k] })
def Abs.move (s:Abs) (k:Int):Int×Abs:=if s.at k≠0 then (s.at k,s) else (0,{ s with row:=s.row.eraseIdx k.toNat++[s.num k] })
def Abs.take (s:Abs) (k:Int):BL×Bool×Int×Abs:=
  if s.at k≠0 then (zf,false,s.at k,s)
  else if s.taken<s.num k then (zf,false,0,s)
  else if s.num k<s.taken then (zf,false,0,{ s with row:=s.row.eraseIdx k.toNat })
  else (s.fs.getD (s.num k) zf,true,0,{ s with row:=s.row.eraseIdx k.toNat,taken:=s.taken+1 })
def SB (l:List Nat):Nat:=l.findIdx fun n=>l.all fun m=>decide (n≤m)
def Abs.oldest (s:Abs):Int:=if s.row.length=0 then -1 else SB s.row
variable {b:AF} {s:Abs}
theorem AeL {f:BL} {Q:BL→Prop} (h:rX f) (G:Q f):YA f Q:=by
  obtain ⟨J,U,V⟩:=h
  unfold YA FK FY EL
  obtain ⟨K,F,T,S,R,⟨VN,VI⟩,Su,Tr,N,O⟩:=f
  simp only at J U V
  subst J U
  have e:∀ (X:List AD),([]:List AD)++X=X:=fun _=>rfl
  refine ML (fun _=>ML (fun _=>ML (fun D=>?_) (BA ?_ ?_)) (BA (by simp) (ML (fun D=>?_) (BA ?_ ?_)))) (BA (by simp) (ML (fun _=>ML (fun D=>?_) (BA ?_ ?_)) (BA (by simp) (ML (fun D=>?_) (BA ?_ ?_)))))
  all_goals first
    | exact G
    | (subst D; exact G)
    | (simp only [List.length_nil]; omega)
theorem lN {Q:Bool→Prop} (h:aW b s) (D:Q s.fullB):HH b Q:=by
  unfold HH
  rw [h.room,h.row]
  simp only [List.length_map]
  have:decide ((s.room:Int)≤(s.row.length:Int))=s.fullB:=by unfold Abs.fullB; congr 1; simp
  rw [this]; exact D
theorem AeM {k:Int} {Q:Int→Prop} (h:aW b s) (G:Q (s.at k)):GY b k Q:=by
  unfold GY
  rw [h.row]
  simp only [List.length_map]
  unfold Abs.at at G
  refine AB (fun D=>?_) (fun D=>AB (fun J=>?_) (fun J=>?_))
  · rwa [if_pos D] at G
  · rwa [if_neg D,if_pos J] at G
  · rwa [if_neg D,if_neg J] at G
theorem SD {k:Int} (h:s.at k=0):∃ i:Nat,k=i∧i<s.row.length:=by
  unfold Abs.at at h
  split at h
  · cases h
  · split at h
    · cases h
    · exact ⟨k.toNat,by omega,by omega⟩
theorem SE {i:Nat} (hi:i<s.row.length):s.num (i:Int)=s.row[i]:=by
  simp [Abs.num,hi]
theorem dW (h:aW b s) {i:Nat} (hi:i<s.row.length):b.row[i]? = some ((s.row[i]:Nat):Int):=by
  rw [h.row]; simp [hi]
theorem pK {n:Nat} {Q:AF→Prop} (h:Inv0 b s) (O:s.fullB=false) (Y:n<s.fs.length) (G:BN (n:Int) b.by_=s.fs[n]?) (U:∀ b',Inv0 b' { s with row:=s.row++[n] }→b'.sent=b.sent→Q b'):HX b (n:Int) Q:=by
  unfold HX
  have J:s.row.length<s.room:=by unfold Abs.fullB at O; simpa using O
  have V:=h.r64
  refine BA (by rw [h.row]; simp; omega) (KU (U _ ?_ rfl))
  have hc:s.row.count n≤s.row.length:=List.count_le_length
  refine ⟨h.room,by rw [h.row]; simp,h.taken,?_,?_,h.byk,?_,HC h.oftk _ _,by simp; omega,h.r64,h.seq,h.flen,h.tk⟩
  · intro m D
    rcases List.mem_append.1 D with D | D
    · exact h.lt m D
    · rw [List.mem_singleton] at D; subst D; exact Y
  · intro m D
    rcases List.mem_append.1 D with D | D
    · exact h.by_ m D
    · rw [List.mem_singleton] at D; subst D; exact G
  · intro m
    by_cases e:m=n
    · subst e
      rw [BO,h.often m]
      simp only [List.count_append,List.count_singleton_self]
      by_cases h0:s.row.count m=0
      · rw [h0]; decide
      · rw [if_neg h0,if_neg (by omega)]
        simp only [Option.getD_some]
        rw [BE (by omega) (by omega)]; simp
    · rw [BK (by omega),h.often m]
      simp only [List.count_append,List.count_singleton]
      have:(n==m)=false:=by simpa using fun W:n=m=>e W.symm
      simp [this]
theorem AgK {f:BL} {Q:(Int×AF)→Prop} (h:aW b s) (Z:rX f) (hlt:s.fs.length<1000000) (O:∀ b',aW b' (s.send f).2→Q ((s.send f).1,b')):JY b f Q:=by
  unfold JY
  refine lN h ?_
  cases hf:s.fullB with
  | true=>refine AX rfl ?_; have:=O b; unfold Abs.send at this; rw [if_pos hf] at this; exact this h
  | false=>
    refine AO rfl (AeL Z ?_)
    unfold Abs.send at O
    rw [hf] at O
    simp only [Bool.false_eq_true,if_false] at O
    have J:=h.sent
    rw [J]
    refine pK (s:={ s with fs:=s.fs++[{ f with Seq:=s.fs.length }] }) ?_ hf (by simp) ?_ ?_
    · refine ⟨h.room,h.row,h.taken,?_,?_,HC h.byk _ _,h.often,h.oftk,h.rlen,h.r64,?_,?_,?_⟩
      · intro n U; have:=h.lt n U; simp; omega
      · intro n U
        have W:=h.lt n U
        rw [BK (by omega),h.by_ n U,List.getElem?_append_left W]
      · intro i g G
        rcases Nat.lt_or_ge i s.fs.length with hi | hi
        · rw [List.getElem?_append_left hi] at G; exact h.seq i g G
        · rw [List.getElem?_append_right hi] at G
          cases hk:i - s.fs.length with
          | zero=>rw [hk] at G; cases G; exact ⟨by simp; omega,Z⟩
          | succ q=>rw [hk] at G; simp at G
      · simp; omega
      · have:=h.tk; simp; omega
    · simp [BO]
    · intro b' D V
      refine O _ ⟨⟨D.room,D.row,D.taken,D.lt,D.by_,D.byk,D.often,D.oftk,D.rlen,D.r64,D.seq,D.flen,D.tk⟩,?_⟩
      have Y:b'.sent=(s.fs.length:Int):=V
      show AJ (b'.sent+1)=_
      rw [Y,BE (by omega) (by omega)]
      simp
theorem Ac8 {k:Int} {Q:(Int×AF)→Prop} (h:aW b s) (D:∀ b',aW b' (s.double k).2→Q ((s.double k).1,b')):HS b k Q:=by
  unfold HS
  refine AeM h (FF (fun G=>?_) (fun G=>lN h ?_))
  · have:=D b; unfold Abs.double at this; rw [if_pos G] at this; exact this h
  · unfold Abs.double at D
    rw [if_neg (by rw [G]; simp)] at D
    cases hf:s.fullB with
    | true=>refine AX rfl ?_; have:=D b; rw [if_pos hf] at this; exact this h
    | false=>
      rw [hf] at D
      simp only [Bool.false_eq_true,if_false] at D
      obtain ⟨i,rfl,hi⟩:=SD G
      have J:s.row[i]∈s.row:=List.getElem_mem hi
      rw [SE hi] at D
      refine AO rfl (AP (by omega) (x:=((s.row[i]:Nat):Int)) (by simpa using dW h hi) (pK h.toInv0 hf (h.lt _ J) (h.by_ _ J) fun b' O U=>D b' ⟨O,U.trans h.sent⟩))
theorem VY {α β:Type} (f:α→β):∀ (l:List α) (i:Nat),(l.map f).eraseIdx i=(l.eraseIdx i).map f
  | [],_=>rfl
  | _ :: _,0=>rfl
  | x :: r,i+1=>by simp [List.eraseIdx_cons_succ,VY f r i]
theorem pL {xs:List Int} {i:Nat} {Q:List Int→Prop} (hi:i<xs.length) (hl:xs.length≤64) (hQ:Q (xs.eraseIdx i)):EA xs (i:Int) (AJ ((i:Int)+1)) Q:=by
  unfold EA
  rw [BE (by omega) (by omega)]
  have D:((i:Int)+1).toNat=i+1:=by omega
  refine ⟨by omega,by omega,by omega,CC (fun h=>by omega) (fun _=>⟨by omega,by omega,by omega,⟨by omega,by omega,by omega,?_⟩⟩)⟩
  simp only [Int.toNat_natCast,D]
  rwa [←List.eraseIdx_eq_take_drop_succ]
theorem QV {l:List Nat} {i:Nat} (hi:i<l.length) (m:Nat):(l.eraseIdx i).count m=if m=l[i] then l.count m - 1 else l.count m:=by
  have e:l=l.take i++l[i] :: l.drop (i+1):=by simp
  have h:(l.eraseIdx i).count m=(l.take i).count m+(l.drop (i+1)).count m:=by rw [List.eraseIdx_eq_take_drop_succ,List.count_append]
  have G:l.count m=(l.take i).count m+(l[i] :: l.drop (i+1)).count m:=by rw [←List.count_append,←e]
  rw [h,G,List.count_cons]
  by_cases hm:m=l[i]
  · subst hm; simp
  · have:(l[i]==m)=false:=by simpa using fun D:l[i]=m=>hm D.symm
    simp [this,hm]
theorem Ac9 {i:Nat} {Q:(BL×AF)→Prop} (h:aW b s) (hi:i<s.row.length) (Y:∀ b',aW b' { s with row:=s.row.eraseIdx i }→Q (s.fs.getD s.row[i] zf,b')):KY b (i:Int) Q:=by
  unfold KY
  have V:s.row[i]∈s.row:=List.getElem_mem hi
  have hlt:=h.lt _ V
  have hcp:0<s.row.count s.row[i]:=List.count_pos_iff.2 V
  have hcl:s.row.count s.row[i]≤s.row.length:=List.count_le_length
  have hrl:=h.rlen
  have h64:=h.r64
  refine AP (by omega) (x:=((s.row[i]:Nat):Int)) (by simpa using dW h hi) (KU ?_)
  rw [h.by_ _ V]
  refine pL (by rw [h.row]; simpa using hi) (by rw [h.row]; simp; omega) (KU (KU ?_))
  rw [BO,h.often,if_neg (by omega)]
  simp only [Option.getD_some]
  rw [BE (by omega) (by omega)]
  have U:(b.row.eraseIdx i)=(s.row.eraseIdx i).map (fun n:Nat=>(n:Int)):=by rw [h.row,VY]
  have J:(s.row.eraseIdx i).length≤s.room:=by rw [List.length_eraseIdx]; split <;> omega
  have G:∀ m∈s.row.eraseIdx i,m∈s.row:=fun m V=>(List.eraseIdx_sublist s.row i).mem V
  have W:(s.fs[s.row[i]]?).getD zf=s.fs.getD s.row[i] zf:=by simp
  rw [show ({ Kind:=0,From:=0,To:=0,Seq:=0,Round:=0,Vec:=({ N:=0,Items:=([]:List EC) }:Vec),Sums:=([]:List eZ),Triples:=([]:List AD),N:=0,Over:=false }:BL)=zf from rfl,W]
  refine CC (fun h0=>?_) (fun h0=>?_)
  · have O:s.row.count s.row[i]=1:=by omega
    refine Y _ ⟨⟨h.room,U,h.taken,fun m D=>h.lt m (G m D),?_,gT h.byk _,?_,gT (HC h.oftk _ _) _,J,h.r64,h.seq,h.flen,h.tk⟩,h.sent⟩
    · intro m D
      have hne:m≠s.row[i]:=by
        intro e
        have h1:=List.count_pos_iff.2 D
        rw [QV hi,if_pos e,e,O] at h1
        omega
      rw [FE (by omega)]
      exact h.by_ m (G m D)
    · intro m
      rw [QV hi]
      by_cases e:m=s.row[i]
      · subst e
        rw [Y5 (HC h.oftk _ _),if_pos rfl,O]; rfl
      · rw [FE (by omega),BK (by omega),h.often m,if_neg e]
  · have Z:s.row.count s.row[i]≠1:=by omega
    refine Y _ ⟨⟨h.room,U,h.taken,fun m D=>h.lt m (G m D),fun m D=>h.by_ m (G m D),h.byk,?_,HC h.oftk _ _,J,h.r64,h.seq,h.flen,h.tk⟩,h.sent⟩
    intro m
    rw [QV hi]
    by_cases e:m=s.row[i]
    · subst e
      rw [BO,if_pos rfl,if_neg (by omega)]
      congr 1; omega
    · rw [BK (by omega),h.often m,if_neg e]
theorem AgL {k:Int} {Q:(BL×Bool×Int×AF)→Prop} (h:aW b s) (J:∀ b',aW b' (s.take k).2.2.2→Q ((s.take k).1,(s.take k).2.1,(s.take k).2.2.1,b')):KA b k Q:=by
  unfold KA
  refine AeM h (FF (fun U=>?_) (fun U=>?_))
  · have:=J b; unfold Abs.take at this; rw [if_pos U] at this; exact this h
  · unfold Abs.take at J
    rw [if_neg (by rw [U]; simp)] at J
    obtain ⟨i,rfl,hi⟩:=SD U
    rw [SE hi] at J
    have hm:s.row[i]∈s.row:=List.getElem_mem hi
    have W:=h.lt _ hm
    have htk:=h.taken
    have Z:=h.flen
    refine AP (by omega) (x:=((s.row[i]:Nat):Int)) (by simpa using dW h hi) (AB (fun h1=>?_) (fun h1=>Ac9 h hi fun b' D=>?_))
    · have:=J b; rw [if_pos (by omega)] at this; rw [U]; exact this h
    · rw [if_neg (by omega)] at J
      have hg:s.fs[s.row[i]]? = some s.fs[s.row[i]]:=List.getElem?_eq_getElem W
      have O:=h.seq _ _ hg
      have V:s.fs.getD s.row[i] zf=s.fs[s.row[i]]:=by simp [W]
      simp only [Int.toNat_natCast] at J
      rw [V]
      rw [V] at J
      have G:=D.taken
      simp only at G
      refine AB (fun Y=>?_) (fun Y=>AeL O.2 ?_)
      · have:=J b'
        rw [O.1,G] at Y
        rw [if_pos (by omega)] at this
        exact this D
      · rw [O.1,G] at Y
        rw [if_neg (by omega)] at J
        refine J _ ⟨⟨D.room,D.row,?_,D.lt,D.by_,D.byk,D.often,D.oftk,D.rlen,D.r64,D.seq,D.flen,?_⟩,D.sent⟩
        · simp only; rw [G,BE (by omega) (by omega)]; simp
        · simp only; omega
theorem AgM {k:Int} {Q:(Int×AF)→Prop} (h:aW b s) (O:∀ b',aW b' (s.move k).2→Q ((s.move k).1,b')):KC b k Q:=by
  unfold KC
  refine AeM h (FF (fun V=>?_) (fun V=>?_))
  · have:=O b; unfold Abs.move at this; rw [if_pos V] at this; exact this h
  · unfold Abs.move at O
    rw [if_neg (by rw [V]; simp)] at O
    obtain ⟨i,rfl,hi⟩:=SD V
    rw [SE hi] at O
    have W:=h.rlen
    have Y:=h.r64
    have hm:s.row[i]∈s.row:=List.getElem_mem hi
    simp only [Int.toNat_natCast] at O
    have D:∀ m,(s.row.eraseIdx i++[s.row[i]]).count m=s.row.count m:=by
      intro m
      rw [List.count_append,QV hi,List.count_singleton]
      by_cases e:m=s.row[i]
      · subst e
        have:=List.count_pos_iff.2 hm
        simp
      · have:(s.row[i]==m)=false:=by simpa using fun Z:s.row[i]=m=>e Z.symm
        simp [this,e]
    have J:∀ m∈s.row.eraseIdx i++[s.row[i]],m∈s.row:=fun m G=>by
      rw [←List.count_pos_iff,←D m,List.count_pos_iff]; exact G
    have U:(s.row.eraseIdx i++[s.row[i]]).length=s.row.length:=by simp only [List.length_append,List.length_eraseIdx,hi,if_true,List.length_singleton]; omega
    refine AP (by omega) (x:=((s.row[i]:Nat):Int)) (by simpa using dW h hi) (pL (by rw [h.row]; simpa using hi) (by rw [h.row]; simp; omega) (BA ?_ ?_))
    · rw [h.row]; simp [List.length_eraseIdx,hi]; omega
    · refine O _ ⟨⟨h.room,?_,h.taken,fun m G=>h.lt m (J m G),fun m G=>h.by_ m (J m G),h.byk,fun m=>by rw [D]; exact h.often m,h.oftk,by rw [U]; exact h.rlen,h.r64,h.seq,h.flen,h.tk⟩,h.sent⟩
      simp only
      rw [h.row,VY]; simp
theorem AiJ {xs:List Int} {Q:Int→Prop} (W:xs≠[]) (hl:xs.length≤1000000) (Y:∀ m,m∈xs→(∀ x∈xs,m≤x)→Q m):IW xs Q:=by
  unfold IW
  have O:0<xs.length:=List.length_pos_iff.2 W
  refine AB (fun h=>by omega) (fun _=>AP (by omega) (x:=xs[0]) (by simp [O]) ?_)
  refine EB (fun s:Int×Int=>∃ i:Nat,s.2=i∧1≤i∧i≤xs.length∧s.1∈xs∧∀ (j:Nat) (U:j<i) (G:j<xs.length),s.1≤xs[j]) (fun s=>xs.length - s.2.toNat) ⟨1,rfl,by omega,by omega,List.getElem_mem _,fun j U G=>by
    have:j=0:=by omega
    subst this; exact Int.le_refl _⟩ ?_
  rintro ⟨s1,s2⟩ next ⟨i,hi,h1,Z,D,J⟩ hnext
  simp only at hi D J
  subst hi
  refine AB (fun h=>?_) (fun h=>Y s1 D fun x hx=>?_)
  · have V:i<xs.length:=by omega
    refine AP (by omega) (x:=xs[i]) (by simp [V]) (hnext _ ⟨i+1,?_,by omega,by omega,?_,?_⟩ ?_)
    · simp only; rw [BE (by omega) (by omega)]; simp
    · simp only; split
      · exact List.getElem_mem _
      · exact D
    · intro j U G
      simp only
      by_cases e:j=i
      · subst e; split <;> omega
      · have:=J j (by omega) G
        split <;> omega
    · simp only; rw [BE (by omega) (by omega)]; omega
  · obtain ⟨j,U,rfl⟩:=List.getElem_of_mem hx
    exact J j (by omega) U
theorem AeN {xs:List Int} {m:Int} {Q:Int→Prop} (hl:xs.length≤1000000) (V:m∈xs) (U:∀ (i:Nat) (hi:i<xs.length),xs[i]=m→(∀ (j:Nat) (O:j<i) (G:j<xs.length),xs[j]≠m)→Q i):EI xs m Q:=by
  unfold EI JQ
  refine EB (fun s:Int=>∃ i:Nat,s=i∧i≤xs.length∧∀ (j:Nat) (O:j<i) (G:j<xs.length),xs[j]≠m) (fun s=>xs.length - s.toNat) ⟨0,rfl,by omega,fun j O=>by omega⟩ ?_
  rintro _ next ⟨i,rfl,W,D⟩ hnext
  refine AB (fun h=>?_) (fun h=>?_)
  · have J:i<xs.length:=by omega
    refine AP (by omega) (x:=xs[i]) (by simp [J]) (CC (fun e=>U i J e D) (fun e=>hnext _ ⟨i+1,by rw [BE (by omega) (by omega)]; simp,by omega,?_⟩ ?_))
    · intro j O G
      by_cases ej:j=i
      · subst ej; exact e
      · exact D j (by omega) G
    · rw [BE (by omega) (by omega)]; omega
  · exfalso
    obtain ⟨j,O,rfl⟩:=List.getElem_of_mem V
    exact D j (by omega) O rfl
theorem AeO {Q:Int→Prop} (h:aW b s) (D:Q (s.row.length:Int)):HY b Q:=by
  unfold HY; rw [h.row]; simpa using D
theorem AcA {l:List Nat} {i:Nat} (hi:i<l.length) (h:∀ n∈l,l[i]≤n) (O:∀ (j:Nat) (D:j<i) (J:j<l.length),l[j]≠l[i]):SB l=i:=by
  unfold SB
  rw [List.findIdx_eq hi]
  refine ⟨by simpa using h,fun j D=>?_⟩
  have:=O j D (by omega)
  have h3:=h l[j] (List.getElem_mem _)
  rw [Bool.eq_false_iff]
  intro G
  have U:=List.all_eq_true.1 G l[i] (List.getElem_mem _)
  simp at U
  omega
theorem vW {l:List Nat} (h:l≠[]):∃ hi:SB l<l.length,(∀ n∈l,l[SB l]≤n):=by
  have hex:∃ m∈l,∀ n∈l,m≤n:=by
    induction l with
    | nil=>exact absurd rfl h
    | cons x r ih=>
      by_cases hr:r=[]
      · subst hr; exact ⟨x,by simp,by simp⟩
      · obtain ⟨m,hm,hmin⟩:=ih hr
        rcases Nat.le_total x m with hx | hx
        · exact ⟨x, by simp, fun n hn => by rcases List.mem_cons.1 hn with rfl | hn; · exact Nat.le_refl _
                                            · exact Nat.le_trans hx (hmin n hn)⟩
        · exact ⟨m, by simp [hm], fun n hn => by rcases List.mem_cons.1 hn with rfl | hn; · exact hx
                                                 · exact hmin n hn⟩
  obtain ⟨m,hm,hmin⟩:=hex
  have hp:l.findIdx (fun n=>l.all fun m=>decide (n≤m))<l.length:=List.findIdx_lt_length_of_exists ⟨m,hm,by simpa using hmin⟩
  refine ⟨hp,fun n hn=>?_⟩
  have:=List.findIdx_getElem (w:=hp)
  have:=List.all_eq_true.1 this n hn
  simpa [SB] using this
theorem AcB {Q:Int→Prop} (h:aW b s) (V:Q s.oldest):HT b Q:=by
  unfold HT
  have hrl:=h.rlen
  have h64:=h.r64
  have U:b.row.length=s.row.length:=by rw [h.row]; simp
  unfold Abs.oldest at V
  refine AeO h (CC (fun h0=>?_) (fun h0=>AiJ (fun e=>?_) (by omega) fun m hm W=>AeN (by omega) hm fun i hi Y G=>?_))
  · rwa [if_pos (by omega)] at V
  · rw [e] at U; simp at U; omega
  · rw [if_neg (by omega)] at V
    have J:i<s.row.length:=by omega
    have D:∀ (j:Nat) (O:j<b.row.length) (Z:j<s.row.length),b.row[j]=((s.row[j]:Nat):Int):=by
      intro j O Z
      have:=dW h Z
      rw [List.getElem?_eq_getElem O] at this
      exact Option.some.inj this
    rw [AcA J (fun n hn=>?_) (fun j O hjl=>?_)] at V
    · exact V
    · obtain ⟨j,O,rfl⟩:=List.getElem_of_mem hn
      have:=W _ (List.getElem_mem (show j<b.row.length by omega))
      rw [←Y,D i hi J,D j (by omega) O] at this
      omega
    · have:=G j O (by omega)
      rw [D j (by omega) hjl,←Y,D i hi J] at this
      omega
theorem AgN (n:Nat) (h:n≤64):aW { room:=(n:Int),row:=([]:List Int),by_:=([]:List (Int×BL)),often:=([]:List (Int×Int)),sent:=0,taken:=0 } ⟨n,[],[],0⟩:=
  ⟨⟨rfl,rfl,rfl,by simp,by simp,by simp [EY],by simp [BN],by simp [EY],by simp,h,by simp,by simp,by simp⟩,rfl⟩
theorem AiK {a:Int} {J:Int→Prop} {G:(Int×AF)→Prop} (D:¬(1≤a∧a≤64)→J 3) (O:∀ (n:Nat) b,a=n→1≤n→n≤64→aW b ⟨n,[],[],0⟩→G (0,b)):RX a J G:=by
  unfold RX
  refine AB (fun h=>D (by omega)) (fun h=>AB (fun U=>D (by omega)) (fun U=>?_))
  refine O a.toNat _ (by omega) (by omega) (by omega) ?_
  have:=AgN a.toNat (by omega)
  rwa [show ((a.toNat:Nat):Int)=a by omega] at this
theorem GQ {σ:Type} {D:σ→(σ→Prop)→Prop} (J:Nat→σ→Prop) {m0:Nat} {s0:σ} (V:J m0 s0) (h:∀ m s next,J m s→(∀ G O,G<m→J G O→next O)→D s next):BB D s0:=by
  have key:∀ k m s,J m s→m<k→OU D k s:=by
    intro k
    induction k with
    | zero=>intro m s _ hm; omega
    | succ k W=>intro m s Z hm; exact h m s _ Z fun G O Y U=>W G O U (by omega)
  exact ⟨m0+1,key _ _ _ V (by omega)⟩
section bank
variable {α:Type} {xs:List (Nat×α)} {b b':Nat} {x:α}
theorem pM:BN b ((b,x) :: CM b xs)=some x:=by simp [BN]
theorem lO (h:b'≠b):BN b' ((b,x) :: CM b xs)=BN b' xs:=by
  rw [←FE h xs]
  simp [BN,h]
theorem XB {ys:List (Nat×α)}:BN b ((b,x) :: ys)=some x:=by simp [BN]
theorem iD {ys:List (Nat×α)} (h:b'≠b):BN b' ((b,x) :: ys)=BN b' ys:=by simp [BN,h]
end bank
structure Wk where
  out:List BL
  gl:Nat→Bool
  gr:Nat→Bool
  at_:Nat
structure MS where
  w:Nat→Wk
  bx:Nat→Nat→Abs
def ED (m:MS) (k:Nat) (a:Wk):MS:={ m with w:=fun i=>if i=k then a else m.w i }
def CZ (m:MS) (f t:Nat) (a:Abs):MS:={ m with bx:=fun i j=>if i=f∧j=t then a else m.bx i j }
structure XC where
  p:BI
  S:List BJ
  n:Nat
  adr:Nat→Nat
  wi:Nat→Int
  wj:Nat→Int
  mask:Nat→Rows
  room:Nat
  LA:Nat→Nat→List AD
  RB:Nat→Nat→List AD
  has:Nat→Nat→List AM
def empty (c:XC):Abs:=⟨c.room,[],[],0⟩
structure AgO (c:XC) (k:Nat) (a:Wk) (x:AA):Prop where
  i:x.i=c.wi k
  j:x.j=c.wj k
  mask:x.mask=c.mask k
  out:x.out=a.out
  at_:x.at_=(a.at_:Int)
  le:a.at_≤c.S.length
  has:x.has=c.has k a.at_
  l:∀ s,a.at_≤s→BN ({ kind:=6,stage:=(s:Int) }:BC) x.parts=if a.gl s then some (c.LA k s) else none
  r:∀ s,a.at_≤s→BN ({ kind:=7,stage:=(s:Int) }:BC) x.parts=if a.gr s then some (c.RB k s) else none
structure Rep (c:XC) (m:MS) (o0:AC) (o1:List (Nat×AA)) (o2:List (Nat×AF)):Prop where
  p:o0.p=c.p
  S:o0.stages=c.S
  ws:o0.workers=(List.range c.n).map fun k=>some (c.adr k)
  wk:∀ k<c.n,∃ x,BN (c.adr k) o1=some x∧AgO c k (m.w k) x
  no:∀ f t:Nat,BN ((f:Int),(t:Int)) o0.boxes=none→m.bx f t=empty c
  nn:∀ q,BN q o0.boxes≠some none
  bx:∀ (f t:Nat) b,BN ((f:Int),(t:Int)) o0.boxes=some (some b)→∃ pb,BN b o2=some pb∧aW pb (m.bx f t)
  inj:∀ q q' b,BN q o0.boxes=some (some b)→BN q' o0.boxes=some (some b)→q=q'
  ks:EY o0.boxes
  kr:∀ q∈o0.boxes.map (·.1),∃ f t:Nat,f<c.n∧t<c.n∧q=((f:Int),(t:Int))
structure iS (c:XC):Prop where
  n:c.n≤64
  room:c.p.Room=(c.room:Int)
  r1:1≤c.room
  r64:c.room≤64
  S:c.S.length≤64
  inj:∀ i j,i<c.n→j<c.n→c.adr i=c.adr j→i=j
variable {c:XC} {m:MS} {o0:AC} {o1 o1x:List (Nat×AA)} {o2:List (Nat×AF)}
theorem Rep.len (h:Rep c m o0 o1 o2):o0.workers.length=c.n:=by rw [h.ws]; simp
theorem Rep.get (h:Rep c m o0 o1 o2) {k:Nat} (hk:k<c.n):o0.workers[((k:Int)).toNat]? = some (some (c.adr k)):=by
  rw [h.ws]; simp [hk]
theorem lP (h:Rep c m o0 o1 o2) {a:Int} {Q:Bool→Prop} (G:Q (decide (0≤a∧a<c.n))):EE o0 o1x a Q:=by
  unfold EE
  rw [h.len]
  refine AB (fun D=>?_) (fun D=>?_)
  · simpa [D] using G
  · simpa [D] using G
theorem Rep.setB (hc:iS c) (h:Rep c m o0 o1 o2) {f t:Nat} {b:Nat} {V:AF} {a:Abs} (hk:BN ((f:Int),(t:Int)) o0.boxes=some (some b)) (hi:aW V a):Rep c (CZ m f t a) o0 o1 ((b,V) :: CM b o2):=by
  refine ⟨h.p,h.S,h.ws,h.wk,?_,h.nn,?_,h.inj,h.ks,h.kr⟩
  · intro G D W
    have:¬(G=f∧D=t):=by rintro ⟨rfl,rfl⟩; rw [hk] at W; cases W
    simp only [CZ,if_neg this]
    exact h.no G D W
  · intro G D b' J
    by_cases e:G=f∧D=t
    · obtain ⟨rfl,rfl⟩:=e
      rw [hk] at J
      cases J
      exact ⟨V,pM,by simpa [CZ] using hi⟩
    · have O:b'≠b:=by
        rintro rfl
        have:=h.inj _ _ _ J hk
        simp only [Prod.mk.injEq] at this
        exact e ⟨by omega,by omega⟩
      obtain ⟨U,Y,Z⟩:=h.bx G D b' J
      exact ⟨U,by rw [lO O]; exact Y,by simpa [CZ,if_neg e] using Z⟩
theorem Rep.setW (G:iS c) (h:Rep c m o0 o1 o2) {k:Nat} (hk:k<c.n) {a:Wk} {x:AA} (O:AgO c k a x):Rep c (ED m k a) o0 ((c.adr k,x) :: CM (c.adr k) o1) o2:=by
  refine ⟨h.p,h.S,h.ws,?_,h.no,h.nn,h.bx,h.inj,h.ks,h.kr⟩
  intro i hi
  by_cases e:i=k
  · subst e; exact ⟨x,pM,by simpa [ED] using O⟩
  · obtain ⟨y,D,U⟩:=h.wk i hi
    exact ⟨y,by rw [lO fun J=>e (G.inj _ _ hi hk J)]; exact D,by simpa [ED,e] using U⟩
def Ext (o o':AC):Prop:=∀ q b,BN q o.boxes=some (some b)→BN q o'.boxes=some (some b)
theorem Ext.refl (o:AC):Ext o o:=fun _ _ h=>h
theorem Ext.trans {a b d:AC} (h:Ext a b) (G:Ext b d):Ext a d:=fun q x D=>G q x (h q x D)
theorem rY {f t:Int} {D:(AC×List (Nat×AF))→Prop} {O:(Option Nat×AC×List (Nat×AF))→Prop} (h:Rep c m o0 o1 o2) (V:¬((0≤f∧f<c.n)∧(0≤t∧t<c.n))) (G:D (o0,o2)):CJ o0 o1x o2 f t D O:=by
  unfold CJ
  refine lP h (CP (fun _=>G) (fun J=>lP h (CP (fun _=>G) (fun U=>?_))))
  exact absurd ⟨of_decide_eq_true J,of_decide_eq_true U⟩ V
theorem rZ (hc:iS c) (h:Rep c m o0 o1 o2) {f t:Nat} (hf:f<c.n) (ht:t<c.n) {Q0:(AC×List (Nat×AF))→Prop} {Q1:(Option Nat×AC×List (Nat×AF))→Prop}
    (hQ:∀ b pb U Y,Rep c m U o1 Y→Ext o0 U→BN ((f:Int),(t:Int)) U.boxes=some (some b)→BN b Y=some pb→aW pb (m.bx f t)→Q1 (some b,U,Y)):CJ o0 o1x o2 f t Q0 Q1:=by
  unfold CJ
  refine lP h (CP (fun h1=>absurd h1 (by simp; omega)) (fun _=>lP h (CP (fun h1=>absurd h1 (by simp; omega)) (fun _=>KU ?_))))
  cases hg:BN ((f:Int),(t:Int)) o0.boxes with
  | none=>
    refine AX rfl (AiK (fun hr=>?_) (fun n b hn h1 h64 hi b' hb'=>KU ?_))
    · exact absurd hr (by rw [h.p,hc.room]; have:=hc.r1; have:=hc.r64; omega)
    · rw [BO]
      have V:n=c.room:=by have:=hc.room; rw [←h.p,hn] at this; omega
      subst V
      refine hQ b' b _ _ ⟨h.p,h.S,h.ws,h.wk,?_,?_,?_,?_,HC h.ks _ _,?_⟩ (fun q b2 D=>?_) (BO _ _ _) XB (by rw [h.no f t hg]; exact hi)
      · intro f' Z O
        by_cases e:((f':Int),(Z:Int))=((f:Int),(t:Int))
        · simp only at O; rw [e,BO] at O; cases O
        · exact h.no f' Z (by rwa [BK e] at O)
      · intro q D
        by_cases e:q=((f:Int),(t:Int))
        · subst e; simp only at D; rw [BO] at D; cases D
        · exact h.nn q (by rwa [BK e] at D)
      · intro f' Z b2 J
        by_cases e:((f':Int),(Z:Int))=((f:Int),(t:Int))
        · simp only at J
          rw [e,BO] at J
          cases J
          simp only [Prod.mk.injEq] at e
          have e1:f'=f:=by omega
          have e2:Z=t:=by omega
          subst e1 e2
          exact ⟨b,XB,by rw [h.no f' Z hg]; exact hi⟩
        · simp only at J
          rw [BK e] at J
          obtain ⟨pb,h3,h4⟩:=h.bx f' Z b2 J
          refine ⟨pb,?_,h4⟩
          rw [iD (by rintro rfl; rw [hb'] at h3; cases h3)]; exact h3
      · intro q q' b2 D G
        simp only at D G
        have old:∀ {z},z≠((f:Int),(t:Int))→BN z (EO ((f:Int),(t:Int)) (some b') o0.boxes)=some (some b2)→b2≠b':=by
          intro z hz W
          rw [BK hz] at W
          have hzm:=mget_mem W
          obtain ⟨f1,t1,_,_,rfl⟩:=h.kr z hzm
          obtain ⟨pb,h3,_⟩:=h.bx f1 t1 b2 W
          rintro rfl
          rw [hb'] at h3; cases h3
        by_cases e:q=((f:Int),(t:Int))
        · by_cases e':q'=((f:Int),(t:Int))
          · rw [e,e']
          · exfalso
            rw [e,BO] at D
            cases D
            exact old e' G rfl
        · by_cases e':q'=((f:Int),(t:Int))
          · exfalso
            rw [e',BO] at G
            cases G
            exact old e D rfl
          · rw [BK e] at D
            rw [BK e'] at G
            exact h.inj q q' b2 D G
      · intro q D
        rw [show (({ p:=o0.p,stages:=o0.stages,workers:=o0.workers,boxes:=(EO ((f:Int),(t:Int)) (some b') o0.boxes) }:AC)).boxes=EO ((f:Int),(t:Int)) (some b') o0.boxes from rfl,fF] at D
        split at D
        · exact h.kr q D
        · rcases List.mem_append.1 D with D | D
          · exact h.kr q D
          · rw [List.mem_singleton] at D; exact ⟨f,t,hf,ht,D⟩
      · show BN q (EO ((f:Int),(t:Int)) (some b') o0.boxes)=_
        rw [BK (by rintro rfl; rw [hg] at D; cases D)]; exact D
  | some v=>
    cases v with
    | none=>exact absurd hg (h.nn _)
    | some b=>
      obtain ⟨pb,h1,h2⟩:=h.bx f t b hg
      refine AO rfl (KU ?_)
      rw [hg]
      exact hQ b pb _ _ h (Ext.refl _) hg h1 h2
end Go.Proofs.YtbohadngdkjljaaGreat
