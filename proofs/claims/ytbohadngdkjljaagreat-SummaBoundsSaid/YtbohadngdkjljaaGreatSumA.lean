import Derived.Test.YtbohadngdkjljaaGreatT
import Derived.Test.YtbohadngdkjljaaGreatFwP
import Derived.Test.YtbohadngdkjljaaGreatFwQ
import Derived.Test.YtbohadngdkjljaaGreatBlkD
namespace Go.Proofs.YtbohadngdkjljaaGreat
open Go Go.Fw
set_option linter.unusedVariables false
set_option linter.unusedSimpArgs false
structure Abs where
  room:Nat
  row:List Nat
  fs:List BL
  taken:Nat
def mL (f:BL):Prop:=f.Vec.Items=[]∧f.Sums=[]∧f.Triples.length≤1000000000
structure Inv0 (b:AF) (s:Abs):Prop where
  room:b.room=s.room
  row:b.row=s.row.map (fun n:Nat=>(n:Int))
  taken:b.taken=s.taken
  lt:∀ n∈s.row,n<s.fs.length
  by_:∀ n∈s.row,BP (n:Int) b.by_=s.fs[n]?
  byk:FN b.by_
  often:∀ n:Nat,BP (n:Int) b.often=if s.row.count n=0 then none else some (s.row.count n:Int)
  oftk:FN b.often
  rlen:s.row.length≤s.room
  r64:s.room≤64
  seq:∀ (i:Nat) (f:BL),s.fs[i]? = some f→f.Seq=i∧mL f
  flen:s.fs.length≤1000000
  tk:s.taken≤s.fs.length
structure Y9 (b:AF) (s:Abs):Prop extends Inv0 b s where
  sent:b.sent=s.fs.length
def zf:BL:={ Kind:=0,From:=0,To:=0,Seq:=0,Round:=0,Vec:={ N:=0,Items:=[] },Sums:=[],Triples:=[],N:=0,Over:=false }
def Abs.fullB (s:Abs):Bool:=decide (s.room≤s.row.length)
def Abs.send (s:Abs) (f:BL):Int×Abs:=if s.fullB then (9,s) else (0,{ s with row:=s.row++[s.fs.length],fs:=s.fs++[{ f with Seq:=s.fs.length }] })
def Abs.at (s:Abs) (k:Int):Int:=if k<0 then 3 else if (s.row.length:Int)≤k then 3 else 0
def Abs.num (s:Abs) (k:Int):Nat:=s.row.getD k.toNat 0
def Abs.double (s:Abs) (k:Int):Int×Abs:=if s.at k≠0 then (s.at k,s) else if s.fullB then (9,s) else (0,{ s with row:=s.row++[s.num k] })
def Abs.move (s:Abs) (k:Int):Int×Abs:=if s.at k≠0 then (s.at k,s) else (0,{ s with row:=s.row.eraseIdx k.toNat++[s.num k] })
def Abs.take (s:Abs) (k:Int):BL×Bool×Int×Abs:=
  if s.at k≠0 then (zf,false,s.at k,s)
  else if s.taken<s.num k then (zf,false,0,s)
  else if s.num k<s.taken then (zf,false,0,{ s with row:=s.row.eraseIdx k.toNat })
  else (s.fs.getD (s.num k) zf,true,0,{ s with row:=s.row.eraseIdx k.toNat,taken:=s.taken+1 })
def QD (l:List Nat):Nat:=l.findIdx fun n=>l.all fun m=>decide (n≤m)
def Abs.oldest (s:Abs):Int:=if s.row.length=0 then -1 else QD s.row
variable {b:AF} {s:Abs}
theorem zO {f:BL} {Q:BL→Prop} (h:mL f) (hQ:Q f):WN f Q:=by
  obtain ⟨h1,h2,h3⟩:=h
  unfold WN EY FO DZ
  obtain ⟨K,F,T,S,R,⟨VN,VI⟩,Su,Tr,N,O⟩:=f
  simp only at h1 h2 h3
  subst h1 h2
  have e:∀ (X:List AC),([]:List AC)++X=X:=fun _=>rfl
  refine LK (fun _=>LK (fun _=>LK (fun h0=>?_) (BI ?_ ?_)) (BI (by simp) (LK (fun h0=>?_) (BI ?_ ?_)))) (BI (by simp) (LK (fun _=>LK (fun h0=>?_) (BI ?_ ?_)) (BI (by simp) (LK (fun h0=>?_) (BI ?_ ?_)))))
  all_goals first
    | exact hQ
    | (subst h0; exact hQ)
    | (simp only [List.length_nil]; omega)
theorem gP {Q:Bool→Prop} (h:Y9 b s) (hQ:Q s.fullB):GV b Q:=by
  unfold GV
  rw [h.room,h.row]
  simp only [List.length_map]
  have:decide ((s.room:Int)≤(s.row.length:Int))=s.fullB:=by unfold Abs.fullB; congr 1; simp
  rw [this]; exact hQ
theorem zP {k:Int} {Q:Int→Prop} (h:Y9 b s) (hQ:Q (s.at k)):GL b k Q:=by
  unfold GL
  rw [h.row]
  simp only [List.length_map]
  unfold Abs.at at hQ
  refine AD (fun h1=>?_) (fun h1=>AD (fun h2=>?_) (fun h2=>?_))
  · rwa [if_pos h1] at hQ
  · rwa [if_neg h1,if_pos h2] at hQ
  · rwa [if_neg h1,if_neg h2] at hQ
theorem QE {k:Int} (h:s.at k=0):∃ i:Nat,k=i∧i<s.row.length:=by
  unfold Abs.at at h
  split at h
  · cases h
  · split at h
    · cases h
    · exact ⟨k.toNat,by omega,by omega⟩
theorem QF {i:Nat} (hi:i<s.row.length):s.num (i:Int)=s.row[i]:=by
  simp [Abs.num,hi]
theorem aZ (h:Y9 b s) {i:Nat} (hi:i<s.row.length):b.row[i]? = some ((s.row[i]:Nat):Int):=by
  rw [h.row]; simp [hi]
theorem kG {n:Nat} {Q:AF→Prop} (h:Inv0 b s) (hf:s.fullB=false) (hn:n<s.fs.length) (hby:BP (n:Int) b.by_=s.fs[n]?) (hQ:∀ b',Inv0 b' { s with row:=s.row++[n] }→b'.sent=b.sent→Q b'):HM b (n:Int) Q:=by
  unfold HM
  have hlen:s.row.length<s.room:=by unfold Abs.fullB at hf; simpa using hf
  have h64:=h.r64
  refine BI (by rw [h.row]; simp; omega) (KD (hQ _ ?_ rfl))
  have hc:s.row.count n≤s.row.length:=List.count_le_length
  refine ⟨h.room,by rw [h.row]; simp,h.taken,?_,?_,h.byk,?_,GP h.oftk _ _,by simp; omega,h.r64,h.seq,h.flen,h.tk⟩
  · intro m hm
    rcases List.mem_append.1 hm with hm | hm
    · exact h.lt m hm
    · rw [List.mem_singleton] at hm; subst hm; exact hn
  · intro m hm
    rcases List.mem_append.1 hm with hm | hm
    · exact h.by_ m hm
    · rw [List.mem_singleton] at hm; subst hm; exact hby
  · intro m
    by_cases e:m=n
    · subst e
      rw [BM,h.often m]
      simp only [List.count_append,List.count_singleton_self]
      by_cases h0:s.row.count m=0
      · rw [h0]; decide
      · rw [if_neg h0,if_neg (by omega)]
        simp only [Option.getD_some]
        rw [AV (by omega) (by omega)]; simp
    · rw [BE (by omega),h.often m]
      simp only [List.count_append,List.count_singleton]
      have:(n==m)=false:=by simpa using fun e':n=m=>e e'.symm
      simp [this]
theorem AbC {f:BL} {Q:(Int×AF)→Prop} (h:Y9 b s) (hs:mL f) (hlt:s.fs.length<1000000) (hQ:∀ b',Y9 b' (s.send f).2→Q ((s.send f).1,b')):JG b f Q:=by
  unfold JG
  refine gP h ?_
  cases hf:s.fullB with
  | true=>refine BN rfl ?_; have:=hQ b; unfold Abs.send at this; rw [if_pos hf] at this; exact this h
  | false=>
    refine AW rfl (zO hs ?_)
    unfold Abs.send at hQ
    rw [hf] at hQ
    simp only [Bool.false_eq_true,if_false] at hQ
    have hsent:=h.sent
    rw [hsent]
    refine kG (s:={ s with fs:=s.fs++[{ f with Seq:=s.fs.length }] }) ?_ hf (by simp) ?_ ?_
    · refine ⟨h.room,h.row,h.taken,?_,?_,GP h.byk _ _,h.often,h.oftk,h.rlen,h.r64,?_,?_,?_⟩
      · intro n hn; have:=h.lt n hn; simp; omega
      · intro n hn
        have hn':=h.lt n hn
        rw [BE (by omega),h.by_ n hn,List.getElem?_append_left hn']
      · intro i g hg
        rcases Nat.lt_or_ge i s.fs.length with hi | hi
        · rw [List.getElem?_append_left hi] at hg; exact h.seq i g hg
        · rw [List.getElem?_append_right hi] at hg
          cases hk:i - s.fs.length with
          | zero=>rw [hk] at hg; cases hg; exact ⟨by simp; omega,hs⟩
          | succ q=>rw [hk] at hg; simp at hg
      · simp; omega
      · have:=h.tk; simp; omega
    · simp [BM]
    · intro b' h' hs'
      refine hQ _ ⟨⟨h'.room,h'.row,h'.taken,h'.lt,h'.by_,h'.byk,h'.often,h'.oftk,h'.rlen,h'.r64,h'.seq,h'.flen,h'.tk⟩,?_⟩
      have hs2:b'.sent=(s.fs.length:Int):=hs'
      show AJ (b'.sent+1)=_
      rw [hs2,AV (by omega) (by omega)]
      simp
theorem vW {k:Int} {Q:(Int×AF)→Prop} (h:Y9 b s) (hQ:∀ b',Y9 b' (s.double k).2→Q ((s.double k).1,b')):HI b k Q:=by
  unfold HI
  refine zP h (EW (fun h0=>?_) (fun h0=>gP h ?_))
  · have:=hQ b; unfold Abs.double at this; rw [if_pos h0] at this; exact this h
  · unfold Abs.double at hQ
    rw [if_neg (by rw [h0]; simp)] at hQ
    cases hf:s.fullB with
    | true=>refine BN rfl ?_; have:=hQ b; rw [if_pos hf] at this; exact this h
    | false=>
      rw [hf] at hQ
      simp only [Bool.false_eq_true,if_false] at hQ
      obtain ⟨i,rfl,hi⟩:=QE h0
      have hm:s.row[i]∈s.row:=List.getElem_mem hi
      rw [QF hi] at hQ
      refine AW rfl (AM (by omega) (x:=((s.row[i]:Nat):Int)) (by simpa using aZ h hi) (kG h.toInv0 hf (h.lt _ hm) (h.by_ _ hm) fun b' h' hs=>hQ b' ⟨h',hs.trans h.sent⟩))
theorem TG {α β:Type} (f:α→β):∀ (l:List α) (i:Nat),(l.map f).eraseIdx i=(l.eraseIdx i).map f
  | [],_=>rfl
  | _ :: _,0=>rfl
  | x :: r,i+1=>by simp [List.eraseIdx_cons_succ,TG f r i]
theorem kH {xs:List Int} {i:Nat} {Q:List Int→Prop} (hi:i<xs.length) (hl:xs.length≤64) (hQ:Q (xs.eraseIdx i)):DO xs (i:Int) (AJ ((i:Int)+1)) Q:=by
  unfold DO
  rw [AV (by omega) (by omega)]
  have e1:((i:Int)+1).toNat=i+1:=by omega
  refine ⟨by omega,by omega,by omega,CB (fun h=>by omega) (fun _=>⟨by omega,by omega,by omega,⟨by omega,by omega,by omega,?_⟩⟩)⟩
  simp only [Int.toNat_natCast,e1]
  rwa [←List.eraseIdx_eq_take_drop_succ]
theorem PH {l:List Nat} {i:Nat} (hi:i<l.length) (m:Nat):(l.eraseIdx i).count m=if m=l[i] then l.count m - 1 else l.count m:=by
  have e:l=l.take i++l[i] :: l.drop (i+1):=by simp
  have h1:(l.eraseIdx i).count m=(l.take i).count m+(l.drop (i+1)).count m:=by rw [List.eraseIdx_eq_take_drop_succ,List.count_append]
  have h2:l.count m=(l.take i).count m+(l[i] :: l.drop (i+1)).count m:=by rw [←List.count_append,←e]
  rw [h1,h2,List.count_cons]
  by_cases hm:m=l[i]
  · subst hm; simp
  · have:(l[i]==m)=false:=by simpa using fun e':l[i]=m=>hm e'.symm
    simp [this,hm]
theorem vX {i:Nat} {Q:(BL×AF)→Prop} (h:Y9 b s) (hi:i<s.row.length) (hQ:∀ b',Y9 b' { s with row:=s.row.eraseIdx i }→Q (s.fs.getD s.row[i] zf,b')):KG b (i:Int) Q:=by
  unfold KG
  have hm:s.row[i]∈s.row:=List.getElem_mem hi
  have hlt:=h.lt _ hm
  have hcp:0<s.row.count s.row[i]:=List.count_pos_iff.2 hm
  have hcl:s.row.count s.row[i]≤s.row.length:=List.count_le_length
  have hrl:=h.rlen
  have h64:=h.r64
  refine AM (by omega) (x:=((s.row[i]:Nat):Int)) (by simpa using aZ h hi) (KD ?_)
  rw [h.by_ _ hm]
  refine kH (by rw [h.row]; simpa using hi) (by rw [h.row]; simp; omega) (KD (KD ?_))
  rw [BM,h.often,if_neg (by omega)]
  simp only [Option.getD_some]
  rw [AV (by omega) (by omega)]
  have hrow:(b.row.eraseIdx i)=(s.row.eraseIdx i).map (fun n:Nat=>(n:Int)):=by rw [h.row,TG]
  have hlen:(s.row.eraseIdx i).length≤s.room:=by rw [List.length_eraseIdx]; split <;> omega
  have hsub:∀ m∈s.row.eraseIdx i,m∈s.row:=fun m hm=>(List.eraseIdx_sublist s.row i).mem hm
  have hfs:(s.fs[s.row[i]]?).getD zf=s.fs.getD s.row[i] zf:=by simp
  rw [show ({ Kind:=0,From:=0,To:=0,Seq:=0,Round:=0,Vec:=({ N:=0,Items:=([]:List CE) }:Vec),Sums:=([]:List bQ),Triples:=([]:List AC),N:=0,Over:=false }:BL)=zf from rfl,hfs]
  refine CB (fun h0=>?_) (fun h0=>?_)
  · have hone:s.row.count s.row[i]=1:=by omega
    refine hQ _ ⟨⟨h.room,hrow,h.taken,fun m hm'=>h.lt m (hsub m hm'),?_,dB h.byk _,?_,dB (GP h.oftk _ _) _,hlen,h.r64,h.seq,h.flen,h.tk⟩,h.sent⟩
    · intro m hm'
      have hne:m≠s.row[i]:=by
        intro e
        have h1:=List.count_pos_iff.2 hm'
        rw [PH hi,if_pos e,e,hone] at h1
        omega
      rw [ER (by omega)]
      exact h.by_ m (hsub m hm')
    · intro m
      rw [PH hi]
      by_cases e:m=s.row[i]
      · subst e
        rw [WH (GP h.oftk _ _),if_pos rfl,hone]; rfl
      · rw [ER (by omega),BE (by omega),h.often m,if_neg e]
  · have hne1:s.row.count s.row[i]≠1:=by omega
    refine hQ _ ⟨⟨h.room,hrow,h.taken,fun m hm'=>h.lt m (hsub m hm'),fun m hm'=>h.by_ m (hsub m hm'),h.byk,?_,GP h.oftk _ _,hlen,h.r64,h.seq,h.flen,h.tk⟩,h.sent⟩
    intro m
    rw [PH hi]
    by_cases e:m=s.row[i]
    · subst e
      rw [BM,if_pos rfl,if_neg (by omega)]
      congr 1; omega
    · rw [BE (by omega),h.often m,if_neg e]
theorem AbD {k:Int} {Q:(BL×Bool×Int×AF)→Prop} (h:Y9 b s) (hQ:∀ b',Y9 b' (s.take k).2.2.2→Q ((s.take k).1,(s.take k).2.1,(s.take k).2.2.1,b')):JI b k Q:=by
  unfold JI
  refine zP h (EW (fun h0=>?_) (fun h0=>?_))
  · have:=hQ b; unfold Abs.take at this; rw [if_pos h0] at this; exact this h
  · unfold Abs.take at hQ
    rw [if_neg (by rw [h0]; simp)] at hQ
    obtain ⟨i,rfl,hi⟩:=QE h0
    rw [QF hi] at hQ
    have hm:s.row[i]∈s.row:=List.getElem_mem hi
    have hlt:=h.lt _ hm
    have htk:=h.taken
    have hfl:=h.flen
    refine AM (by omega) (x:=((s.row[i]:Nat):Int)) (by simpa using aZ h hi) (AD (fun h1=>?_) (fun h1=>vX h hi fun b' h'=>?_))
    · have:=hQ b; rw [if_pos (by omega)] at this; rw [h0]; exact this h
    · rw [if_neg (by omega)] at hQ
      have hg:s.fs[s.row[i]]? = some s.fs[s.row[i]]:=List.getElem?_eq_getElem hlt
      have hsq:=h.seq _ _ hg
      have hgd:s.fs.getD s.row[i] zf=s.fs[s.row[i]]:=by simp [hlt]
      simp only [Int.toNat_natCast] at hQ
      rw [hgd]
      rw [hgd] at hQ
      have htk':=h'.taken
      simp only at htk'
      refine AD (fun h2=>?_) (fun h2=>zO hsq.2 ?_)
      · have:=hQ b'
        rw [hsq.1,htk'] at h2
        rw [if_pos (by omega)] at this
        exact this h'
      · rw [hsq.1,htk'] at h2
        rw [if_neg (by omega)] at hQ
        refine hQ _ ⟨⟨h'.room,h'.row,?_,h'.lt,h'.by_,h'.byk,h'.often,h'.oftk,h'.rlen,h'.r64,h'.seq,h'.flen,?_⟩,h'.sent⟩
        · simp only; rw [htk',AV (by omega) (by omega)]; simp
        · simp only; omega
theorem AbE {k:Int} {Q:(Int×AF)→Prop} (h:Y9 b s) (hQ:∀ b',Y9 b' (s.move k).2→Q ((s.move k).1,b')):JK b k Q:=by
  unfold JK
  refine zP h (EW (fun h0=>?_) (fun h0=>?_))
  · have:=hQ b; unfold Abs.move at this; rw [if_pos h0] at this; exact this h
  · unfold Abs.move at hQ
    rw [if_neg (by rw [h0]; simp)] at hQ
    obtain ⟨i,rfl,hi⟩:=QE h0
    rw [QF hi] at hQ
    have hrl:=h.rlen
    have h64:=h.r64
    have hm:s.row[i]∈s.row:=List.getElem_mem hi
    simp only [Int.toNat_natCast] at hQ
    have hperm:∀ m,(s.row.eraseIdx i++[s.row[i]]).count m=s.row.count m:=by
      intro m
      rw [List.count_append,PH hi,List.count_singleton]
      by_cases e:m=s.row[i]
      · subst e
        have:=List.count_pos_iff.2 hm
        simp
      · have:(s.row[i]==m)=false:=by simpa using fun e':s.row[i]=m=>e e'.symm
        simp [this,e]
    have hmem:∀ m∈s.row.eraseIdx i++[s.row[i]],m∈s.row:=fun m hm'=>by
      rw [←List.count_pos_iff,←hperm m,List.count_pos_iff]; exact hm'
    have hlen:(s.row.eraseIdx i++[s.row[i]]).length=s.row.length:=by simp only [List.length_append,List.length_eraseIdx,hi,if_true,List.length_singleton]; omega
    refine AM (by omega) (x:=((s.row[i]:Nat):Int)) (by simpa using aZ h hi) (kH (by rw [h.row]; simpa using hi) (by rw [h.row]; simp; omega) (BI ?_ ?_))
    · rw [h.row]; simp [List.length_eraseIdx,hi]; omega
    · refine hQ _ ⟨⟨h.room,?_,h.taken,fun m hm'=>h.lt m (hmem m hm'),fun m hm'=>h.by_ m (hmem m hm'),h.byk,fun m=>by rw [hperm]; exact h.often m,h.oftk,by rw [hlen]; exact h.rlen,h.r64,h.seq,h.flen,h.tk⟩,h.sent⟩
      simp only
      rw [h.row,TG]; simp
theorem AcS {xs:List Int} {Q:Int→Prop} (h0:xs≠[]) (hl:xs.length≤1000000) (hQ:∀ m,m∈xs→(∀ x∈xs,m≤x)→Q m):ID xs Q:=by
  unfold ID
  have hlen:0<xs.length:=List.length_pos_iff.2 h0
  refine AD (fun h=>by omega) (fun _=>AM (by omega) (x:=xs[0]) (by simp [hlen]) ?_)
  refine EL (fun s:Int×Int=>∃ i:Nat,s.2=i∧1≤i∧i≤xs.length∧s.1∈xs∧∀ (j:Nat) (hj:j<i) (hjl:j<xs.length),s.1≤xs[j]) (fun s=>xs.length - s.2.toNat) ⟨1,rfl,by omega,by omega,List.getElem_mem _,fun j hj hjl=>by
    have:j=0:=by omega
    subst this; exact Int.le_refl _⟩ ?_
  rintro ⟨s1,s2⟩ next ⟨i,hi,h1,hil,hmem,hle⟩ hnext
  simp only at hi hmem hle
  subst hi
  refine AD (fun h=>?_) (fun h=>hQ s1 hmem fun x hx=>?_)
  · have hlt:i<xs.length:=by omega
    refine AM (by omega) (x:=xs[i]) (by simp [hlt]) (hnext _ ⟨i+1,?_,by omega,by omega,?_,?_⟩ ?_)
    · simp only; rw [AV (by omega) (by omega)]; simp
    · simp only; split
      · exact List.getElem_mem _
      · exact hmem
    · intro j hj hjl
      simp only
      by_cases e:j=i
      · subst e; split <;> omega
      · have:=hle j (by omega) hjl
        split <;> omega
    · simp only; rw [AV (by omega) (by omega)]; omega
  · obtain ⟨j,hj,rfl⟩:=List.getElem_of_mem hx
    exact hle j (by omega) hj
theorem zQ {xs:List Int} {m:Int} {Q:Int→Prop} (hl:xs.length≤1000000) (hm:m∈xs) (hQ:∀ (i:Nat) (hi:i<xs.length),xs[i]=m→(∀ (j:Nat) (hj:j<i) (hjl:j<xs.length),xs[j]≠m)→Q i):DY xs m Q:=by
  unfold DY IX
  refine EL (fun s:Int=>∃ i:Nat,s=i∧i≤xs.length∧∀ (j:Nat) (hj:j<i) (hjl:j<xs.length),xs[j]≠m) (fun s=>xs.length - s.toNat) ⟨0,rfl,by omega,fun j hj=>by omega⟩ ?_
  rintro _ next ⟨i,rfl,hil,hne⟩ hnext
  refine AD (fun h=>?_) (fun h=>?_)
  · have hlt:i<xs.length:=by omega
    refine AM (by omega) (x:=xs[i]) (by simp [hlt]) (CB (fun e=>hQ i hlt e hne) (fun e=>hnext _ ⟨i+1,by rw [AV (by omega) (by omega)]; simp,by omega,?_⟩ ?_))
    · intro j hj hjl
      by_cases ej:j=i
      · subst ej; exact e
      · exact hne j (by omega) hjl
    · rw [AV (by omega) (by omega)]; omega
  · exfalso
    obtain ⟨j,hj,rfl⟩:=List.getElem_of_mem hm
    exact hne j (by omega) hj rfl
theorem rX {Q:Int→Prop} (h:Y9 b s) (hQ:Q (s.row.length:Int)):HN b Q:=by
  unfold HN; rw [h.row]; simpa using hQ
theorem vY {l:List Nat} {i:Nat} (hi:i<l.length) (h1:∀ n∈l,l[i]≤n) (h2:∀ (j:Nat) (hj:j<i) (hjl:j<l.length),l[j]≠l[i]):QD l=i:=by
  unfold QD
  rw [List.findIdx_eq hi]
  refine ⟨by simpa using h1,fun j hj=>?_⟩
  have:=h2 j hj (by omega)
  have h3:=h1 l[j] (List.getElem_mem _)
  rw [Bool.eq_false_iff]
  intro h4
  have h5:=List.all_eq_true.1 h4 l[i] (List.getElem_mem _)
  simp at h5
  omega
theorem pK {l:List Nat} (h:l≠[]):∃ hi:QD l<l.length,(∀ n∈l,l[QD l]≤n):=by
  have hex:∃ m∈l,∀ n∈l,m≤n:=by
    induction l with
    | nil=>exact absurd rfl h
    | cons x r ih=>
      by_cases hr:r=[]
      · subst hr; exact ⟨x,by simp,by simp⟩
      · obtain ⟨m,hm,hmin⟩:=ih hr
        rcases Nat.le_total x m with hx | hx
        · exact ⟨x, by simp, fun n hn => by rcases List.mem_cons.1 hn with rfl | hn; · exact Nat.le_refl _
                                            · exact Nat.le_trans hx (hmin n hn)⟩
        · exact ⟨m, by simp [hm], fun n hn => by rcases List.mem_cons.1 hn with rfl | hn; · exact hx
                                                 · exact hmin n hn⟩
  obtain ⟨m,hm,hmin⟩:=hex
  have hp:l.findIdx (fun n=>l.all fun m=>decide (n≤m))<l.length:=List.findIdx_lt_length_of_exists ⟨m,hm,by simpa using hmin⟩
  refine ⟨hp,fun n hn=>?_⟩
  have:=List.findIdx_getElem (w:=hp)
  have:=List.all_eq_true.1 this n hn
  simpa [QD] using this
theorem vZ {Q:Int→Prop} (h:Y9 b s) (hQ:Q s.oldest):HJ b Q:=by
  unfold HJ
  have hrl:=h.rlen
  have h64:=h.r64
  have hbl:b.row.length=s.row.length:=by rw [h.row]; simp
  unfold Abs.oldest at hQ
  refine rX h (CB (fun h0=>?_) (fun h0=>AcS (fun e=>?_) (by omega) fun m hm hmin=>zQ (by omega) hm fun i hi hxi hfirst=>?_))
  · rwa [if_pos (by omega)] at hQ
  · rw [e] at hbl; simp at hbl; omega
  · rw [if_neg (by omega)] at hQ
    have hi':i<s.row.length:=by omega
    have hget:∀ (j:Nat) (hj:j<b.row.length) (hj':j<s.row.length),b.row[j]=((s.row[j]:Nat):Int):=by
      intro j hj hj'
      have:=aZ h hj'
      rw [List.getElem?_eq_getElem hj] at this
      exact Option.some.inj this
    rw [vY hi' (fun n hn=>?_) (fun j hj hjl=>?_)] at hQ
    · exact hQ
    · obtain ⟨j,hj,rfl⟩:=List.getElem_of_mem hn
      have:=hmin _ (List.getElem_mem (show j<b.row.length by omega))
      rw [←hxi,hget i hi hi',hget j (by omega) hj] at this
      omega
    · have:=hfirst j hj (by omega)
      rw [hget j (by omega) hjl,←hxi,hget i hi hi'] at this
      omega
theorem AbF (n:Nat) (h:n≤64):Y9 { room:=(n:Int),row:=([]:List Int),by_:=([]:List (Int×BL)),often:=([]:List (Int×Int)),sent:=0,taken:=0 } ⟨n,[],[],0⟩:=
  ⟨⟨rfl,rfl,rfl,by simp,by simp,by simp [FN],by simp [BP],by simp [FN],by simp,h,by simp,by simp,by simp⟩,rfl⟩
theorem AcT {a:Int} {Q0:Int→Prop} {Q1:(Int×AF)→Prop} (h0:¬(1≤a∧a≤64)→Q0 3) (h1:∀ (n:Nat) b,a=n→1≤n→n≤64→Y9 b ⟨n,[],[],0⟩→Q1 (0,b)):QC a Q0 Q1:=by
  unfold QC
  refine AD (fun h=>h0 (by omega)) (fun h=>AD (fun h'=>h0 (by omega)) (fun h'=>?_))
  refine h1 a.toNat _ (by omega) (by omega) (by omega) ?_
  have:=AbF a.toNat (by omega)
  rwa [show ((a.toNat:Nat):Int)=a by omega] at this
theorem AbG {Q:Int→Prop} (h:Y9 b s) (hQ:Q (s.fs.length:Int)):JL b Q:=by unfold JL; rw [h.sent]; exact hQ
theorem EP {σ:Type} {body:σ→(σ→Prop)→Prop} (Iv:Nat→σ→Prop) {m0:Nat} {s0:σ} (h0:Iv m0 s0) (h:∀ m s next,Iv m s→(∀ m' s',m'<m→Iv m' s'→next s')→body s next):BK body s0:=by
  have key:∀ k m s,Iv m s→m<k→NH body k s:=by
    intro k
    induction k with
    | zero=>intro m s _ hm; omega
    | succ k ih=>intro m s hI hm; exact h m s _ hI fun m' s' hm' hI'=>ih m' s' hI' (by omega)
  exact ⟨m0+1,key _ _ _ h0 (by omega)⟩
section bank
variable {α:Type} {xs:List (Nat×α)} {b b':Nat} {x:α}
theorem kI:BP b ((b,x) :: CI b xs)=some x:=by simp [BP]
theorem gQ (h:b'≠b):BP b' ((b,x) :: CI b xs)=BP b' xs:=by
  rw [←ER h xs]
  simp [BP,h]
theorem VK {ys:List (Nat×α)}:BP b ((b,x) :: ys)=some x:=by simp [BP]
theorem dP {ys:List (Nat×α)} (h:b'≠b):BP b' ((b,x) :: ys)=BP b' ys:=by simp [BP,h]
end bank
structure Wk where
  out:List BL
  gl:Nat→Bool
  gr:Nat→Bool
  at_:Nat
structure MS where
  w:Nat→Wk
  bx:Nat→Nat→Abs
def DQ (m:MS) (k:Nat) (a:Wk):MS:={ m with w:=fun i=>if i=k then a else m.w i }
def CQ (m:MS) (f t:Nat) (a:Abs):MS:={ m with bx:=fun i j=>if i=f∧j=t then a else m.bx i j }
structure VL where
  p:BB
  S:List AY
  n:Nat
  adr:Nat→Nat
  wi:Nat→Int
  wj:Nat→Int
  mask:Nat→Rows
  room:Nat
  LA:Nat→Nat→List AC
  RB:Nat→Nat→List AC
  has:Nat→Nat→List AK
def empty (c:VL):Abs:=⟨c.room,[],[],0⟩
structure AbH (c:VL) (k:Nat) (a:Wk) (x:AA):Prop where
  i:x.i=c.wi k
  j:x.j=c.wj k
  mask:x.mask=c.mask k
  out:x.out=a.out
  at_:x.at_=(a.at_:Int)
  le:a.at_≤c.S.length
  has:x.has=c.has k a.at_
  l:∀ s,a.at_≤s→BP ({ kind:=6,stage:=(s:Int) }:AZ) x.parts=if a.gl s then some (c.LA k s) else none
  r:∀ s,a.at_≤s→BP ({ kind:=7,stage:=(s:Int) }:AZ) x.parts=if a.gr s then some (c.RB k s) else none
structure Rep (c:VL) (m:MS) (o0:AB) (o1:List (Nat×AA)) (o2:List (Nat×AF)):Prop where
  p:o0.p=c.p
  S:o0.stages=c.S
  ws:o0.workers=(List.range c.n).map fun k=>some (c.adr k)
  wk:∀ k<c.n,∃ x,BP (c.adr k) o1=some x∧AbH c k (m.w k) x
  no:∀ f t:Nat,BP ((f:Int),(t:Int)) o0.boxes=none→m.bx f t=empty c
  nn:∀ q,BP q o0.boxes≠some none
  bx:∀ (f t:Nat) b,BP ((f:Int),(t:Int)) o0.boxes=some (some b)→∃ pb,BP b o2=some pb∧Y9 pb (m.bx f t)
  inj:∀ q q' b,BP q o0.boxes=some (some b)→BP q' o0.boxes=some (some b)→q=q'
  ks:FN o0.boxes
  kr:∀ q∈o0.boxes.map (·.1),∃ f t:Nat,f<c.n∧t<c.n∧q=((f:Int),(t:Int))
structure dQ (c:VL):Prop where
  n:c.n≤64
  room:c.p.Room=(c.room:Int)
  r1:1≤c.room
  r64:c.room≤64
  S:c.S.length≤64
  inj:∀ i j,i<c.n→j<c.n→c.adr i=c.adr j→i=j
variable {c:VL} {m:MS} {o0:AB} {o1 o1x:List (Nat×AA)} {o2:List (Nat×AF)}
theorem Rep.len (h:Rep c m o0 o1 o2):o0.workers.length=c.n:=by rw [h.ws]; simp
theorem Rep.get (h:Rep c m o0 o1 o2) {k:Nat} (hk:k<c.n):o0.workers[((k:Int)).toNat]? = some (some (c.adr k)):=by
  rw [h.ws]; simp [hk]
theorem cO (h:Rep c m o0 o1 o2) {a:Int} {Q:Bool→Prop} (hQ:Q (decide (0≤a∧a<c.n))):DE o0 o1x a Q:=by
  unfold DE
  rw [h.len]
  refine AD (fun h1=>?_) (fun h1=>?_)
  · simpa [h1] using hQ
  · simpa [h1] using hQ
theorem Rep.setB (hc:dQ c) (h:Rep c m o0 o1 o2) {f t:Nat} {b:Nat} {pb:AF} {a:Abs} (hk:BP ((f:Int),(t:Int)) o0.boxes=some (some b)) (hi:Y9 pb a):Rep c (CQ m f t a) o0 o1 ((b,pb) :: CI b o2):=by
  refine ⟨h.p,h.S,h.ws,h.wk,?_,h.nn,?_,h.inj,h.ks,h.kr⟩
  · intro f' t' hn
    have:¬(f'=f∧t'=t):=by rintro ⟨rfl,rfl⟩; rw [hk] at hn; cases hn
    simp only [CQ,if_neg this]
    exact h.no f' t' hn
  · intro f' t' b' hb
    by_cases e:f'=f∧t'=t
    · obtain ⟨rfl,rfl⟩:=e
      rw [hk] at hb
      cases hb
      exact ⟨pb,kI,by simpa [CQ] using hi⟩
    · have hne:b'≠b:=by
        rintro rfl
        have:=h.inj _ _ _ hb hk
        simp only [Prod.mk.injEq] at this
        exact e ⟨by omega,by omega⟩
      obtain ⟨pb',h1,h2⟩:=h.bx f' t' b' hb
      exact ⟨pb',by rw [gQ hne]; exact h1,by simpa [CQ,if_neg e] using h2⟩
theorem Rep.setW (hc:dQ c) (h:Rep c m o0 o1 o2) {k:Nat} (hk:k<c.n) {a:Wk} {x:AA} (hx:AbH c k a x):Rep c (DQ m k a) o0 ((c.adr k,x) :: CI (c.adr k) o1) o2:=by
  refine ⟨h.p,h.S,h.ws,?_,h.no,h.nn,h.bx,h.inj,h.ks,h.kr⟩
  intro i hi
  by_cases e:i=k
  · subst e; exact ⟨x,kI,by simpa [DQ] using hx⟩
  · obtain ⟨y,h1,h2⟩:=h.wk i hi
    exact ⟨y,by rw [gQ fun e'=>e (hc.inj _ _ hi hk e')]; exact h1,by simpa [DQ,e] using h2⟩
def Ext (o o':AB):Prop:=∀ q b,BP q o.boxes=some (some b)→BP q o'.boxes=some (some b)
theorem Ext.refl (o:AB):Ext o o:=fun _ _ h=>h
theorem Ext.trans {a b d:AB} (h:Ext a b) (h':Ext b d):Ext a d:=fun q x hx=>h' q x (h q x hx)
theorem mM {f t:Int} {Q0:(AB×List (Nat×AF))→Prop} {Q1:(Option Nat×AB×List (Nat×AF))→Prop} (h:Rep c m o0 o1 o2) (hn:¬((0≤f∧f<c.n)∧(0≤t∧t<c.n))) (hQ:Q0 (o0,o2)):CA o0 o1x o2 f t Q0 Q1:=by
  unfold CA
  refine cO h (CR (fun _=>hQ) (fun h1=>cO h (CR (fun _=>hQ) (fun h2=>?_))))
  exact absurd ⟨of_decide_eq_true h1,of_decide_eq_true h2⟩ hn
theorem gR (hc:dQ c) (h:Rep c m o0 o1 o2) {f t:Nat} (hf:f<c.n) (ht:t<c.n) {Q0:(AB×List (Nat×AF))→Prop} {Q1:(Option Nat×AB×List (Nat×AF))→Prop}
    (hQ:∀ b pb o0' o2',Rep c m o0' o1 o2'→Ext o0 o0'→BP ((f:Int),(t:Int)) o0'.boxes=some (some b)→BP b o2'=some pb→Y9 pb (m.bx f t)→Q1 (some b,o0',o2')):CA o0 o1x o2 f t Q0 Q1:=by
  unfold CA
  refine cO h (CR (fun h1=>absurd h1 (by simp; omega)) (fun _=>cO h (CR (fun h1=>absurd h1 (by simp; omega)) (fun _=>KD ?_))))
  cases hg:BP ((f:Int),(t:Int)) o0.boxes with
  | none=>
    refine BN rfl (AcT (fun hr=>?_) (fun n b hn h1 h64 hi b' hb'=>KD ?_))
    · exact absurd hr (by rw [h.p,hc.room]; have:=hc.r1; have:=hc.r64; omega)
    · rw [BM]
      have hroom:n=c.room:=by have:=hc.room; rw [←h.p,hn] at this; omega
      subst hroom
      refine hQ b' b _ _ ⟨h.p,h.S,h.ws,h.wk,?_,?_,?_,?_,GP h.ks _ _,?_⟩ (fun q b2 hq=>?_) (BM _ _ _) VK (by rw [h.no f t hg]; exact hi)
      · intro f' t' hn'
        by_cases e:((f':Int),(t':Int))=((f:Int),(t:Int))
        · simp only at hn'; rw [e,BM] at hn'; cases hn'
        · exact h.no f' t' (by rwa [BE e] at hn')
      · intro q hq
        by_cases e:q=((f:Int),(t:Int))
        · subst e; simp only at hq; rw [BM] at hq; cases hq
        · exact h.nn q (by rwa [BE e] at hq)
      · intro f' t' b2 hb2
        by_cases e:((f':Int),(t':Int))=((f:Int),(t:Int))
        · simp only at hb2
          rw [e,BM] at hb2
          cases hb2
          simp only [Prod.mk.injEq] at e
          have e1:f'=f:=by omega
          have e2:t'=t:=by omega
          subst e1 e2
          exact ⟨b,VK,by rw [h.no f' t' hg]; exact hi⟩
        · simp only at hb2
          rw [BE e] at hb2
          obtain ⟨pb,h3,h4⟩:=h.bx f' t' b2 hb2
          refine ⟨pb,?_,h4⟩
          rw [dP (by rintro rfl; rw [hb'] at h3; cases h3)]; exact h3
      · intro q q' b2 hq hq'
        simp only at hq hq'
        have old:∀ {z},z≠((f:Int),(t:Int))→BP z (ET ((f:Int),(t:Int)) (some b') o0.boxes)=some (some b2)→b2≠b':=by
          intro z hz hz'
          rw [BE hz] at hz'
          have hzm:=nX hz'
          obtain ⟨f1,t1,_,_,rfl⟩:=h.kr z hzm
          obtain ⟨pb,h3,_⟩:=h.bx f1 t1 b2 hz'
          rintro rfl
          rw [hb'] at h3; cases h3
        by_cases e:q=((f:Int),(t:Int))
        · by_cases e':q'=((f:Int),(t:Int))
          · rw [e,e']
          · exfalso
            rw [e,BM] at hq
            cases hq
            exact old e' hq' rfl
        · by_cases e':q'=((f:Int),(t:Int))
          · exfalso
            rw [e',BM] at hq'
            cases hq'
            exact old e hq rfl
          · rw [BE e] at hq
            rw [BE e'] at hq'
            exact h.inj q q' b2 hq hq'
      · intro q hq
        rw [show (({ p:=o0.p,stages:=o0.stages,workers:=o0.workers,boxes:=(ET ((f:Int),(t:Int)) (some b') o0.boxes) }:AB)).boxes=ET ((f:Int),(t:Int)) (some b') o0.boxes from rfl,bV] at hq
        split at hq
        · exact h.kr q hq
        · rcases List.mem_append.1 hq with hq | hq
          · exact h.kr q hq
          · rw [List.mem_singleton] at hq; exact ⟨f,t,hf,ht,hq⟩
      · show BP q (ET ((f:Int),(t:Int)) (some b') o0.boxes)=_
        rw [BE (by rintro rfl; rw [hg] at hq; cases hq)]; exact hq
  | some v=>
    cases v with
    | none=>exact absurd hg (h.nn _)
    | some b=>
      obtain ⟨pb,h1,h2⟩:=h.bx f t b hg
      refine AW rfl (KD ?_)
      rw [hg]
      exact hQ b pb _ _ h (Ext.refl _) hg h1 h2
end Go.Proofs.YtbohadngdkjljaaGreat
