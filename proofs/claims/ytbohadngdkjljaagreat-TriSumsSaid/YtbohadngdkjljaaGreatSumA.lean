import Derived.Test.YtbohadngdkjljaaGreatT
import Derived.Test.YtbohadngdkjljaaGreatFwP
import Derived.Test.YtbohadngdkjljaaGreatFwQ
import Derived.Test.YtbohadngdkjljaaGreatBlkD
namespace Go.Proofs.YtbohadngdkjljaaGreat
open Go Go.Fw
set_option linter.unusedVariables false
set_option linter.unusedSimpArgs false
structure Abs where
  room:Nat
  row:List Nat
  fs:List BL
  taken:Nat
def pJ (f:BL):Prop:=f.Vec.Items=[]∧f.Sums=[]∧f.Triples.length≤1000000000
structure Inv0 (b:AF) (s:Abs):Prop where
  room:b.room=s.room
  row:b.row=s.row.map (fun n:Nat=>(n:Int))
  taken:b.taken=s.taken
  lt:∀ n∈s.row,n<s.fs.length
  by_:∀ n∈s.row,BM (n:Int) b.by_=s.fs[n]?
  byk:EM b.by_
  often:∀ n:Nat,BM (n:Int) b.often=if s.row.count n=0 then none else some (s.row.count n:Int)
  oftk:EM b.often
  rlen:s.row.length≤s.room
  r64:s.room≤64
  seq:∀ (i:Nat) (f:BL),s.fs[i]? = some f→f.Seq=i∧pJ f
  flen:s.fs.length≤1000000
  tk:s.taken≤s.fs.length
structure ZE (b:AF) (s:Abs):Prop extends Inv0 b s where
  sent:b.sent=s.fs.length
def zf:BL:={ Kind:=0,From:=0,To:=0,Seq:=0,Round:=0,Vec:={ N:=0,Items:=[] },Sums:=[],Triples:=[],N:=0,Over:=false }
def Abs.fullB (s:Abs):Bool:=decide (s.room≤s.row.length)
def Abs.send (s:Abs) (f:BL):Int×Abs:=if s.fullB then (9,s) else (0,{ s with row:=s.row++[s.fs.length],fs:=s.fs++[{ f with Seq:=s.fs.length }] })
def Abs.at (s:Abs) (k:Int):Int:=if k<0 then 3 else if (s.row.length:Int)≤k then 3 else 0
def Abs.num (s:Abs) (k:Int):Nat:=s.row.getD k.toNat 0
def Abs.double (s:Abs) (k:Int):Int×Abs:=if s.at k≠0 then (s.at k,s) else if s.fullB then (9,s) else (0,{ s with row:=s.row++[s.num k] })
def Abs.move (s:Abs) (k:Int):Int×Abs:=if s.at k≠0 then (s.at k,s) else (0,{ s with row:=s.row.eraseIdx k.toNat++[s.num k] })
def Abs.take (s:Abs) (k:Int):BL×Bool×Int×Abs:=
  if s.at k≠0 then (zf,false,s.at k,s)
  else if s.taken<s.num k then (zf,false,0,s)
  else if s.num k<s.taken then (zf,false,0,{ s with row:=s.row.eraseIdx k.toNat })
  else (s.fs.getD (s.num k) zf,true,0,{ s with row:=s.row.eraseIdx k.toNat,taken:=s.taken+1 })
def QZ (l:List Nat):Nat:=l.findIdx fun n=>l.all fun m=>decide (n≤m)
def Abs.oldest (s:Abs):Int:=if s.row.length=0 then -1 else QZ s.row
variable {b:AF} {s:Abs}
theorem Ad1 {f:BL} {Q:BL→Prop} (h:pJ f) (hQ:Q f):XE f Q:=by
  obtain ⟨h1,h2,h3⟩:=h
  unfold XE EV FI ED
  obtain ⟨K,F,T,S,R,⟨VN,VI⟩,Su,Tr,N,O⟩:=f
  simp only at h1 h2 h3
  subst h1 h2
  have e:∀ (X:List AD),([]:List AD)++X=X:=fun _=>rfl
  refine LW (fun _=>LW (fun _=>LW (fun h0=>?_) (BG ?_ ?_)) (BG (by simp) (LW (fun h0=>?_) (BG ?_ ?_)))) (BG (by simp) (LW (fun _=>LW (fun h0=>?_) (BG ?_ ?_)) (BG (by simp) (LW (fun h0=>?_) (BG ?_ ?_)))))
  all_goals first
    | exact hQ
    | (subst h0; exact hQ)
    | (simp only [List.length_nil]; omega)
theorem jJ {Q:Bool→Prop} (h:ZE b s) (hQ:Q s.fullB):GX b Q:=by
  unfold GX
  rw [h.room,h.row]
  simp only [List.length_map]
  have:decide ((s.room:Int)≤(s.row.length:Int))=s.fullB:=by unfold Abs.fullB; congr 1; simp
  rw [this]; exact hQ
theorem Ad2 {k:Int} {Q:Int→Prop} (h:ZE b s) (hQ:Q (s.at k)):GO b k Q:=by
  unfold GO
  rw [h.row]
  simp only [List.length_map]
  unfold Abs.at at hQ
  refine AC (fun h1=>?_) (fun h1=>AC (fun h2=>?_) (fun h2=>?_))
  · rwa [if_pos h1] at hQ
  · rwa [if_neg h1,if_pos h2] at hQ
  · rwa [if_neg h1,if_neg h2] at hQ
theorem RA {k:Int} (h:s.at k=0):∃ i:Nat,k=i∧i<s.row.length:=by
  unfold Abs.at at h
  split at h
  · cases h
  · split at h
    · cases h
    · exact ⟨k.toNat,by omega,by omega⟩
theorem RC {i:Nat} (hi:i<s.row.length):s.num (i:Int)=s.row[i]:=by
  simp [Abs.num,hi]
theorem cG (h:ZE b s) {i:Nat} (hi:i<s.row.length):b.row[i]? = some ((s.row[i]:Nat):Int):=by
  rw [h.row]; simp [hi]
theorem mQ {n:Nat} {Q:AF→Prop} (h:Inv0 b s) (hf:s.fullB=false) (hn:n<s.fs.length) (hby:BM (n:Int) b.by_=s.fs[n]?) (hQ:∀ b',Inv0 b' { s with row:=s.row++[n] }→b'.sent=b.sent→Q b'):HR b (n:Int) Q:=by
  unfold HR
  have hlen:s.row.length<s.room:=by unfold Abs.fullB at hf; simpa using hf
  have h64:=h.r64
  refine BG (by rw [h.row]; simp; omega) (KK (hQ _ ?_ rfl))
  have hc:s.row.count n≤s.row.length:=List.count_le_length
  refine ⟨h.room,by rw [h.row]; simp,h.taken,?_,?_,h.byk,?_,GS h.oftk _ _,by simp; omega,h.r64,h.seq,h.flen,h.tk⟩
  · intro m hm
    rcases List.mem_append.1 hm with hm | hm
    · exact h.lt m hm
    · rw [List.mem_singleton] at hm; subst hm; exact hn
  · intro m hm
    rcases List.mem_append.1 hm with hm | hm
    · exact h.by_ m hm
    · rw [List.mem_singleton] at hm; subst hm; exact hby
  · intro m
    by_cases e:m=n
    · subst e
      rw [BN,h.often m]
      simp only [List.count_append,List.count_singleton_self]
      by_cases h0:s.row.count m=0
      · rw [h0]; decide
      · rw [if_neg h0,if_neg (by omega)]
        simp only [Option.getD_some]
        rw [AX (by omega) (by omega)]; simp
    · rw [BE (by omega),h.often m]
      simp only [List.count_append,List.count_singleton]
      have:(n==m)=false:=by simpa using fun e':n=m=>e e'.symm
      simp [this]
theorem Af2 {f:BL} {Q:(Int×AF)→Prop} (h:ZE b s) (hs:pJ f) (hlt:s.fs.length<1000000) (hQ:∀ b',ZE b' (s.send f).2→Q ((s.send f).1,b')):JT b f Q:=by
  unfold JT
  refine jJ h ?_
  cases hf:s.fullB with
  | true=>refine BF rfl ?_; have:=hQ b; unfold Abs.send at this; rw [if_pos hf] at this; exact this h
  | false=>
    refine AN rfl (Ad1 hs ?_)
    unfold Abs.send at hQ
    rw [hf] at hQ
    simp only [Bool.false_eq_true,if_false] at hQ
    have hsent:=h.sent
    rw [hsent]
    refine mQ (s:={ s with fs:=s.fs++[{ f with Seq:=s.fs.length }] }) ?_ hf (by simp) ?_ ?_
    · refine ⟨h.room,h.row,h.taken,?_,?_,GS h.byk _ _,h.often,h.oftk,h.rlen,h.r64,?_,?_,?_⟩
      · intro n hn; have:=h.lt n hn; simp; omega
      · intro n hn
        have hn':=h.lt n hn
        rw [BE (by omega),h.by_ n hn,List.getElem?_append_left hn']
      · intro i g hg
        rcases Nat.lt_or_ge i s.fs.length with hi | hi
        · rw [List.getElem?_append_left hi] at hg; exact h.seq i g hg
        · rw [List.getElem?_append_right hi] at hg
          cases hk:i - s.fs.length with
          | zero=>rw [hk] at hg; cases hg; exact ⟨by simp; omega,hs⟩
          | succ q=>rw [hk] at hg; simp at hg
      · simp; omega
      · have:=h.tk; simp; omega
    · simp [BN]
    · intro b' h' hs'
      refine hQ _ ⟨⟨h'.room,h'.row,h'.taken,h'.lt,h'.by_,h'.byk,h'.often,h'.oftk,h'.rlen,h'.r64,h'.seq,h'.flen,h'.tk⟩,?_⟩
      have hs2:b'.sent=(s.fs.length:Int):=hs'
      show AH (b'.sent+1)=_
      rw [hs2,AX (by omega) (by omega)]
      simp
theorem AaI {k:Int} {Q:(Int×AF)→Prop} (h:ZE b s) (hQ:∀ b',ZE b' (s.double k).2→Q ((s.double k).1,b')):HK b k Q:=by
  unfold HK
  refine Ad2 h (FR (fun h0=>?_) (fun h0=>jJ h ?_))
  · have:=hQ b; unfold Abs.double at this; rw [if_pos h0] at this; exact this h
  · unfold Abs.double at hQ
    rw [if_neg (by rw [h0]; simp)] at hQ
    cases hf:s.fullB with
    | true=>refine BF rfl ?_; have:=hQ b; rw [if_pos hf] at this; exact this h
    | false=>
      rw [hf] at hQ
      simp only [Bool.false_eq_true,if_false] at hQ
      obtain ⟨i,rfl,hi⟩:=RA h0
      have hm:s.row[i]∈s.row:=List.getElem_mem hi
      rw [RC hi] at hQ
      refine AN rfl (AO (by omega) (x:=((s.row[i]:Nat):Int)) (by simpa using cG h hi) (mQ h.toInv0 hf (h.lt _ hm) (h.by_ _ hm) fun b' h' hs=>hQ b' ⟨h',hs.trans h.sent⟩))
theorem UZ {α β:Type} (f:α→β):∀ (l:List α) (i:Nat),(l.map f).eraseIdx i=(l.eraseIdx i).map f
  | [],_=>rfl
  | _ :: _,0=>rfl
  | x :: r,i+1=>by simp [List.eraseIdx_cons_succ,UZ f r i]
theorem mR {xs:List Int} {i:Nat} {Q:List Int→Prop} (hi:i<xs.length) (hl:xs.length≤64) (hQ:Q (xs.eraseIdx i)):DT xs (i:Int) (AH ((i:Int)+1)) Q:=by
  unfold DT
  rw [AX (by omega) (by omega)]
  have e1:((i:Int)+1).toNat=i+1:=by omega
  refine ⟨by omega,by omega,by omega,CU (fun h=>by omega) (fun _=>⟨by omega,by omega,by omega,⟨by omega,by omega,by omega,?_⟩⟩)⟩
  simp only [Int.toNat_natCast,e1]
  rwa [←List.eraseIdx_eq_take_drop_succ]
theorem PV {l:List Nat} {i:Nat} (hi:i<l.length) (m:Nat):(l.eraseIdx i).count m=if m=l[i] then l.count m - 1 else l.count m:=by
  have e:l=l.take i++l[i] :: l.drop (i+1):=by simp
  have h1:(l.eraseIdx i).count m=(l.take i).count m+(l.drop (i+1)).count m:=by rw [List.eraseIdx_eq_take_drop_succ,List.count_append]
  have h2:l.count m=(l.take i).count m+(l[i] :: l.drop (i+1)).count m:=by rw [←List.count_append,←e]
  rw [h1,h2,List.count_cons]
  by_cases hm:m=l[i]
  · subst hm; simp
  · have:(l[i]==m)=false:=by simpa using fun e':l[i]=m=>hm e'.symm
    simp [this,hm]
theorem AaJ {i:Nat} {Q:(BL×AF)→Prop} (h:ZE b s) (hi:i<s.row.length) (hQ:∀ b',ZE b' { s with row:=s.row.eraseIdx i }→Q (s.fs.getD s.row[i] zf,b')):KO b (i:Int) Q:=by
  unfold KO
  have hm:s.row[i]∈s.row:=List.getElem_mem hi
  have hlt:=h.lt _ hm
  have hcp:0<s.row.count s.row[i]:=List.count_pos_iff.2 hm
  have hcl:s.row.count s.row[i]≤s.row.length:=List.count_le_length
  have hrl:=h.rlen
  have h64:=h.r64
  refine AO (by omega) (x:=((s.row[i]:Nat):Int)) (by simpa using cG h hi) (KK ?_)
  rw [h.by_ _ hm]
  refine mR (by rw [h.row]; simpa using hi) (by rw [h.row]; simp; omega) (KK (KK ?_))
  rw [BN,h.often,if_neg (by omega)]
  simp only [Option.getD_some]
  rw [AX (by omega) (by omega)]
  have hrow:(b.row.eraseIdx i)=(s.row.eraseIdx i).map (fun n:Nat=>(n:Int)):=by rw [h.row,UZ]
  have hlen:(s.row.eraseIdx i).length≤s.room:=by rw [List.length_eraseIdx]; split <;> omega
  have hsub:∀ m∈s.row.eraseIdx i,m∈s.row:=fun m hm=>(List.eraseIdx_sublist s.row i).mem hm
  have hfs:(s.fs[s.row[i]]?).getD zf=s.fs.getD s.row[i] zf:=by simp
  rw [show ({ Kind:=0,From:=0,To:=0,Seq:=0,Round:=0,Vec:=({ N:=0,Items:=([]:List DS) }:Vec),Sums:=([]:List dG),Triples:=([]:List AD),N:=0,Over:=false }:BL)=zf from rfl,hfs]
  refine CU (fun h0=>?_) (fun h0=>?_)
  · have hone:s.row.count s.row[i]=1:=by omega
    refine hQ _ ⟨⟨h.room,hrow,h.taken,fun m hm'=>h.lt m (hsub m hm'),?_,eZ h.byk _,?_,eZ (GS h.oftk _ _) _,hlen,h.r64,h.seq,h.flen,h.tk⟩,h.sent⟩
    · intro m hm'
      have hne:m≠s.row[i]:=by
        intro e
        have h1:=List.count_pos_iff.2 hm'
        rw [PV hi,if_pos e,e,hone] at h1
        omega
      rw [ER (by omega)]
      exact h.by_ m (hsub m hm')
    · intro m
      rw [PV hi]
      by_cases e:m=s.row[i]
      · subst e
        rw [X9 (GS h.oftk _ _),if_pos rfl,hone]; rfl
      · rw [ER (by omega),BE (by omega),h.often m,if_neg e]
  · have hne1:s.row.count s.row[i]≠1:=by omega
    refine hQ _ ⟨⟨h.room,hrow,h.taken,fun m hm'=>h.lt m (hsub m hm'),fun m hm'=>h.by_ m (hsub m hm'),h.byk,?_,GS h.oftk _ _,hlen,h.r64,h.seq,h.flen,h.tk⟩,h.sent⟩
    intro m
    rw [PV hi]
    by_cases e:m=s.row[i]
    · subst e
      rw [BN,if_pos rfl,if_neg (by omega)]
      congr 1; omega
    · rw [BE (by omega),h.often m,if_neg e]
theorem Af3 {k:Int} {Q:(BL×Bool×Int×AF)→Prop} (h:ZE b s) (hQ:∀ b',ZE b' (s.take k).2.2.2→Q ((s.take k).1,(s.take k).2.1,(s.take k).2.2.1,b')):JV b k Q:=by
  unfold JV
  refine Ad2 h (FR (fun h0=>?_) (fun h0=>?_))
  · have:=hQ b; unfold Abs.take at this; rw [if_pos h0] at this; exact this h
  · unfold Abs.take at hQ
    rw [if_neg (by rw [h0]; simp)] at hQ
    obtain ⟨i,rfl,hi⟩:=RA h0
    rw [RC hi] at hQ
    have hm:s.row[i]∈s.row:=List.getElem_mem hi
    have hlt:=h.lt _ hm
    have htk:=h.taken
    have hfl:=h.flen
    refine AO (by omega) (x:=((s.row[i]:Nat):Int)) (by simpa using cG h hi) (AC (fun h1=>?_) (fun h1=>AaJ h hi fun b' h'=>?_))
    · have:=hQ b; rw [if_pos (by omega)] at this; rw [h0]; exact this h
    · rw [if_neg (by omega)] at hQ
      have hg:s.fs[s.row[i]]? = some s.fs[s.row[i]]:=List.getElem?_eq_getElem hlt
      have hsq:=h.seq _ _ hg
      have hgd:s.fs.getD s.row[i] zf=s.fs[s.row[i]]:=by simp [hlt]
      simp only [Int.toNat_natCast] at hQ
      rw [hgd]
      rw [hgd] at hQ
      have htk':=h'.taken
      simp only at htk'
      refine AC (fun h2=>?_) (fun h2=>Ad1 hsq.2 ?_)
      · have:=hQ b'
        rw [hsq.1,htk'] at h2
        rw [if_pos (by omega)] at this
        exact this h'
      · rw [hsq.1,htk'] at h2
        rw [if_neg (by omega)] at hQ
        refine hQ _ ⟨⟨h'.room,h'.row,?_,h'.lt,h'.by_,h'.byk,h'.often,h'.oftk,h'.rlen,h'.r64,h'.seq,h'.flen,?_⟩,h'.sent⟩
        · simp only; rw [htk',AX (by omega) (by omega)]; simp
        · simp only; omega
theorem Af4 {k:Int} {Q:(Int×AF)→Prop} (h:ZE b s) (hQ:∀ b',ZE b' (s.move k).2→Q ((s.move k).1,b')):JX b k Q:=by
  unfold JX
  refine Ad2 h (FR (fun h0=>?_) (fun h0=>?_))
  · have:=hQ b; unfold Abs.move at this; rw [if_pos h0] at this; exact this h
  · unfold Abs.move at hQ
    rw [if_neg (by rw [h0]; simp)] at hQ
    obtain ⟨i,rfl,hi⟩:=RA h0
    rw [RC hi] at hQ
    have hrl:=h.rlen
    have h64:=h.r64
    have hm:s.row[i]∈s.row:=List.getElem_mem hi
    simp only [Int.toNat_natCast] at hQ
    have hperm:∀ m,(s.row.eraseIdx i++[s.row[i]]).count m=s.row.count m:=by
      intro m
      rw [List.count_append,PV hi,List.count_singleton]
      by_cases e:m=s.row[i]
      · subst e
        have:=List.count_pos_iff.2 hm
        simp
      · have:(s.row[i]==m)=false:=by simpa using fun e':s.row[i]=m=>e e'.symm
        simp [this,e]
    have hmem:∀ m∈s.row.eraseIdx i++[s.row[i]],m∈s.row:=fun m hm'=>by
      rw [←List.count_pos_iff,←hperm m,List.count_pos_iff]; exact hm'
    have hlen:(s.row.eraseIdx i++[s.row[i]]).length=s.row.length:=by simp only [List.length_append,List.length_eraseIdx,hi,if_true,List.length_singleton]; omega
    refine AO (by omega) (x:=((s.row[i]:Nat):Int)) (by simpa using cG h hi) (mR (by rw [h.row]; simpa using hi) (by rw [h.row]; simp; omega) (BG ?_ ?_))
    · rw [h.row]; simp [List.length_eraseIdx,hi]; omega
    · refine hQ _ ⟨⟨h.room,?_,h.taken,fun m hm'=>h.lt m (hmem m hm'),fun m hm'=>h.by_ m (hmem m hm'),h.byk,fun m=>by rw [hperm]; exact h.often m,h.oftk,by rw [hlen]; exact h.rlen,h.r64,h.seq,h.flen,h.tk⟩,h.sent⟩
      simp only
      rw [h.row,UZ]; simp
theorem AgX {xs:List Int} {Q:Int→Prop} (h0:xs≠[]) (hl:xs.length≤1000000) (hQ:∀ m,m∈xs→(∀ x∈xs,m≤x)→Q m):IQ xs Q:=by
  unfold IQ
  have hlen:0<xs.length:=List.length_pos_iff.2 h0
  refine AC (fun h=>by omega) (fun _=>AO (by omega) (x:=xs[0]) (by simp [hlen]) ?_)
  refine EB (fun s:Int×Int=>∃ i:Nat,s.2=i∧1≤i∧i≤xs.length∧s.1∈xs∧∀ (j:Nat) (hj:j<i) (hjl:j<xs.length),s.1≤xs[j]) (fun s=>xs.length - s.2.toNat) ⟨1,rfl,by omega,by omega,List.getElem_mem _,fun j hj hjl=>by
    have:j=0:=by omega
    subst this; exact Int.le_refl _⟩ ?_
  rintro ⟨s1,s2⟩ next ⟨i,hi,h1,hil,hmem,hle⟩ hnext
  simp only at hi hmem hle
  subst hi
  refine AC (fun h=>?_) (fun h=>hQ s1 hmem fun x hx=>?_)
  · have hlt:i<xs.length:=by omega
    refine AO (by omega) (x:=xs[i]) (by simp [hlt]) (hnext _ ⟨i+1,?_,by omega,by omega,?_,?_⟩ ?_)
    · simp only; rw [AX (by omega) (by omega)]; simp
    · simp only; split
      · exact List.getElem_mem _
      · exact hmem
    · intro j hj hjl
      simp only
      by_cases e:j=i
      · subst e; split <;> omega
      · have:=hle j (by omega) hjl
        split <;> omega
    · simp only; rw [AX (by omega) (by omega)]; omega
  · obtain ⟨j,hj,rfl⟩:=List.getElem_of_mem hx
    exact hle j (by omega) hj
theorem Ad3 {xs:List Int} {m:Int} {Q:Int→Prop} (hl:xs.length≤1000000) (hm:m∈xs) (hQ:∀ (i:Nat) (hi:i<xs.length),xs[i]=m→(∀ (j:Nat) (hj:j<i) (hjl:j<xs.length),xs[j]≠m)→Q i):EA xs m Q:=by
  unfold EA JJ
  refine EB (fun s:Int=>∃ i:Nat,s=i∧i≤xs.length∧∀ (j:Nat) (hj:j<i) (hjl:j<xs.length),xs[j]≠m) (fun s=>xs.length - s.toNat) ⟨0,rfl,by omega,fun j hj=>by omega⟩ ?_
  rintro _ next ⟨i,rfl,hil,hne⟩ hnext
  refine AC (fun h=>?_) (fun h=>?_)
  · have hlt:i<xs.length:=by omega
    refine AO (by omega) (x:=xs[i]) (by simp [hlt]) (CU (fun e=>hQ i hlt e hne) (fun e=>hnext _ ⟨i+1,by rw [AX (by omega) (by omega)]; simp,by omega,?_⟩ ?_))
    · intro j hj hjl
      by_cases ej:j=i
      · subst ej; exact e
      · exact hne j (by omega) hjl
    · rw [AX (by omega) (by omega)]; omega
  · exfalso
    obtain ⟨j,hj,rfl⟩:=List.getElem_of_mem hm
    exact hne j (by omega) hj rfl
theorem Ad4 {Q:Int→Prop} (h:ZE b s) (hQ:Q (s.row.length:Int)):HS b Q:=by
  unfold HS; rw [h.row]; simpa using hQ
theorem AaK {l:List Nat} {i:Nat} (hi:i<l.length) (h1:∀ n∈l,l[i]≤n) (h2:∀ (j:Nat) (hj:j<i) (hjl:j<l.length),l[j]≠l[i]):QZ l=i:=by
  unfold QZ
  rw [List.findIdx_eq hi]
  refine ⟨by simpa using h1,fun j hj=>?_⟩
  have:=h2 j hj (by omega)
  have h3:=h1 l[j] (List.getElem_mem _)
  rw [Bool.eq_false_iff]
  intro h4
  have h5:=List.all_eq_true.1 h4 l[i] (List.getElem_mem _)
  simp at h5
  omega
theorem sY {l:List Nat} (h:l≠[]):∃ hi:QZ l<l.length,(∀ n∈l,l[QZ l]≤n):=by
  have hex:∃ m∈l,∀ n∈l,m≤n:=by
    induction l with
    | nil=>exact absurd rfl h
    | cons x r ih=>
      by_cases hr:r=[]
      · subst hr; exact ⟨x,by simp,by simp⟩
      · obtain ⟨m,hm,hmin⟩:=ih hr
        rcases Nat.le_total x m with hx | hx
        · exact ⟨x, by simp, fun n hn => by rcases List.mem_cons.1 hn with rfl | hn; · exact Nat.le_refl _
                                            · exact Nat.le_trans hx (hmin n hn)⟩
        · exact ⟨m, by simp [hm], fun n hn => by rcases List.mem_cons.1 hn with rfl | hn; · exact hx
                                                 · exact hmin n hn⟩
  obtain ⟨m,hm,hmin⟩:=hex
  have hp:l.findIdx (fun n=>l.all fun m=>decide (n≤m))<l.length:=List.findIdx_lt_length_of_exists ⟨m,hm,by simpa using hmin⟩
  refine ⟨hp,fun n hn=>?_⟩
  have:=List.findIdx_getElem (w:=hp)
  have:=List.all_eq_true.1 this n hn
  simpa [QZ] using this
theorem AaL {Q:Int→Prop} (h:ZE b s) (hQ:Q s.oldest):HL b Q:=by
  unfold HL
  have hrl:=h.rlen
  have h64:=h.r64
  have hbl:b.row.length=s.row.length:=by rw [h.row]; simp
  unfold Abs.oldest at hQ
  refine Ad4 h (CU (fun h0=>?_) (fun h0=>AgX (fun e=>?_) (by omega) fun m hm hmin=>Ad3 (by omega) hm fun i hi hxi hfirst=>?_))
  · rwa [if_pos (by omega)] at hQ
  · rw [e] at hbl; simp at hbl; omega
  · rw [if_neg (by omega)] at hQ
    have hi':i<s.row.length:=by omega
    have hget:∀ (j:Nat) (hj:j<b.row.length) (hj':j<s.row.length),b.row[j]=((s.row[j]:Nat):Int):=by
      intro j hj hj'
      have:=cG h hj'
      rw [List.getElem?_eq_getElem hj] at this
      exact Option.some.inj this
    rw [AaK hi' (fun n hn=>?_) (fun j hj hjl=>?_)] at hQ
    · exact hQ
    · obtain ⟨j,hj,rfl⟩:=List.getElem_of_mem hn
      have:=hmin _ (List.getElem_mem (show j<b.row.length by omega))
      rw [←hxi,hget i hi hi',hget j (by omega) hj] at this
      omega
    · have:=hfirst j hj (by omega)
      rw [hget j (by omega) hjl,←hxi,hget i hi hi'] at this
      omega
theorem Af5 (n:Nat) (h:n≤64):ZE { room:=(n:Int),row:=([]:List Int),by_:=([]:List (Int×BL)),often:=([]:List (Int×Int)),sent:=0,taken:=0 } ⟨n,[],[],0⟩:=
  ⟨⟨rfl,rfl,rfl,by simp,by simp,by simp [EM],by simp [BM],by simp [EM],by simp,h,by simp,by simp,by simp⟩,rfl⟩
theorem AgY {a:Int} {Q0:Int→Prop} {Q1:(Int×AF)→Prop} (h0:¬(1≤a∧a≤64)→Q0 3) (h1:∀ (n:Nat) b,a=n→1≤n→n≤64→ZE b ⟨n,[],[],0⟩→Q1 (0,b)):QV a Q0 Q1:=by
  unfold QV
  refine AC (fun h=>h0 (by omega)) (fun h=>AC (fun h'=>h0 (by omega)) (fun h'=>?_))
  refine h1 a.toNat _ (by omega) (by omega) (by omega) ?_
  have:=Af5 a.toNat (by omega)
  rwa [show ((a.toNat:Nat):Int)=a by omega] at this
theorem GI {σ:Type} {body:σ→(σ→Prop)→Prop} (Iv:Nat→σ→Prop) {m0:Nat} {s0:σ} (h0:Iv m0 s0) (h:∀ m s next,Iv m s→(∀ m' s',m'<m→Iv m' s'→next s')→body s next):BD body s0:=by
  have key:∀ k m s,Iv m s→m<k→NX body k s:=by
    intro k
    induction k with
    | zero=>intro m s _ hm; omega
    | succ k ih=>intro m s hI hm; exact h m s _ hI fun m' s' hm' hI'=>ih m' s' hI' (by omega)
  exact ⟨m0+1,key _ _ _ h0 (by omega)⟩
section bank
variable {α:Type} {xs:List (Nat×α)} {b b':Nat} {x:α}
theorem mS:BM b ((b,x) :: CG b xs)=some x:=by simp [BM]
theorem jK (h:b'≠b):BM b' ((b,x) :: CG b xs)=BM b' xs:=by
  rw [←ER h xs]
  simp [BM,h]
theorem WK {ys:List (Nat×α)}:BM b ((b,x) :: ys)=some x:=by simp [BM]
theorem fL {ys:List (Nat×α)} (h:b'≠b):BM b' ((b,x) :: ys)=BM b' ys:=by simp [BM,h]
end bank
structure Wk where
  out:List BL
  gl:Nat→Bool
  gr:Nat→Bool
  at_:Nat
structure MS where
  w:Nat→Wk
  bx:Nat→Nat→Abs
def DV (m:MS) (k:Nat) (a:Wk):MS:={ m with w:=fun i=>if i=k then a else m.w i }
def CW (m:MS) (f t:Nat) (a:Abs):MS:={ m with bx:=fun i j=>if i=f∧j=t then a else m.bx i j }
structure WL where
  p:BQ
  S:List BC
  n:Nat
  adr:Nat→Nat
  wi:Nat→Int
  wj:Nat→Int
  mask:Nat→Rows
  room:Nat
  LA:Nat→Nat→List AD
  RB:Nat→Nat→List AD
  has:Nat→Nat→List AK
def empty (c:WL):Abs:=⟨c.room,[],[],0⟩
structure Af6 (c:WL) (k:Nat) (a:Wk) (x:AA):Prop where
  i:x.i=c.wi k
  j:x.j=c.wj k
  mask:x.mask=c.mask k
  out:x.out=a.out
  at_:x.at_=(a.at_:Int)
  le:a.at_≤c.S.length
  has:x.has=c.has k a.at_
  l:∀ s,a.at_≤s→BM ({ kind:=6,stage:=(s:Int) }:AY) x.parts=if a.gl s then some (c.LA k s) else none
  r:∀ s,a.at_≤s→BM ({ kind:=7,stage:=(s:Int) }:AY) x.parts=if a.gr s then some (c.RB k s) else none
structure Rep (c:WL) (m:MS) (o0:AB) (o1:List (Nat×AA)) (o2:List (Nat×AF)):Prop where
  p:o0.p=c.p
  S:o0.stages=c.S
  ws:o0.workers=(List.range c.n).map fun k=>some (c.adr k)
  wk:∀ k<c.n,∃ x,BM (c.adr k) o1=some x∧Af6 c k (m.w k) x
  no:∀ f t:Nat,BM ((f:Int),(t:Int)) o0.boxes=none→m.bx f t=empty c
  nn:∀ q,BM q o0.boxes≠some none
  bx:∀ (f t:Nat) b,BM ((f:Int),(t:Int)) o0.boxes=some (some b)→∃ pb,BM b o2=some pb∧ZE pb (m.bx f t)
  inj:∀ q q' b,BM q o0.boxes=some (some b)→BM q' o0.boxes=some (some b)→q=q'
  ks:EM o0.boxes
  kr:∀ q∈o0.boxes.map (·.1),∃ f t:Nat,f<c.n∧t<c.n∧q=((f:Int),(t:Int))
structure fY (c:WL):Prop where
  n:c.n≤64
  room:c.p.Room=(c.room:Int)
  r1:1≤c.room
  r64:c.room≤64
  S:c.S.length≤64
  inj:∀ i j,i<c.n→j<c.n→c.adr i=c.adr j→i=j
variable {c:WL} {m:MS} {o0:AB} {o1 o1x:List (Nat×AA)} {o2:List (Nat×AF)}
theorem Rep.len (h:Rep c m o0 o1 o2):o0.workers.length=c.n:=by rw [h.ws]; simp
theorem Rep.get (h:Rep c m o0 o1 o2) {k:Nat} (hk:k<c.n):o0.workers[((k:Int)).toNat]? = some (some (c.adr k)):=by
  rw [h.ws]; simp [hk]
theorem jL (h:Rep c m o0 o1 o2) {a:Int} {Q:Bool→Prop} (hQ:Q (decide (0≤a∧a<c.n))):DW o0 o1x a Q:=by
  unfold DW
  rw [h.len]
  refine AC (fun h1=>?_) (fun h1=>?_)
  · simpa [h1] using hQ
  · simpa [h1] using hQ
theorem Rep.setB (hc:fY c) (h:Rep c m o0 o1 o2) {f t:Nat} {b:Nat} {pb:AF} {a:Abs} (hk:BM ((f:Int),(t:Int)) o0.boxes=some (some b)) (hi:ZE pb a):Rep c (CW m f t a) o0 o1 ((b,pb) :: CG b o2):=by
  refine ⟨h.p,h.S,h.ws,h.wk,?_,h.nn,?_,h.inj,h.ks,h.kr⟩
  · intro f' t' hn
    have:¬(f'=f∧t'=t):=by rintro ⟨rfl,rfl⟩; rw [hk] at hn; cases hn
    simp only [CW,if_neg this]
    exact h.no f' t' hn
  · intro f' t' b' hb
    by_cases e:f'=f∧t'=t
    · obtain ⟨rfl,rfl⟩:=e
      rw [hk] at hb
      cases hb
      exact ⟨pb,mS,by simpa [CW] using hi⟩
    · have hne:b'≠b:=by
        rintro rfl
        have:=h.inj _ _ _ hb hk
        simp only [Prod.mk.injEq] at this
        exact e ⟨by omega,by omega⟩
      obtain ⟨pb',h1,h2⟩:=h.bx f' t' b' hb
      exact ⟨pb',by rw [jK hne]; exact h1,by simpa [CW,if_neg e] using h2⟩
theorem Rep.setW (hc:fY c) (h:Rep c m o0 o1 o2) {k:Nat} (hk:k<c.n) {a:Wk} {x:AA} (hx:Af6 c k a x):Rep c (DV m k a) o0 ((c.adr k,x) :: CG (c.adr k) o1) o2:=by
  refine ⟨h.p,h.S,h.ws,?_,h.no,h.nn,h.bx,h.inj,h.ks,h.kr⟩
  intro i hi
  by_cases e:i=k
  · subst e; exact ⟨x,mS,by simpa [DV] using hx⟩
  · obtain ⟨y,h1,h2⟩:=h.wk i hi
    exact ⟨y,by rw [jK fun e'=>e (hc.inj _ _ hi hk e')]; exact h1,by simpa [DV,e] using h2⟩
def Ext (o o':AB):Prop:=∀ q b,BM q o.boxes=some (some b)→BM q o'.boxes=some (some b)
theorem Ext.refl (o:AB):Ext o o:=fun _ _ h=>h
theorem Ext.trans {a b d:AB} (h:Ext a b) (h':Ext b d):Ext a d:=fun q x hx=>h' q x (h q x hx)
theorem pK {f t:Int} {Q0:(AB×List (Nat×AF))→Prop} {Q1:(Option Nat×AB×List (Nat×AF))→Prop} (h:Rep c m o0 o1 o2) (hn:¬((0≤f∧f<c.n)∧(0≤t∧t<c.n))) (hQ:Q0 (o0,o2)):CH o0 o1x o2 f t Q0 Q1:=by
  unfold CH
  refine jL h (CO (fun _=>hQ) (fun h1=>jL h (CO (fun _=>hQ) (fun h2=>?_))))
  exact absurd ⟨of_decide_eq_true h1,of_decide_eq_true h2⟩ hn
theorem pL (hc:fY c) (h:Rep c m o0 o1 o2) {f t:Nat} (hf:f<c.n) (ht:t<c.n) {Q0:(AB×List (Nat×AF))→Prop} {Q1:(Option Nat×AB×List (Nat×AF))→Prop}
    (hQ:∀ b pb o0' o2',Rep c m o0' o1 o2'→Ext o0 o0'→BM ((f:Int),(t:Int)) o0'.boxes=some (some b)→BM b o2'=some pb→ZE pb (m.bx f t)→Q1 (some b,o0',o2')):CH o0 o1x o2 f t Q0 Q1:=by
  unfold CH
  refine jL h (CO (fun h1=>absurd h1 (by simp; omega)) (fun _=>jL h (CO (fun h1=>absurd h1 (by simp; omega)) (fun _=>KK ?_))))
  cases hg:BM ((f:Int),(t:Int)) o0.boxes with
  | none=>
    refine BF rfl (AgY (fun hr=>?_) (fun n b hn h1 h64 hi b' hb'=>KK ?_))
    · exact absurd hr (by rw [h.p,hc.room]; have:=hc.r1; have:=hc.r64; omega)
    · rw [BN]
      have hroom:n=c.room:=by have:=hc.room; rw [←h.p,hn] at this; omega
      subst hroom
      refine hQ b' b _ _ ⟨h.p,h.S,h.ws,h.wk,?_,?_,?_,?_,GS h.ks _ _,?_⟩ (fun q b2 hq=>?_) (BN _ _ _) WK (by rw [h.no f t hg]; exact hi)
      · intro f' t' hn'
        by_cases e:((f':Int),(t':Int))=((f:Int),(t:Int))
        · simp only at hn'; rw [e,BN] at hn'; cases hn'
        · exact h.no f' t' (by rwa [BE e] at hn')
      · intro q hq
        by_cases e:q=((f:Int),(t:Int))
        · subst e; simp only at hq; rw [BN] at hq; cases hq
        · exact h.nn q (by rwa [BE e] at hq)
      · intro f' t' b2 hb2
        by_cases e:((f':Int),(t':Int))=((f:Int),(t:Int))
        · simp only at hb2
          rw [e,BN] at hb2
          cases hb2
          simp only [Prod.mk.injEq] at e
          have e1:f'=f:=by omega
          have e2:t'=t:=by omega
          subst e1 e2
          exact ⟨b,WK,by rw [h.no f' t' hg]; exact hi⟩
        · simp only at hb2
          rw [BE e] at hb2
          obtain ⟨pb,h3,h4⟩:=h.bx f' t' b2 hb2
          refine ⟨pb,?_,h4⟩
          rw [fL (by rintro rfl; rw [hb'] at h3; cases h3)]; exact h3
      · intro q q' b2 hq hq'
        simp only at hq hq'
        have old:∀ {z},z≠((f:Int),(t:Int))→BM z (EE ((f:Int),(t:Int)) (some b') o0.boxes)=some (some b2)→b2≠b':=by
          intro z hz hz'
          rw [BE hz] at hz'
          have hzm:=mget_mem hz'
          obtain ⟨f1,t1,_,_,rfl⟩:=h.kr z hzm
          obtain ⟨pb,h3,_⟩:=h.bx f1 t1 b2 hz'
          rintro rfl
          rw [hb'] at h3; cases h3
        by_cases e:q=((f:Int),(t:Int))
        · by_cases e':q'=((f:Int),(t:Int))
          · rw [e,e']
          · exfalso
            rw [e,BN] at hq
            cases hq
            exact old e' hq' rfl
        · by_cases e':q'=((f:Int),(t:Int))
          · exfalso
            rw [e',BN] at hq'
            cases hq'
            exact old e hq rfl
          · rw [BE e] at hq
            rw [BE e'] at hq'
            exact h.inj q q' b2 hq hq'
      · intro q hq
        rw [show (({ p:=o0.p,stages:=o0.stages,workers:=o0.workers,boxes:=(EE ((f:Int),(t:Int)) (some b') o0.boxes) }:AB)).boxes=EE ((f:Int),(t:Int)) (some b') o0.boxes from rfl,dM] at hq
        split at hq
        · exact h.kr q hq
        · rcases List.mem_append.1 hq with hq | hq
          · exact h.kr q hq
          · rw [List.mem_singleton] at hq; exact ⟨f,t,hf,ht,hq⟩
      · show BM q (EE ((f:Int),(t:Int)) (some b') o0.boxes)=_
        rw [BE (by rintro rfl; rw [hg] at hq; cases hq)]; exact hq
  | some v=>
    cases v with
    | none=>exact absurd hg (h.nn _)
    | some b=>
      obtain ⟨pb,h1,h2⟩:=h.bx f t b hg
      refine AN rfl (KK ?_)
      rw [hg]
      exact hQ b pb _ _ h (Ext.refl _) hg h1 h2
end Go.Proofs.YtbohadngdkjljaaGreat
