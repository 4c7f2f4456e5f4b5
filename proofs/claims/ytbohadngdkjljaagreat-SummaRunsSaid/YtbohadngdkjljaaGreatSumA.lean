import Derived.Test.YtbohadngdkjljaaGreatT
import Derived.Test.YtbohadngdkjljaaGreatFwP
import Derived.Test.YtbohadngdkjljaaGreatFwQ
import Derived.Test.YtbohadngdkjljaaGreatBlkA
namespace Go.Proofs.YtbohadngdkjljaaGreat
open Go Go.Fw
set_option linter.unusedVariables false
set_option linter.unusedSimpArgs false
theorem hF {P:Prop} [Decidable P] {b:Bool} {Q:Bool→Prop} (D:Q (decide P)) (h:b=true↔P):Q b:=by
 have:decide P=b:=by rw [Bool.eq_iff_iff,decide_eq_true_iff]; exact h.symm
 rwa [this] at D
theorem S3 {n k:Int} {Q:Bool→Prop} (h:Q (decide (PH n k))):Q7 n k Q:=by
 unfold Q7 NE
 refine A0 (fun a=>A0 (fun b=>A0 (fun c=>hF h ?_) (fun c=>hF h ?_)) (fun b=>hF h ?_)) (fun a=>hF h ?_) <;> (unfold PH; simp; omega)
theorem PI {n k:Int} {Q:Bool→Prop} (h:Q (decide (PH n k))):NH n k Q:=by
 unfold NH
 refine A0 (fun a=>A0 (fun b=>A0 (fun c=>hF h ?_) (fun c=>hF h ?_)) (fun b=>hF h ?_)) (fun a=>hF h ?_) <;> (unfold PH; simp; omega)
theorem HU {n k i:Int} {Q:Int→Prop} (J:Q (BU n k i)):FK n k i Q:=by
 unfold FK
 unfold BU at J
 refine S3 (BN (fun h=>?_) (fun h=>?_))
 · rwa [if_neg (of_decide_eq_false h)] at J
 · have D:=of_decide_eq_true h
   rw [if_pos D] at J
   have e:(if k<(if 0 > i then 0 else i) then k else (if 0 > i then 0 else i))=jE i k:=by
    unfold jE; have:=D.2; split <;> split <;> (try split) <;> (try split) <;> omega
   rw [e]
   have G:=Ac6 D.2 D.1 (Ac5 (i:=i) D.2.1)
   have hk:=D.2
   refine ⟨by omega,?_⟩
   rw [AH (x:=jE i k*n) (by omega) (by omega),Int.tdiv_eq_ediv_of_nonneg G.1]
   have h1:0≤jE i k*n / k:=Int.ediv_nonneg G.1 (by omega)
   have h2:jE i k*n / k≤jE i k*n:=Int.ediv_le_self _ G.1
   rwa [AH (by omega) (by omega)]
theorem EQ {n k i:Int} {Q:Int→Prop} (D:Q (BU n k i)):EN n k i Q:=by
 unfold EN
 refine PI (BN (fun h=>?_) (fun h=>?_))
 · unfold BU at D; rwa [if_neg (of_decide_eq_false h)] at D
 · have G:=of_decide_eq_true h
   have hk:=G.2
   refine A0 (fun hi=>?_) (fun hi=>A0 (fun O=>?_) (fun O=>⟨by omega,?_⟩))
   · rwa [Ab5 (by omega)] at D
   · have e:BU n k i=n:=by
      unfold BU jE
      rw [if_pos G,if_neg hi]
      split
      · rw [Int.mul_comm,Int.mul_ediv_cancel _ (by omega)]
      · rw [show i=k by omega,Int.mul_comm,Int.mul_ediv_cancel _ (by omega)]
     rwa [e] at D
   · unfold BU jE at D
     rw [if_pos G,if_neg hi,if_neg (by omega)] at D
     have J:=Ac6 hk G.1 (i:=i) ⟨by omega,by omega⟩
     rw [AH (x:=i*n) (by omega) (by omega),Int.tdiv_eq_ediv_of_nonneg J.1]
     have h1:0≤i*n / k:=Int.ediv_nonneg J.1 (by omega)
     have h2:i*n / k≤i*n:=Int.ediv_le_self _ J.1
     rwa [AH (by omega) (by omega)]
theorem zF {n k i:Int} (h0:0≤i) (h:i<k):BU n k (A7 (i+1))=BU n k (i+1):=by
 by_cases hm:PH n k
 · have:=hm.2
   rw [AH (by omega) (by omega)]
 · unfold BU; rw [if_neg hm,if_neg hm]
def NA (k:Int):Prop:=1≤k∧k≤8
instance (k:Int):Decidable (NA k):=by unfold NA; infer_instance
def dJ (r c i j:Int):Prop:=(NA r∧NA c)∧(0≤i∧i<r)∧0≤j∧j<c
instance (r c i j:Int):Decidable (dJ r c i j):=by unfold dJ; infer_instance
theorem Y0 {k:Int} {Q:Bool→Prop} (h:Q (decide (NA k))):Q8 k Q:=by
 unfold Q8
 refine A0 (fun a=>hF h ?_) (fun a=>hF h ?_) <;> (unfold NA; simp; omega)
theorem iG {r c i j:Int} {Q:Bool→Prop} (h:Q (decide (dJ r c i j))):TL r c i j Q:=by
 unfold TL
 refine Y0 (A0 (fun a=>Y0 (A0 (fun b=>A0 (fun d=>A0 (fun e=>A0 (fun f=>hF h ?_) (fun f=>hF h ?_)) (fun e=>hF h ?_)) (fun d=>hF h ?_)) (fun b=>hF h ?_))) (fun a=>hF h ?_)) <;> (unfold dJ; unfold NA at *; simp only [Bool.false_eq_true,decide_eq_true_eq,false_iff]; omega)
theorem fX {r c:Int} {Q:Bool→Prop} (h:Q (decide (NA r∧NA c))):RT r c Q:=by
 unfold RT
 refine A0 (fun a=>A0 (fun b=>A0 (fun d=>hF h ?_) (fun d=>hF h ?_)) (fun b=>hF h ?_)) (fun a=>hF h ?_) <;> (unfold NA; simp; omega)
theorem UR {n k i:Int} {Q:Int×Int→Prop} (G:0≤i) (h:i<k) (D:Q (BU n k i,BU n k (i+1))):MF n k i Q:=by
 unfold MF
 refine HU (HU ?_)
 rw [zF G h]; exact D
def vP (rows cols:Int) (T:List A1) (r c i j:Int):Rows:=if dJ r c i j then bS rows cols T (BU rows r i,BU rows r (i+1)) (BU cols c j,BU cols c (j+1)) else B0 0 0 []
theorem AbA:S0 zR=B0 0 0 []:=if_neg xT
theorem zG:bS 0 0 [] (0,0) (0,0)=B0 0 0 []:=by decide
theorem mB {Q:Rows→Prop} (h:Q (B0 0 0 [])):LC zR (0,0) (0,0) Q:=by
 refine TZ oH AbA oE ?_
 rw [zG]; exact h
theorem T7 {Q:Rows→Prop} (h:Q (B0 0 0 [])):DB 0 0 Q:=by
 unfold DB
 exact ⟨by decide,by decide,h⟩
theorem mC {rows cols r c i j:Int} {T:List A1} {Q:Rows→Prop} (h:Canon rows cols T) (G:Q (vP rows cols T r c i j)):PR (B0 rows cols T) r c i j Q:=by
 unfold PR
 unfold vP at G
 refine ZR h.sml ?_
 rw [decide_eq_true h.right]
 refine AC rfl (iG (BN (fun D=>?_) (fun D=>?_)))
 · rw [if_neg (of_decide_eq_false D)] at G
   exact mB G
 · have D:=of_decide_eq_true D
   rw [if_pos D] at G
   exact UR D.2.1.1 D.2.1.2 (UR D.2.2.1 D.2.2.2 (TZ h.sml (D4 h) h G))
theorem mD {rows cols r c i j:Int} {T:List A1} {Q:Rows→Prop} (h:Canon rows cols T) (O:Q (vP rows cols T r c i j)):PT (B0 rows cols T) r c i j Q:=by
 unfold PT
 unfold vP at O
 refine TX h.sml ?_
 rw [decide_eq_true h.right]
 have D:¬dJ r c i j→Q (B0 0 0 []):=fun G=>by rwa [if_neg G] at O
 refine AC rfl (fX (BN (fun J=>T7 (D fun G=>of_decide_eq_false J G.1)) (fun J=>?_)))
 have J:=of_decide_eq_true J
 refine A0 (fun a=>T7 (D fun G=>by have:=G.2; omega)) (fun a=>A0 (fun b=>T7 (D fun G=>by have:=G.2; omega)) (fun b=>A0 (fun d=>T7 (D fun G=>by have:=G.2; omega)) (fun d=>A0 (fun e=>T7 (D fun G=>by have:=G.2; omega)) (fun e=>?_))))
 rw [if_pos ⟨J,by omega,by omega⟩] at O
 refine EQ (EQ (EQ (EQ ?_)))
 rw [zF (by omega) (by omega),zF (by omega) (by omega)]
 exact YJ h.sml (D4 h) h O
def MV (a:Rows):Prop:=a.Start.length≤1000000000000∧a.Col.length≤1000000000000
theorem PY {a:Rows} {Q:Bool→Prop} (G:MV a) (J:Q (decide (G4 a))):HC a Q:=by
 by_cases hv:a.Val.length=a.Col.length
 · exact ZR ⟨G.1,G.2,by have:=G.2; omega⟩ J
 · have D:Q false:=by rwa [decide_eq_false (fun h=>hv h.vl)] at J
   unfold HC
   exact IM (BN (fun _=>D) (fun _=>IM (BN (fun _=>D) (fun _=>CB (fun _=>D) (fun _=>CB (fun _=>D) (fun h=>absurd (by omega) hv))))))
theorem IP {a:Rows} {Q:Bool→Prop} (G:MV a) (J:Q (decide (G4 a))):FS a Q:=by
 by_cases hv:a.Val.length=a.Col.length
 · exact TX ⟨G.1,G.2,by have:=G.2; omega⟩ J
 · have D:Q false:=by rwa [decide_eq_false (fun h=>hv h.vl)] at J
   unfold FS
   exact A0 (fun _=>D) (fun _=>A0 (fun _=>D) (fun _=>A0 (fun _=>D) (fun _=>A0 (fun _=>D) (fun _=>CB (fun _=>D) (fun _=>CB (fun _=>D) (fun h=>absurd (by omega) hv))))))
theorem aJ {k:Int} {Q:Bool→Prop} (h:Q (decide (NA k))):NE k Q:=by
 unfold NE
 refine A0 (fun a=>hF h ?_) (fun a=>hF h ?_) <;> (unfold NA; simp; omega)
theorem dK {c k:Nat} {Q:Int→Prop} (G:NA c) (hk:k<8*c) (O:Q ((k / c:Nat):Int)):SU c k Q:=by
 unfold SU
 refine aJ ?_
 rw [decide_eq_true G]
 have D:=G
 unfold NA at D
 refine AC rfl (A0 (fun h=>by omega) (fun _=>?_))
 rw [AH (x:=(c:Int)*8) (by omega) (by omega)]
 refine A0 (fun h=>by omega) (fun _=>⟨by omega,?_⟩)
 rw [Int.tdiv_eq_ediv_of_nonneg (by omega),←Int.natCast_ediv]
 have J:k / c≤k:=Nat.div_le_self _ _
 generalize k / c=q at J O ⊢
 rwa [AH (by omega) (by omega)]
theorem pD {c k:Nat} {Q:Int→Prop} (G:NA c) (hk:k<8*c) (hQ:Q ((k % c:Nat):Int)):V7 c k Q:=by
 unfold V7
 have D:=G
 unfold NA at D
 refine dK G hk (A0 (fun h=>absurd h (Int.not_lt.2 (Int.natCast_nonneg _))) (fun _=>⟨by omega,?_⟩))
 rwa [Int.tmod_eq_emod_of_nonneg (by omega),←Int.natCast_emod]
structure Abs where
 room:Nat
 row:List Nat
 fs:List AM
 taken:Nat
def U6 (f:AM):Prop:=f.Vec.Items=[]∧f.Sums=[]∧f.Triples.length≤1000000000
structure Inv0 (b:AZ) (s:Abs):Prop where
 room:b.room=s.room
 row:b.row=s.row.map (fun n:Nat=>(n:Int))
 taken:b.taken=s.taken
 lt:∀ n∈s.row,n<s.fs.length
 by_:∀ n∈s.row,BK (n:Int) b.by_=s.fs[n]?
 byk:FD b.by_
 often:∀ n:Nat,BK (n:Int) b.often=if s.row.count n=0 then none else some (s.row.count n:Int)
 oftk:FD b.often
 rlen:s.row.length≤s.room
 r64:s.room≤64
 seq:∀ (i:Nat) (f:AM),s.fs[i]? = some f→f.Seq=i∧U6 f
 flen:s.fs.length≤1000000
 tk:s.taken≤s.fs.length
structure XD (b:AZ) (s:Abs):Prop extends Inv0 b s where
 sent:b.sent=s.fs.length
def zf:AM:={ Kind:=0,From:=0,To:=0,Seq:=0,Round:=0,Vec:={ N:=0,Items:=[] },Sums:=[],Triples:=[],N:=0,Over:=false }
def Abs.fullB (s:Abs):Bool:=decide (s.room≤s.row.length)
def Abs.send (s:Abs) (f:AM):Int×Abs:=if s.fullB then (9,s) else (0,{ s with row:=s.row++[s.fs.length],fs:=s.fs++[{ f with Seq:=s.fs.length }] })
def Abs.at (s:Abs) (k:Int):Int:=if k<0 then 3 else if (s.row.length:Int)≤k then 3 else 0
def Abs.num (s:Abs) (k:Int):Nat:=s.row.getD k.toNat 0
def Abs.double (s:Abs) (k:Int):Int×Abs:=if s.at k≠0 then (s.at k,s) else if s.fullB then (9,s) else (0,{ s with row:=s.row++[s.num k] })
def Abs.move (s:Abs) (k:Int):Int×Abs:=if s.at k≠0 then (s.at k,s) else (0,{ s with row:=s.row.eraseIdx k.toNat++[s.num k] })
def Abs.take (s:Abs) (k:Int):AM×Bool×Int×Abs:=
 if s.at k≠0 then (zf,false,s.at k,s)
 else if s.taken<s.num k then (zf,false,0,s)
 else if s.num k<s.taken then (zf,false,0,{ s with row:=s.row.eraseIdx k.toNat })
 else (s.fs.getD (s.num k) zf,true,0,{ s with row:=s.row.eraseIdx k.toNat,taken:=s.taken+1 })
def mE (l:List Nat):Nat:=l.findIdx fun n=>l.all fun m=>decide (n≤m)
def Abs.oldest (s:Abs):Int:=if s.row.length=0 then -1 else mE s.row
variable {b:AZ} {s:Abs}
theorem zH {f:AM} {Q:AM→Prop} (h:U6 f) (G:Q f):V9 f Q:=by
 obtain ⟨J,U,V⟩:=h
 unfold V9 EM FF E0
 obtain ⟨K,F,T,S,R,⟨VN,VI⟩,Su,Tr,N,O⟩:=f
 simp only at J U V
 subst J U
 have e:∀ (X:List A1),([]:List A1)++X=X:=fun _=>rfl
 refine LP (fun _=>LP (fun _=>LP (fun D=>?_) (AQ ?_ ?_)) (AQ (by simp) (LP (fun D=>?_) (AQ ?_ ?_)))) (AQ (by simp) (LP (fun _=>LP (fun D=>?_) (AQ ?_ ?_)) (AQ (by simp) (LP (fun D=>?_) (AQ ?_ ?_)))))
 all_goals first
  | exact G
  | (subst D; exact G)
  | (simp only [List.length_nil]; omega)
theorem fY {Q:Bool→Prop} (h:XD b s) (D:Q s.fullB):GL b Q:=by
 unfold GL
 rw [h.room,h.row]
 simp only [List.length_map]
 have:decide ((s.room:Int)≤(s.row.length:Int))=s.fullB:=by unfold Abs.fullB; congr 1; simp
 rw [this]; exact D
theorem zI {k:Int} {Q:Int→Prop} (h:XD b s) (D:Q (s.at k)):G7 b k Q:=by
 unfold G7
 rw [h.row]
 simp only [List.length_map]
 unfold Abs.at at D
 refine A0 (fun G=>?_) (fun G=>A0 (fun J=>?_) (fun J=>?_))
 · rwa [if_pos G] at D
 · rwa [if_neg G,if_pos J] at D
 · rwa [if_neg G,if_neg J] at D
theorem LJ {k:Int} (h:s.at k=0):∃ i:Nat,k=i∧i<s.row.length:=by
 unfold Abs.at at h
 split at h
 · cases h
 · split at h
   · cases h
   · exact ⟨k.toNat,by omega,by omega⟩
theorem MW {i:Nat} (hi:i<s.row.length):s.num (i:Int)=s.row[i]:=by
 simp [Abs.num,hi]
theorem aK (h:XD b s) {i:Nat} (hi:i<s.row.length):b.row[i]? = some ((s.row[i]:Nat):Int):=by
 rw [h.row]; simp [hi]
theorem jV {n:Nat} {Q:AZ→Prop} (h:Inv0 b s) (O:s.fullB=false) (W:n<s.fs.length) (G:BK (n:Int) b.by_=s.fs[n]?) (V:∀ b',Inv0 b' { s with row:=s.row++[n] }→b'.sent=b.sent→Q b'):HF b (n:Int) Q:=by
 unfold HF
 have J:s.row.length<s.room:=by unfold Abs.fullB at O; simpa using O
 have Y:=h.r64
 refine AQ (by rw [h.row]; simp; omega) (K5 (V _ ?_ rfl))
 have hc:s.row.count n≤s.row.length:=List.count_le_length
 refine ⟨h.room,by rw [h.row]; simp,h.taken,?_,?_,h.byk,?_,GA h.oftk _ _,by simp; omega,h.r64,h.seq,h.flen,h.tk⟩
 · intro m D
   rcases List.mem_append.1 D with D | D
   · exact h.lt m D
   · rw [List.mem_singleton] at D; subst D; exact W
 · intro m D
   rcases List.mem_append.1 D with D | D
   · exact h.by_ m D
   · rw [List.mem_singleton] at D; subst D; exact G
 · intro m
   by_cases e:m=n
   · subst e
     rw [BG,h.often m]
     simp only [List.count_append,List.count_singleton_self]
     by_cases h0:s.row.count m=0
     · rw [h0]; decide
     · rw [if_neg h0,if_neg (by omega)]
       simp only [Option.getD_some]
       rw [AH (by omega) (by omega)]; simp
   · rw [BC (by omega),h.often m]
     simp only [List.count_append,List.count_singleton]
     have:(n==m)=false:=by simpa using fun U:n=m=>e U.symm
     simp [this]
theorem AbB {f:AM} {Q:(Int×AZ)→Prop} (h:XD b s) (Z:U6 f) (hlt:s.fs.length<1000000) (O:∀ b',XD b' (s.send f).2→Q ((s.send f).1,b')):J0 b f Q:=by
 unfold J0
 refine fY h ?_
 cases hf:s.fullB with
 | true=>refine AU rfl ?_; have:=O b; unfold Abs.send at this; rw [if_pos hf] at this; exact this h
 | false=>
  refine AC rfl (zH Z ?_)
  unfold Abs.send at O
  rw [hf] at O
  simp only [Bool.false_eq_true,if_false] at O
  have J:=h.sent
  rw [J]
  refine jV (s:={ s with fs:=s.fs++[{ f with Seq:=s.fs.length }] }) ?_ hf (by simp) ?_ ?_
  · refine ⟨h.room,h.row,h.taken,?_,?_,GA h.byk _ _,h.often,h.oftk,h.rlen,h.r64,?_,?_,?_⟩
    · intro n U; have:=h.lt n U; simp; omega
    · intro n U
      have W:=h.lt n U
      rw [BC (by omega),h.by_ n U,List.getElem?_append_left W]
    · intro i g G
      rcases Nat.lt_or_ge i s.fs.length with hi | hi
      · rw [List.getElem?_append_left hi] at G; exact h.seq i g G
      · rw [List.getElem?_append_right hi] at G
        cases hk:i - s.fs.length with
        | zero=>rw [hk] at G; cases G; exact ⟨by simp; omega,Z⟩
        | succ q=>rw [hk] at G; simp at G
    · simp; omega
    · have:=h.tk; simp; omega
  · simp [BG]
  · intro b' D Y
    refine O _ ⟨⟨D.room,D.row,D.taken,D.lt,D.by_,D.byk,D.often,D.oftk,D.rlen,D.r64,D.seq,D.flen,D.tk⟩,?_⟩
    have V:b'.sent=(s.fs.length:Int):=Y
    show A7 (b'.sent+1)=_
    rw [V,AH (by omega) (by omega)]
    simp
theorem vQ {k:Int} {Q:(Int×AZ)→Prop} (h:XD b s) (D:∀ b',XD b' (s.double k).2→Q ((s.double k).1,b')):H7 b k Q:=by
 unfold H7
 refine zI h (CB (fun G=>?_) (fun G=>fY h ?_))
 · have:=D b; unfold Abs.double at this; rw [if_pos G] at this; exact this h
 · unfold Abs.double at D
   rw [if_neg (by rw [G]; simp)] at D
   cases hf:s.fullB with
   | true=>refine AU rfl ?_; have:=D b; rw [if_pos hf] at this; exact this h
   | false=>
    rw [hf] at D
    simp only [Bool.false_eq_true,if_false] at D
    obtain ⟨i,rfl,hi⟩:=LJ G
    have J:s.row[i]∈s.row:=List.getElem_mem hi
    rw [MW hi] at D
    refine AC rfl (AA (by omega) (x:=((s.row[i]:Nat):Int)) (by simpa using aK h hi) (jV h.toInv0 hf (h.lt _ J) (h.by_ _ J) fun b' O U=>D b' ⟨O,U.trans h.sent⟩))
theorem O1 {α β:Type} (f:α→β):∀ (l:List α) (i:Nat),(l.map f).eraseIdx i=(l.eraseIdx i).map f
 | [],_=>rfl
 | _ :: _,0=>rfl
 | x :: r,i+1=>by simp [List.eraseIdx_cons_succ,O1 f r i]
theorem jW {xs:List Int} {i:Nat} {Q:List Int→Prop} (hi:i<xs.length) (hl:xs.length≤64) (hQ:Q (xs.eraseIdx i)):DK xs (i:Int) (A7 ((i:Int)+1)) Q:=by
 unfold DK
 rw [AH (by omega) (by omega)]
 have D:((i:Int)+1).toNat=i+1:=by omega
 refine ⟨by omega,by omega,by omega,BB (fun h=>by omega) (fun _=>⟨by omega,by omega,by omega,⟨by omega,by omega,by omega,?_⟩⟩)⟩
 simp only [Int.toNat_natCast,D]
 rwa [←List.eraseIdx_eq_take_drop_succ]
theorem OS {l:List Nat} {i:Nat} (hi:i<l.length) (m:Nat):(l.eraseIdx i).count m=if m=l[i] then l.count m - 1 else l.count m:=by
 have e:l=l.take i++l[i] :: l.drop (i+1):=by simp
 have G:(l.eraseIdx i).count m=(l.take i).count m+(l.drop (i+1)).count m:=by rw [List.eraseIdx_eq_take_drop_succ,List.count_append]
 have D:l.count m=(l.take i).count m+(l[i] :: l.drop (i+1)).count m:=by rw [←List.count_append,←e]
 rw [G,D,List.count_cons]
 by_cases hm:m=l[i]
 · subst hm; simp
 · have:(l[i]==m)=false:=by simpa using fun h:l[i]=m=>hm h.symm
   simp [this,hm]
theorem vR {i:Nat} {Q:(AM×AZ)→Prop} (h:XD b s) (hi:i<s.row.length) (Z:∀ b',XD b' { s with row:=s.row.eraseIdx i }→Q (s.fs.getD s.row[i] zf,b')):K9 b (i:Int) Q:=by
 unfold K9
 have V:s.row[i]∈s.row:=List.getElem_mem hi
 have hlt:=h.lt _ V
 have hcp:0<s.row.count s.row[i]:=List.count_pos_iff.2 V
 have hcl:s.row.count s.row[i]≤s.row.length:=List.count_le_length
 have hrl:=h.rlen
 have h64:=h.r64
 refine AA (by omega) (x:=((s.row[i]:Nat):Int)) (by simpa using aK h hi) (K5 ?_)
 rw [h.by_ _ V]
 refine jW (by rw [h.row]; simpa using hi) (by rw [h.row]; simp; omega) (K5 (K5 ?_))
 rw [BG,h.often,if_neg (by omega)]
 simp only [Option.getD_some]
 rw [AH (by omega) (by omega)]
 have O:(b.row.eraseIdx i)=(s.row.eraseIdx i).map (fun n:Nat=>(n:Int)):=by rw [h.row,O1]
 have U:(s.row.eraseIdx i).length≤s.room:=by rw [List.length_eraseIdx]; split <;> omega
 have G:∀ m∈s.row.eraseIdx i,m∈s.row:=fun m V=>(List.eraseIdx_sublist s.row i).mem V
 have W:(s.fs[s.row[i]]?).getD zf=s.fs.getD s.row[i] zf:=by simp
 rw [show ({ Kind:=0,From:=0,To:=0,Seq:=0,Round:=0,Vec:=({ N:=0,Items:=([]:List CO) }:Vec),Sums:=([]:List P9),Triples:=([]:List A1),N:=0,Over:=false }:AM)=zf from rfl,W]
 refine BB (fun h0=>?_) (fun h0=>?_)
 · have J:s.row.count s.row[i]=1:=by omega
   refine Z _ ⟨⟨h.room,O,h.taken,fun m D=>h.lt m (G m D),?_,cV h.byk _,?_,cV (GA h.oftk _ _) _,U,h.r64,h.seq,h.flen,h.tk⟩,h.sent⟩
   · intro m D
     have hne:m≠s.row[i]:=by
       intro e
       have h1:=List.count_pos_iff.2 D
       rw [OS hi,if_pos e,e,J] at h1
       omega
     rw [EG (by omega)]
     exact h.by_ m (G m D)
   · intro m
     rw [OS hi]
     by_cases e:m=s.row[i]
     · subst e
       rw [V6 (GA h.oftk _ _),if_pos rfl,J]; rfl
     · rw [EG (by omega),BC (by omega),h.often m,if_neg e]
 · have Y:s.row.count s.row[i]≠1:=by omega
   refine Z _ ⟨⟨h.room,O,h.taken,fun m D=>h.lt m (G m D),fun m D=>h.by_ m (G m D),h.byk,?_,GA h.oftk _ _,U,h.r64,h.seq,h.flen,h.tk⟩,h.sent⟩
   intro m
   rw [OS hi]
   by_cases e:m=s.row[i]
   · subst e
     rw [BG,if_pos rfl,if_neg (by omega)]
     congr 1; omega
   · rw [BC (by omega),h.often m,if_neg e]
theorem AbC {k:Int} {Q:(AM×Bool×Int×AZ)→Prop} (h:XD b s) (J:∀ b',XD b' (s.take k).2.2.2→Q ((s.take k).1,(s.take k).2.1,(s.take k).2.2.1,b')):J7 b k Q:=by
 unfold J7
 refine zI h (CB (fun V=>?_) (fun V=>?_))
 · have:=J b; unfold Abs.take at this; rw [if_pos V] at this; exact this h
 · unfold Abs.take at J
   rw [if_neg (by rw [V]; simp)] at J
   obtain ⟨i,rfl,hi⟩:=LJ V
   rw [MW hi] at J
   have hm:s.row[i]∈s.row:=List.getElem_mem hi
   have U:=h.lt _ hm
   have htk:=h.taken
   have Z:=h.flen
   refine AA (by omega) (x:=((s.row[i]:Nat):Int)) (by simpa using aK h hi) (A0 (fun h1=>?_) (fun h1=>vR h hi fun b' D=>?_))
   · have:=J b; rw [if_pos (by omega)] at this; rw [V]; exact this h
   · rw [if_neg (by omega)] at J
     have hg:s.fs[s.row[i]]? = some s.fs[s.row[i]]:=List.getElem?_eq_getElem U
     have O:=h.seq _ _ hg
     have W:s.fs.getD s.row[i] zf=s.fs[s.row[i]]:=by simp [U]
     simp only [Int.toNat_natCast] at J
     rw [W]
     rw [W] at J
     have G:=D.taken
     simp only at G
     refine A0 (fun Y=>?_) (fun Y=>zH O.2 ?_)
     · have:=J b'
       rw [O.1,G] at Y
       rw [if_pos (by omega)] at this
       exact this D
     · rw [O.1,G] at Y
       rw [if_neg (by omega)] at J
       refine J _ ⟨⟨D.room,D.row,?_,D.lt,D.by_,D.byk,D.often,D.oftk,D.rlen,D.r64,D.seq,D.flen,?_⟩,D.sent⟩
       · simp only; rw [G,AH (by omega) (by omega)]; simp
       · simp only; omega
theorem AbD {k:Int} {Q:(Int×AZ)→Prop} (h:XD b s) (O:∀ b',XD b' (s.move k).2→Q ((s.move k).1,b')):J9 b k Q:=by
 unfold J9
 refine zI h (CB (fun V=>?_) (fun V=>?_))
 · have:=O b; unfold Abs.move at this; rw [if_pos V] at this; exact this h
 · unfold Abs.move at O
   rw [if_neg (by rw [V]; simp)] at O
   obtain ⟨i,rfl,hi⟩:=LJ V
   rw [MW hi] at O
   have Y:=h.rlen
   have h64:=h.r64
   have Z:s.row[i]∈s.row:=List.getElem_mem hi
   simp only [Int.toNat_natCast] at O
   have D:∀ m,(s.row.eraseIdx i++[s.row[i]]).count m=s.row.count m:=by
     intro m
     rw [List.count_append,OS hi,List.count_singleton]
     by_cases e:m=s.row[i]
     · subst e
       have:=List.count_pos_iff.2 Z
       simp
     · have:(s.row[i]==m)=false:=by simpa using fun W:s.row[i]=m=>e W.symm
       simp [this,e]
   have J:∀ m∈s.row.eraseIdx i++[s.row[i]],m∈s.row:=fun m G=>by
     rw [←List.count_pos_iff,←D m,List.count_pos_iff]; exact G
   have U:(s.row.eraseIdx i++[s.row[i]]).length=s.row.length:=by simp only [List.length_append,List.length_eraseIdx,hi,if_true,List.length_singleton]; omega
   refine AA (by omega) (x:=((s.row[i]:Nat):Int)) (by simpa using aK h hi) (jW (by rw [h.row]; simpa using hi) (by rw [h.row]; simp; omega) (AQ ?_ ?_))
   · rw [h.row]; simp [List.length_eraseIdx,hi]; omega
   · refine O _ ⟨⟨h.room,?_,h.taken,fun m G=>h.lt m (J m G),fun m G=>h.by_ m (J m G),h.byk,fun m=>by rw [D]; exact h.often m,h.oftk,by rw [U]; exact h.rlen,h.r64,h.seq,h.flen,h.tk⟩,h.sent⟩
     simp only
     rw [h.row,O1]; simp
theorem Ad2 {xs:List Int} {Q:Int→Prop} (Y:xs≠[]) (hl:xs.length≤1000000) (W:∀ m,m∈xs→(∀ x∈xs,m≤x)→Q m):HZ xs Q:=by
 unfold HZ
 have O:0<xs.length:=List.length_pos_iff.2 Y
 refine A0 (fun h=>by omega) (fun _=>AA (by omega) (x:=xs[0]) (by simp [O]) ?_)
 refine DA (fun s:Int×Int=>∃ i:Nat,s.2=i∧1≤i∧i≤xs.length∧s.1∈xs∧∀ (j:Nat) (U:j<i) (G:j<xs.length),s.1≤xs[j]) (fun s=>xs.length - s.2.toNat) ⟨1,rfl,by omega,by omega,List.getElem_mem _,fun j U G=>by
   have:j=0:=by omega
   subst this; exact Int.le_refl _⟩ ?_
 rintro ⟨s1,s2⟩ next ⟨i,hi,h1,Z,D,J⟩ hnext
 simp only at hi D J
 subst hi
 refine A0 (fun h=>?_) (fun h=>W s1 D fun x hx=>?_)
 · have V:i<xs.length:=by omega
   refine AA (by omega) (x:=xs[i]) (by simp [V]) (hnext _ ⟨i+1,?_,by omega,by omega,?_,?_⟩ ?_)
   · simp only; rw [AH (by omega) (by omega)]; simp
   · simp only; split
     · exact List.getElem_mem _
     · exact D
   · intro j U G
     simp only
     by_cases e:j=i
     · subst e; split <;> omega
     · have:=J j (by omega) G
       split <;> omega
   · simp only; rw [AH (by omega) (by omega)]; omega
 · obtain ⟨j,U,rfl⟩:=List.getElem_of_mem hx
   exact J j (by omega) U
theorem zJ {xs:List Int} {m:Int} {Q:Int→Prop} (hl:xs.length≤1000000) (V:m∈xs) (U:∀ (i:Nat) (hi:i<xs.length),xs[i]=m→(∀ (j:Nat) (J:j<i) (G:j<xs.length),xs[j]≠m)→Q i):DX xs m Q:=by
 unfold DX IR
 refine DA (fun s:Int=>∃ i:Nat,s=i∧i≤xs.length∧∀ (j:Nat) (J:j<i) (G:j<xs.length),xs[j]≠m) (fun s=>xs.length - s.toNat) ⟨0,rfl,by omega,fun j J=>by omega⟩ ?_
 rintro _ next ⟨i,rfl,W,D⟩ hnext
 refine A0 (fun h=>?_) (fun h=>?_)
 · have O:i<xs.length:=by omega
   refine AA (by omega) (x:=xs[i]) (by simp [O]) (BB (fun e=>U i O e D) (fun e=>hnext _ ⟨i+1,by rw [AH (by omega) (by omega)]; simp,by omega,?_⟩ ?_))
   · intro j J G
     by_cases ej:j=i
     · subst ej; exact e
     · exact D j (by omega) G
   · rw [AH (by omega) (by omega)]; omega
 · exfalso
   obtain ⟨j,J,rfl⟩:=List.getElem_of_mem V
   exact D j (by omega) J rfl
theorem rQ {Q:Int→Prop} (h:XD b s) (D:Q (s.row.length:Int)):HG b Q:=by
 unfold HG; rw [h.row]; simpa using D
theorem jX {l:List Nat} {i:Nat} (hi:i<l.length) (D:∀ n∈l,l[i]≤n) (U:∀ (j:Nat) (h:j<i) (O:j<l.length),l[j]≠l[i]):mE l=i:=by
 unfold mE
 rw [List.findIdx_eq hi]
 refine ⟨by simpa using D,fun j h=>?_⟩
 have:=U j h (by omega)
 have h3:=D l[j] (List.getElem_mem _)
 rw [Bool.eq_false_iff]
 intro G
 have J:=List.all_eq_true.1 G l[i] (List.getElem_mem _)
 simp at J
 omega
theorem vS {Q:Int→Prop} (h:XD b s) (W:Q s.oldest):H8 b Q:=by
 unfold H8
 have hrl:=h.rlen
 have h64:=h.r64
 have U:b.row.length=s.row.length:=by rw [h.row]; simp
 unfold Abs.oldest at W
 refine rQ h (BB (fun h0=>?_) (fun h0=>Ad2 (fun e=>?_) (by omega) fun m hm Y=>zJ (by omega) hm fun i hi Z G=>?_))
 · rwa [if_pos (by omega)] at W
 · rw [e] at U; simp at U; omega
 · rw [if_neg (by omega)] at W
   have J:i<s.row.length:=by omega
   have D:∀ (j:Nat) (O:j<b.row.length) (V:j<s.row.length),b.row[j]=((s.row[j]:Nat):Int):=by
     intro j O V
     have:=aK h V
     rw [List.getElem?_eq_getElem O] at this
     exact Option.some.inj this
   rw [jX J (fun n hn=>?_) (fun j O hjl=>?_)] at W
   · exact W
   · obtain ⟨j,O,rfl⟩:=List.getElem_of_mem hn
     have:=Y _ (List.getElem_mem (show j<b.row.length by omega))
     rw [←Z,D i hi J,D j (by omega) O] at this
     omega
   · have:=G j O (by omega)
     rw [D j (by omega) hjl,←Z,D i hi J] at this
     omega
theorem AbE (n:Nat) (h:n≤64):XD { room:=(n:Int),row:=([]:List Int),by_:=([]:List (Int×AM)),often:=([]:List (Int×Int)),sent:=0,taken:=0 } ⟨n,[],[],0⟩:=
 ⟨⟨rfl,rfl,rfl,by simp,by simp,by simp [FD],by simp [BK],by simp [FD],by simp,h,by simp,by simp,by simp⟩,rfl⟩
theorem Ad3 {a:Int} {G:Int→Prop} {J:(Int×AZ)→Prop} (D:¬(1≤a∧a≤64)→G 3) (U:∀ (n:Nat) b,a=n→1≤n→n≤64→XD b ⟨n,[],[],0⟩→J (0,b)):PG a G J:=by
 unfold PG
 refine A0 (fun h=>D (by omega)) (fun h=>A0 (fun O=>D (by omega)) (fun O=>?_))
 refine U a.toNat _ (by omega) (by omega) (by omega) ?_
 have:=AbE a.toNat (by omega)
 rwa [show ((a.toNat:Nat):Int)=a by omega] at this
theorem AbF {Q:Int→Prop} (h:XD b s) (D:Q (s.fs.length:Int)):JA b Q:=by unfold JA; rw [h.sent]; exact D
theorem BV {σ:Type} {D:σ→(σ→Prop)→Prop} (G:Nat→σ→Prop) {m0:Nat} {s0:σ} (h0:G m0 s0) (h:∀ m s next,G m s→(∀ J O,J<m→G J O→next O)→D s next):B2 D s0:=by
 have key:∀ k m s,G m s→m<k→N9 D k s:=by
  intro k
  induction k with
  | zero=>intro m s _ W; omega
  | succ k Z=>intro m s V W; exact h m s _ V fun J O Y U=>Z J O U (by omega)
 exact ⟨m0+1,key _ _ _ h0 (by omega)⟩
section bank
variable {α:Type} {xs:List (Nat×α)} {b b':Nat} {x:α}
theorem X2:BK b ((b,x) :: BO b xs)=some x:=by simp [BK]
theorem U7 (h:b'≠b):BK b' ((b,x) :: BO b xs)=BK b' xs:=by
 rw [←EG h xs]
 simp [BK,h]
theorem QS {ys:List (Nat×α)}:BK b ((b,x) :: ys)=some x:=by simp [BK]
theorem VX {ys:List (Nat×α)} (h:b'≠b):BK b' ((b,x) :: ys)=BK b' ys:=by simp [BK,h]
end bank
structure Wk where
 out:List AM
 gl:Nat→Bool
 gr:Nat→Bool
 at_:Nat
structure MS where
 w:Nat→Wk
 bx:Nat→Nat→Abs
def ER (m:MS) (k:Nat) (a:Wk):MS:={ m with w:=fun i=>if i=k then a else m.w i }
def DH (m:MS) (f t:Nat) (a:Abs):MS:={ m with bx:=fun i j=>if i=f∧j=t then a else m.bx i j }
structure T8 where
 p:BF
 S:List AV
 n:Nat
 adr:Nat→Nat
 wi:Nat→Int
 wj:Nat→Int
 mask:Nat→Rows
 room:Nat
 LA:Nat→Nat→List A1
 RB:Nat→Nat→List A1
 has:Nat→Nat→List AB
def empty (c:T8):Abs:=⟨c.room,[],[],0⟩
structure AbG (c:T8) (k:Nat) (a:Wk) (x:AF):Prop where
 i:x.i=c.wi k
 j:x.j=c.wj k
 mask:x.mask=c.mask k
 out:x.out=a.out
 at_:x.at_=(a.at_:Int)
 le:a.at_≤c.S.length
 has:x.has=c.has k a.at_
 l:∀ s,a.at_≤s→BK ({ kind:=6,stage:=(s:Int) }:BE) x.parts=if a.gl s then some (c.LA k s) else none
 r:∀ s,a.at_≤s→BK ({ kind:=7,stage:=(s:Int) }:BE) x.parts=if a.gr s then some (c.RB k s) else none
structure Rep (c:T8) (m:MS) (o0:A3) (o1:A2) (o2:A8):Prop where
 p:o0.p=c.p
 S:o0.stages=c.S
 ws:o0.workers=(List.range c.n).map fun k=>some (c.adr k)
 wk:∀ k<c.n,∃ x,BK (c.adr k) o1=some x∧AbG c k (m.w k) x
 no:∀ f t:Nat,BK ((f:Int),(t:Int)) o0.boxes=none→m.bx f t=empty c
 nn:∀ q,BK q o0.boxes≠some none
 bx:∀ (f t:Nat) b,BK ((f:Int),(t:Int)) o0.boxes=some (some b)→∃ pb,BK b o2=some pb∧XD pb (m.bx f t)
 inj:∀ q q' b,BK q o0.boxes=some (some b)→BK q' o0.boxes=some (some b)→q=q'
 ks:FD o0.boxes
 kr:∀ q∈o0.boxes.map (·.1),∃ f t:Nat,f<c.n∧t<c.n∧q=((f:Int),(t:Int))
structure X3 (c:T8):Prop where
 n:c.n≤64
 room:c.p.Room=(c.room:Int)
 r1:1≤c.room
 r64:c.room≤64
 S:c.S.length≤64
 inj:∀ i j,i<c.n→j<c.n→c.adr i=c.adr j→i=j
variable {c:T8} {m:MS} {o0:A3} {o1 o1x:A2} {o2:A8}
theorem Rep.len (h:Rep c m o0 o1 o2):o0.workers.length=c.n:=by rw [h.ws]; simp
theorem Rep.get (h:Rep c m o0 o1 o2) {k:Nat} (hk:k<c.n):o0.workers[((k:Int)).toNat]? = some (some (c.adr k)):=by
 rw [h.ws]; simp [hk]
theorem cG (h:Rep c m o0 o1 o2) {a:Int} {Q:Bool→Prop} (G:Q (decide (0≤a∧a<c.n))):D3 o0 o1x a Q:=by
 unfold D3
 rw [h.len]
 refine A0 (fun D=>?_) (fun D=>?_)
 · simpa [D] using G
 · simpa [D] using G
theorem Rep.setB (hc:X3 c) (h:Rep c m o0 o1 o2) {f t:Nat} {b:Nat} {W:AZ} {a:Abs} (hk:BK ((f:Int),(t:Int)) o0.boxes=some (some b)) (hi:XD W a):Rep c (DH m f t a) o0 o1 ((b,W) :: BO b o2):=by
 refine ⟨h.p,h.S,h.ws,h.wk,?_,h.nn,?_,h.inj,h.ks,h.kr⟩
 · intro D G V
   have:¬(D=f∧G=t):=by rintro ⟨rfl,rfl⟩; rw [hk] at V; cases V
   simp only [DH,if_neg this]
   exact h.no D G V
 · intro D G b' J
   by_cases e:D=f∧G=t
   · obtain ⟨rfl,rfl⟩:=e
     rw [hk] at J
     cases J
     exact ⟨W,X2,by simpa [DH] using hi⟩
   · have U:b'≠b:=by
      rintro rfl
      have:=h.inj _ _ _ J hk
      simp only [Prod.mk.injEq] at this
      exact e ⟨by omega,by omega⟩
     obtain ⟨O,Y,Z⟩:=h.bx D G b' J
     exact ⟨O,by rw [U7 U]; exact Y,by simpa [DH,if_neg e] using Z⟩
theorem Rep.setW (D:X3 c) (h:Rep c m o0 o1 o2) {k:Nat} (hk:k<c.n) {a:Wk} {x:AF} (J:AbG c k a x):Rep c (ER m k a) o0 ((c.adr k,x) :: BO (c.adr k) o1) o2:=by
 refine ⟨h.p,h.S,h.ws,?_,h.no,h.nn,h.bx,h.inj,h.ks,h.kr⟩
 intro i hi
 by_cases e:i=k
 · subst e; exact ⟨x,X2,by simpa [ER] using J⟩
 · obtain ⟨y,U,O⟩:=h.wk i hi
   exact ⟨y,by rw [U7 fun G=>e (D.inj _ _ hi hk G)]; exact U,by simpa [ER,e] using O⟩
def Ext (o o':A3):Prop:=∀ q b,BK q o.boxes=some (some b)→BK q o'.boxes=some (some b)
theorem Ext.refl (o:A3):Ext o o:=fun _ _ h=>h
theorem Ext.trans {a b d:A3} (h:Ext a b) (G:Ext b d):Ext a d:=fun q x D=>G q x (h q x D)
theorem mF {f t:Int} {G:(A3×A8)→Prop} {U:(Option Nat×A3×A8)→Prop} (h:Rep c m o0 o1 o2) (V:¬((0≤f∧f<c.n)∧(0≤t∧t<c.n))) (D:G (o0,o2)):BZ o0 o1x o2 f t G U:=by
 unfold BZ
 refine cG h (BN (fun _=>D) (fun O=>cG h (BN (fun _=>D) (fun J=>?_))))
 exact absurd ⟨of_decide_eq_true O,of_decide_eq_true J⟩ V
theorem fZ (hc:X3 c) (h:Rep c m o0 o1 o2) {f t:Nat} (hf:f<c.n) (ht:t<c.n) {Q0:(A3×A8)→Prop} {Q1:(Option Nat×A3×A8)→Prop}
  (hQ:∀ b pb O Z,Rep c m O o1 Z→Ext o0 O→BK ((f:Int),(t:Int)) O.boxes=some (some b)→BK b Z=some pb→XD pb (m.bx f t)→Q1 (some b,O,Z)):BZ o0 o1x o2 f t Q0 Q1:=by
 unfold BZ
 refine cG h (BN (fun h1=>absurd h1 (by simp; omega)) (fun _=>cG h (BN (fun h1=>absurd h1 (by simp; omega)) (fun _=>K5 ?_))))
 cases hg:BK ((f:Int),(t:Int)) o0.boxes with
 | none=>
  refine AU rfl (Ad3 (fun hr=>?_) (fun n b hn h1 h64 hi b' hb'=>K5 ?_))
  · exact absurd hr (by rw [h.p,hc.room]; have:=hc.r1; have:=hc.r64; omega)
  · rw [BG]
    have V:n=c.room:=by have:=hc.room; rw [←h.p,hn] at this; omega
    subst V
    refine hQ b' b _ _ ⟨h.p,h.S,h.ws,h.wk,?_,?_,?_,?_,GA h.ks _ _,?_⟩ (fun q b2 D=>?_) (BG _ _ _) QS (by rw [h.no f t hg]; exact hi)
    · intro Y t' U
      by_cases e:((Y:Int),(t':Int))=((f:Int),(t:Int))
      · simp only at U; rw [e,BG] at U; cases U
      · exact h.no Y t' (by rwa [BC e] at U)
    · intro q D
      by_cases e:q=((f:Int),(t:Int))
      · subst e; simp only at D; rw [BG] at D; cases D
      · exact h.nn q (by rwa [BC e] at D)
    · intro Y t' b2 J
      by_cases e:((Y:Int),(t':Int))=((f:Int),(t:Int))
      · simp only at J
        rw [e,BG] at J
        cases J
        simp only [Prod.mk.injEq] at e
        have e1:Y=f:=by omega
        have e2:t'=t:=by omega
        subst e1 e2
        exact ⟨b,QS,by rw [h.no Y t' hg]; exact hi⟩
      · simp only at J
        rw [BC e] at J
        obtain ⟨pb,h3,h4⟩:=h.bx Y t' b2 J
        refine ⟨pb,?_,h4⟩
        rw [VX (by rintro rfl; rw [hb'] at h3; cases h3)]; exact h3
    · intro q q' b2 D G
      simp only at D G
      have old:∀ {z},z≠((f:Int),(t:Int))→BK z (FC ((f:Int),(t:Int)) (some b') o0.boxes)=some (some b2)→b2≠b':=by
        intro z hz W
        rw [BC hz] at W
        have hzm:=nR W
        obtain ⟨f1,t1,_,_,rfl⟩:=h.kr z hzm
        obtain ⟨pb,h3,_⟩:=h.bx f1 t1 b2 W
        rintro rfl
        rw [hb'] at h3; cases h3
      by_cases e:q=((f:Int),(t:Int))
      · by_cases e':q'=((f:Int),(t:Int))
        · rw [e,e']
        · exfalso
          rw [e,BG] at D
          cases D
          exact old e' G rfl
      · by_cases e':q'=((f:Int),(t:Int))
        · exfalso
          rw [e',BG] at G
          cases G
          exact old e D rfl
        · rw [BC e] at D
          rw [BC e'] at G
          exact h.inj q q' b2 D G
    · intro q D
      rw [show (({ p:=o0.p,stages:=o0.stages,workers:=o0.workers,boxes:=(FC ((f:Int),(t:Int)) (some b') o0.boxes) }:A3)).boxes=FC ((f:Int),(t:Int)) (some b') o0.boxes from rfl,bO] at D
      split at D
      · exact h.kr q D
      · rcases List.mem_append.1 D with D | D
        · exact h.kr q D
        · rw [List.mem_singleton] at D; exact ⟨f,t,hf,ht,D⟩
    · show BK q (FC ((f:Int),(t:Int)) (some b') o0.boxes)=_
      rw [BC (by rintro rfl; rw [hg] at D; cases D)]; exact D
 | some v=>
  cases v with
  | none=>exact absurd hg (h.nn _)
  | some b=>
    obtain ⟨pb,h1,h2⟩:=h.bx f t b hg
    refine AC rfl (K5 ?_)
    rw [hg]
    exact hQ b pb _ _ h (Ext.refl _) hg h1 h2
end Go.Proofs.YtbohadngdkjljaaGreat
