import Derived.Test.YtbohadngdkjljaaGreatT
import Derived.Test.YtbohadngdkjljaaGreatFwP
import Derived.Test.YtbohadngdkjljaaGreatFwQ
import Derived.Test.YtbohadngdkjljaaGreatBlkA
namespace Go.Proofs.YtbohadngdkjljaaGreat
open Go Go.Fw
set_option linter.unusedVariables false
set_option linter.unusedSimpArgs false
theorem gP {P:Prop} [Decidable P] {b:Bool} {Q:Bool→Prop} (D:Q (decide P)) (h:b=true↔P):Q b:=by
 have:decide P=b:=by rw [Bool.eq_iff_iff,decide_eq_true_iff]; exact h.symm
 rwa [this] at D
theorem RX {n k:Int} {Q:Bool→Prop} (h:Q (decide (PE n k))):Q6 n k Q:=by
 unfold Q6 NI
 refine A0 (fun a=>A0 (fun b=>A0 (fun c=>gP h ?_) (fun c=>gP h ?_)) (fun b=>gP h ?_)) (fun a=>gP h ?_) <;> (unfold PE; simp; omega)
theorem PG {n k:Int} {Q:Bool→Prop} (h:Q (decide (PE n k))):NL n k Q:=by
 unfold NL
 refine A0 (fun a=>A0 (fun b=>A0 (fun c=>gP h ?_) (fun c=>gP h ?_)) (fun b=>gP h ?_)) (fun a=>gP h ?_) <;> (unfold PE; simp; omega)
theorem HW {n k i:Int} {Q:Int→Prop} (J:Q (BS n k i)):FL n k i Q:=by
 unfold FL
 unfold BS at J
 refine RX (CF (fun h=>?_) (fun h=>?_))
 · rwa [if_neg (of_decide_eq_false h)] at J
 · have D:=of_decide_eq_true h
   rw [if_pos D] at J
   have e:(if k<(if 0 > i then 0 else i) then k else (if 0 > i then 0 else i))=jA i k:=by
    unfold jA; have:=D.2; split <;> split <;> (try split) <;> (try split) <;> omega
   rw [e]
   have G:=Ac9 D.2 D.1 (Ac8 (i:=i) D.2.1)
   have hk:=D.2
   refine ⟨by omega,?_⟩
   rw [AJ (x:=jA i k*n) (by omega) (by omega),Int.tdiv_eq_ediv_of_nonneg G.1]
   have h1:0≤jA i k*n / k:=Int.ediv_nonneg G.1 (by omega)
   have h2:jA i k*n / k≤jA i k*n:=Int.ediv_le_self _ G.1
   rwa [AJ (by omega) (by omega)]
theorem EW {n k i:Int} {Q:Int→Prop} (D:Q (BS n k i)):EQ n k i Q:=by
 unfold EQ
 refine PG (CF (fun h=>?_) (fun h=>?_))
 · unfold BS at D; rwa [if_neg (of_decide_eq_false h)] at D
 · have G:=of_decide_eq_true h
   have hk:=G.2
   refine A0 (fun hi=>?_) (fun hi=>A0 (fun O=>?_) (fun O=>⟨by omega,?_⟩))
   · rwa [AbB (by omega)] at D
   · have e:BS n k i=n:=by
      unfold BS jA
      rw [if_pos G,if_neg hi]
      split
      · rw [Int.mul_comm,Int.mul_ediv_cancel _ (by omega)]
      · rw [show i=k by omega,Int.mul_comm,Int.mul_ediv_cancel _ (by omega)]
     rwa [e] at D
   · unfold BS jA at D
     rw [if_pos G,if_neg hi,if_neg (by omega)] at D
     have J:=Ac9 hk G.1 (i:=i) ⟨by omega,by omega⟩
     rw [AJ (x:=i*n) (by omega) (by omega),Int.tdiv_eq_ediv_of_nonneg J.1]
     have h1:0≤i*n / k:=Int.ediv_nonneg J.1 (by omega)
     have h2:i*n / k≤i*n:=Int.ediv_le_self _ J.1
     rwa [AJ (by omega) (by omega)]
theorem zJ {n k i:Int} (h0:0≤i) (h:i<k):BS n k (A7 (i+1))=BS n k (i+1):=by
 by_cases hm:PE n k
 · have:=hm.2
   rw [AJ (by omega) (by omega)]
 · unfold BS; rw [if_neg hm,if_neg hm]
def NF (k:Int):Prop:=1≤k∧k≤8
instance (k:Int):Decidable (NF k):=by unfold NF; infer_instance
def dA (r c i j:Int):Prop:=(NF r∧NF c)∧(0≤i∧i<r)∧0≤j∧j<c
instance (r c i j:Int):Decidable (dA r c i j):=by unfold dA; infer_instance
theorem XN {k:Int} {Q:Bool→Prop} (h:Q (decide (NF k))):Q7 k Q:=by
 unfold Q7
 refine A0 (fun a=>gP h ?_) (fun a=>gP h ?_) <;> (unfold NF; simp; omega)
theorem hG {r c i j:Int} {Q:Bool→Prop} (h:Q (decide (dA r c i j))):TC r c i j Q:=by
 unfold TC
 refine XN (A0 (fun a=>XN (A0 (fun b=>A0 (fun d=>A0 (fun e=>A0 (fun f=>gP h ?_) (fun f=>gP h ?_)) (fun e=>gP h ?_)) (fun d=>gP h ?_)) (fun b=>gP h ?_))) (fun a=>gP h ?_)) <;> (unfold dA; unfold NF at *; simp only [Bool.false_eq_true,decide_eq_true_eq,false_iff]; omega)
theorem fN {r c:Int} {Q:Bool→Prop} (h:Q (decide (NF r∧NF c))):RM r c Q:=by
 unfold RM
 refine A0 (fun a=>A0 (fun b=>A0 (fun d=>gP h ?_) (fun d=>gP h ?_)) (fun b=>gP h ?_)) (fun a=>gP h ?_) <;> (unfold NF; simp; omega)
theorem UI {n k i:Int} {Q:Int×Int→Prop} (D:0≤i) (h:i<k) (G:Q (BS n k i,BS n k (i+1))):ML n k i Q:=by
 unfold ML
 refine HW (HW ?_)
 rw [zJ D h]; exact G
def vP (rows cols:Int) (T:List A3) (r c i j:Int):Rows:=if dA r c i j then bI rows cols T (BS rows r i,BS rows r (i+1)) (BS cols c j,BS cols c (j+1)) else B0 0 0 []
theorem AbF:RU zR=B0 0 0 []:=if_neg xW
theorem zK:bI 0 0 [] (0,0) (0,0)=B0 0 0 []:=by decide
theorem lX {Q:Rows→Prop} (h:Q (B0 0 0 [])):LD zR (0,0) (0,0) Q:=by
 refine TQ oB AbF nY ?_
 rw [zK]; exact h
theorem T2 {Q:Rows→Prop} (h:Q (B0 0 0 [])):DF 0 0 Q:=by
 unfold DF
 exact ⟨by decide,by decide,h⟩
theorem lY {rows cols r c i j:Int} {T:List A3} {Q:Rows→Prop} (h:Canon rows cols T) (G:Q (vP rows cols T r c i j)):PP (B0 rows cols T) r c i j Q:=by
 unfold PP
 unfold vP at G
 refine ZH h.sml ?_
 rw [decide_eq_true h.right]
 refine AC rfl (hG (CF (fun D=>?_) (fun D=>?_)))
 · rw [if_neg (of_decide_eq_false D)] at G
   exact lX G
 · have D:=of_decide_eq_true D
   rw [if_pos D] at G
   exact UI D.2.1.1 D.2.1.2 (UI D.2.2.1 D.2.2.2 (TQ h.sml (D8 h) h G))
theorem lZ {rows cols r c i j:Int} {T:List A3} {Q:Rows→Prop} (h:Canon rows cols T) (O:Q (vP rows cols T r c i j)):PR (B0 rows cols T) r c i j Q:=by
 unfold PR
 unfold vP at O
 refine TO h.sml ?_
 rw [decide_eq_true h.right]
 have D:¬dA r c i j→Q (B0 0 0 []):=fun G=>by rwa [if_neg G] at O
 refine AC rfl (fN (CF (fun J=>T2 (D fun G=>of_decide_eq_false J G.1)) (fun J=>?_)))
 have J:=of_decide_eq_true J
 refine A0 (fun a=>T2 (D fun G=>by have:=G.2; omega)) (fun a=>A0 (fun b=>T2 (D fun G=>by have:=G.2; omega)) (fun b=>A0 (fun d=>T2 (D fun G=>by have:=G.2; omega)) (fun d=>A0 (fun e=>T2 (D fun G=>by have:=G.2; omega)) (fun e=>?_))))
 rw [if_pos ⟨J,by omega,by omega⟩] at O
 refine EW (EW (EW (EW ?_)))
 rw [zJ (by omega) (by omega),zJ (by omega) (by omega)]
 exact Y6 h.sml (D8 h) h O
def zL (a:Rows):Prop:=a.Start.length≤1000000000000∧a.Col.length≤1000000000000
theorem bV {a:Rows} {Q:Bool→Prop} (G:zL a) (J:Q (decide (NT a))):HD a Q:=by
 by_cases hv:a.Val.length=a.Col.length
 · exact ZH ⟨G.1,G.2,by have:=G.2; omega⟩ J
 · have D:Q false:=by rwa [decide_eq_false (fun h=>hv h.vl)] at J
   unfold HD
   exact IP (CF (fun _=>D) (fun _=>IP (CF (fun _=>D) (fun _=>CK (fun _=>D) (fun _=>CK (fun _=>D) (fun h=>absurd (by omega) hv))))))
theorem S8 {a:Rows} {Q:Bool→Prop} (G:zL a) (J:Q (decide (NT a))):FV a Q:=by
 by_cases hv:a.Val.length=a.Col.length
 · exact TO ⟨G.1,G.2,by have:=G.2; omega⟩ J
 · have D:Q false:=by rwa [decide_eq_false (fun h=>hv h.vl)] at J
   unfold FV
   exact A0 (fun _=>D) (fun _=>A0 (fun _=>D) (fun _=>A0 (fun _=>D) (fun _=>A0 (fun _=>D) (fun _=>CK (fun _=>D) (fun _=>CK (fun _=>D) (fun h=>absurd (by omega) hv))))))
theorem ZX {k:Int} {Q:Bool→Prop} (h:Q (decide (NF k))):NI k Q:=by
 unfold NI
 refine A0 (fun a=>gP h ?_) (fun a=>gP h ?_) <;> (unfold NF; simp; omega)
theorem dB {c k:Nat} {Q:Int→Prop} (G:NF c) (hk:k<8*c) (J:Q ((k / c:Nat):Int)):SP c k Q:=by
 unfold SP
 refine ZX ?_
 rw [decide_eq_true G]
 have D:=G
 unfold NF at D
 refine AC rfl (A0 (fun h=>by omega) (fun _=>?_))
 rw [AJ (x:=(c:Int)*8) (by omega) (by omega)]
 refine A0 (fun h=>by omega) (fun _=>⟨by omega,?_⟩)
 rw [Int.tdiv_eq_ediv_of_nonneg (by omega),←Int.natCast_ediv]
 have O:k / c≤k:=Nat.div_le_self _ _
 generalize k / c=q at O J ⊢
 rwa [AJ (by omega) (by omega)]
theorem oY {c k:Nat} {Q:Int→Prop} (G:NF c) (hk:k<8*c) (hQ:Q ((k % c:Nat):Int)):UV c k Q:=by
 unfold UV
 have D:=G
 unfold NF at D
 refine dB G hk (A0 (fun h=>absurd h (Int.not_lt.2 (Int.natCast_nonneg _))) (fun _=>⟨by omega,?_⟩))
 rwa [Int.tmod_eq_emod_of_nonneg (by omega),←Int.natCast_emod]
structure Abs where
 room:Nat
 row:List Nat
 fs:List AO
 taken:Nat
def TY (f:AO):Prop:=f.Vec.Items=[]∧f.Sums=[]∧f.Triples.length≤1000000000
structure Inv0 (b:AZ) (s:Abs):Prop where
 room:b.room=s.room
 row:b.row=s.row.map (fun n:Nat=>(n:Int))
 taken:b.taken=s.taken
 lt:∀ n∈s.row,n<s.fs.length
 by_:∀ n∈s.row,BK (n:Int) b.by_=s.fs[n]?
 byk:FG b.by_
 often:∀ n:Nat,BK (n:Int) b.often=if s.row.count n=0 then none else some (s.row.count n:Int)
 oftk:FG b.often
 rlen:s.row.length≤s.room
 r64:s.room≤64
 seq:∀ (i:Nat) (f:AO),s.fs[i]? = some f→f.Seq=i∧TY f
 flen:s.fs.length≤1000000
 tk:s.taken≤s.fs.length
structure X2 (b:AZ) (s:Abs):Prop extends Inv0 b s where
 sent:b.sent=s.fs.length
def zf:AO:={ Kind:=0,From:=0,To:=0,Seq:=0,Round:=0,Vec:={ N:=0,Items:=[] },Sums:=[],Triples:=[],N:=0,Over:=false }
def Abs.fullB (s:Abs):Bool:=decide (s.room≤s.row.length)
def Abs.send (s:Abs) (f:AO):Int×Abs:=if s.fullB then (9,s) else (0,{ s with row:=s.row++[s.fs.length],fs:=s.fs++[{ f with Seq:=s.fs.length }] })
def Abs.at (s:Abs) (k:Int):Int:=if k<0 then 3 else if (s.row.length:Int)≤k then 3 else 0
def Abs.num (s:Abs) (k:Int):Nat:=s.row.getD k.toNat 0
def Abs.double (s:Abs) (k:Int):Int×Abs:=if s.at k≠0 then (s.at k,s) else if s.fullB then (9,s) else (0,{ s with row:=s.row++[s.num k] })
def Abs.move (s:Abs) (k:Int):Int×Abs:=if s.at k≠0 then (s.at k,s) else (0,{ s with row:=s.row.eraseIdx k.toNat++[s.num k] })
def Abs.take (s:Abs) (k:Int):AO×Bool×Int×Abs:=
 if s.at k≠0 then (zf,false,s.at k,s)
 else if s.taken<s.num k then (zf,false,0,s)
 else if s.num k<s.taken then (zf,false,0,{ s with row:=s.row.eraseIdx k.toNat })
 else (s.fs.getD (s.num k) zf,true,0,{ s with row:=s.row.eraseIdx k.toNat,taken:=s.taken+1 })
def mA (l:List Nat):Nat:=l.findIdx fun n=>l.all fun m=>decide (n≤m)
def Abs.oldest (s:Abs):Int:=if s.row.length=0 then -1 else mA s.row
variable {b:AZ} {s:Abs}
theorem zM {f:AO} {Q:AO→Prop} (h:TY f) (J:Q f):UX f Q:=by
 obtain ⟨U,G,V⟩:=h
 unfold UX EP FI E3
 obtain ⟨K,F,T,S,R,⟨VN,VI⟩,Su,Tr,N,O⟩:=f
 simp only at U G V
 subst U G
 have e:∀ (X:List A3),([]:List A3)++X=X:=fun _=>rfl
 refine LS (fun _=>LS (fun _=>LS (fun D=>?_) (AR ?_ ?_)) (AR (by simp) (LS (fun D=>?_) (AR ?_ ?_)))) (AR (by simp) (LS (fun _=>LS (fun D=>?_) (AR ?_ ?_)) (AR (by simp) (LS (fun D=>?_) (AR ?_ ?_)))))
 all_goals first
  | exact J
  | (subst D; exact J)
  | (simp only [List.length_nil]; omega)
theorem fO {Q:Bool→Prop} (h:X2 b s) (D:Q s.fullB):GM b Q:=by
 unfold GM
 rw [h.room,h.row]
 simp only [List.length_map]
 have:decide ((s.room:Int)≤(s.row.length:Int))=s.fullB:=by unfold Abs.fullB; congr 1; simp
 rw [this]; exact D
theorem zN {k:Int} {Q:Int→Prop} (h:X2 b s) (D:Q (s.at k)):GB b k Q:=by
 unfold GB
 rw [h.row]
 simp only [List.length_map]
 unfold Abs.at at D
 refine A0 (fun G=>?_) (fun G=>A0 (fun J=>?_) (fun J=>?_))
 · rwa [if_pos G] at D
 · rwa [if_neg G,if_pos J] at D
 · rwa [if_neg G,if_neg J] at D
theorem LL {k:Int} (h:s.at k=0):∃ i:Nat,k=i∧i<s.row.length:=by
 unfold Abs.at at h
 split at h
 · cases h
 · split at h
   · cases h
   · exact ⟨k.toNat,by omega,by omega⟩
theorem N2 {i:Nat} (hi:i<s.row.length):s.num (i:Int)=s.row[i]:=by
 simp [Abs.num,hi]
theorem ZY (h:X2 b s) {i:Nat} (hi:i<s.row.length):b.row[i]? = some ((s.row[i]:Nat):Int):=by
 rw [h.row]; simp [hi]
theorem jR {n:Nat} {Q:AZ→Prop} (h:Inv0 b s) (O:s.fullB=false) (U:n<s.fs.length) (G:BK (n:Int) b.by_=s.fs[n]?) (V:∀ b',Inv0 b' { s with row:=s.row++[n] }→b'.sent=b.sent→Q b'):HE b (n:Int) Q:=by
 unfold HE
 have J:s.row.length<s.room:=by unfold Abs.fullB at O; simpa using O
 have Y:=h.r64
 refine AR (by rw [h.row]; simp; omega) (K6 (V _ ?_ rfl))
 have hc:s.row.count n≤s.row.length:=List.count_le_length
 refine ⟨h.room,by rw [h.row]; simp,h.taken,?_,?_,h.byk,?_,GD h.oftk _ _,by simp; omega,h.r64,h.seq,h.flen,h.tk⟩
 · intro m D
   rcases List.mem_append.1 D with D | D
   · exact h.lt m D
   · rw [List.mem_singleton] at D; subst D; exact U
 · intro m D
   rcases List.mem_append.1 D with D | D
   · exact h.by_ m D
   · rw [List.mem_singleton] at D; subst D; exact G
 · intro m
   by_cases e:m=n
   · subst e
     rw [BG,h.often m]
     simp only [List.count_append,List.count_singleton_self]
     by_cases h0:s.row.count m=0
     · rw [h0]; decide
     · rw [if_neg h0,if_neg (by omega)]
       simp only [Option.getD_some]
       rw [AJ (by omega) (by omega)]; simp
   · rw [BB (by omega),h.often m]
     simp only [List.count_append,List.count_singleton]
     have:(n==m)=false:=by simpa using fun W:n=m=>e W.symm
     simp [this]
theorem AbG {f:AO} {Q:(Int×AZ)→Prop} (h:X2 b s) (Z:TY f) (hlt:s.fs.length<1000000) (O:∀ b',X2 b' (s.send f).2→Q ((s.send f).1,b')):J0 b f Q:=by
 unfold J0
 refine fO h ?_
 cases hf:s.fullB with
 | true=>refine AY rfl ?_; have:=O b; unfold Abs.send at this; rw [if_pos hf] at this; exact this h
 | false=>
  refine AC rfl (zM Z ?_)
  unfold Abs.send at O
  rw [hf] at O
  simp only [Bool.false_eq_true,if_false] at O
  have G:=h.sent
  rw [G]
  refine jR (s:={ s with fs:=s.fs++[{ f with Seq:=s.fs.length }] }) ?_ hf (by simp) ?_ ?_
  · refine ⟨h.room,h.row,h.taken,?_,?_,GD h.byk _ _,h.often,h.oftk,h.rlen,h.r64,?_,?_,?_⟩
    · intro n U; have:=h.lt n U; simp; omega
    · intro n U
      have Y:=h.lt n U
      rw [BB (by omega),h.by_ n U,List.getElem?_append_left Y]
    · intro i g J
      rcases Nat.lt_or_ge i s.fs.length with hi | hi
      · rw [List.getElem?_append_left hi] at J; exact h.seq i g J
      · rw [List.getElem?_append_right hi] at J
        cases hk:i - s.fs.length with
        | zero=>rw [hk] at J; cases J; exact ⟨by simp; omega,Z⟩
        | succ q=>rw [hk] at J; simp at J
    · simp; omega
    · have:=h.tk; simp; omega
  · simp [BG]
  · intro b' D W
    refine O _ ⟨⟨D.room,D.row,D.taken,D.lt,D.by_,D.byk,D.often,D.oftk,D.rlen,D.r64,D.seq,D.flen,D.tk⟩,?_⟩
    have V:b'.sent=(s.fs.length:Int):=W
    show A7 (b'.sent+1)=_
    rw [V,AJ (by omega) (by omega)]
    simp
theorem vQ {k:Int} {Q:(Int×AZ)→Prop} (h:X2 b s) (D:∀ b',X2 b' (s.double k).2→Q ((s.double k).1,b')):H8 b k Q:=by
 unfold H8
 refine zN h (CK (fun G=>?_) (fun G=>fO h ?_))
 · have:=D b; unfold Abs.double at this; rw [if_pos G] at this; exact this h
 · unfold Abs.double at D
   rw [if_neg (by rw [G]; simp)] at D
   cases hf:s.fullB with
   | true=>refine AY rfl ?_; have:=D b; rw [if_pos hf] at this; exact this h
   | false=>
    rw [hf] at D
    simp only [Bool.false_eq_true,if_false] at D
    obtain ⟨i,rfl,hi⟩:=LL G
    have J:s.row[i]∈s.row:=List.getElem_mem hi
    rw [N2 hi] at D
    refine AC rfl (A9 (by omega) (x:=((s.row[i]:Nat):Int)) (by simpa using ZY h hi) (jR h.toInv0 hf (h.lt _ J) (h.by_ _ J) fun b' U O=>D b' ⟨U,O.trans h.sent⟩))
theorem O5 {α β:Type} (f:α→β):∀ (l:List α) (i:Nat),(l.map f).eraseIdx i=(l.eraseIdx i).map f
 | [],_=>rfl
 | _ :: _,0=>rfl
 | x :: r,i+1=>by simp [List.eraseIdx_cons_succ,O5 f r i]
theorem jS {xs:List Int} {i:Nat} {Q:List Int→Prop} (hi:i<xs.length) (hl:xs.length≤64) (hQ:Q (xs.eraseIdx i)):DP xs (i:Int) (A7 ((i:Int)+1)) Q:=by
 unfold DP
 rw [AJ (by omega) (by omega)]
 have D:((i:Int)+1).toNat=i+1:=by omega
 refine ⟨by omega,by omega,by omega,BA (fun h=>by omega) (fun _=>⟨by omega,by omega,by omega,⟨by omega,by omega,by omega,?_⟩⟩)⟩
 simp only [Int.toNat_natCast,D]
 rwa [←List.eraseIdx_eq_take_drop_succ]
theorem OR {l:List Nat} {i:Nat} (hi:i<l.length) (m:Nat):(l.eraseIdx i).count m=if m=l[i] then l.count m - 1 else l.count m:=by
 have e:l=l.take i++l[i] :: l.drop (i+1):=by simp
 have G:(l.eraseIdx i).count m=(l.take i).count m+(l.drop (i+1)).count m:=by rw [List.eraseIdx_eq_take_drop_succ,List.count_append]
 have h:l.count m=(l.take i).count m+(l[i] :: l.drop (i+1)).count m:=by rw [←List.count_append,←e]
 rw [G,h,List.count_cons]
 by_cases hm:m=l[i]
 · subst hm; simp
 · have:(l[i]==m)=false:=by simpa using fun D:l[i]=m=>hm D.symm
   simp [this,hm]
theorem vR {i:Nat} {Q:(AO×AZ)→Prop} (h:X2 b s) (hi:i<s.row.length) (Y:∀ b',X2 b' { s with row:=s.row.eraseIdx i }→Q (s.fs.getD s.row[i] zf,b')):KA b (i:Int) Q:=by
 unfold KA
 have V:s.row[i]∈s.row:=List.getElem_mem hi
 have hlt:=h.lt _ V
 have hcp:0<s.row.count s.row[i]:=List.count_pos_iff.2 V
 have hcl:s.row.count s.row[i]≤s.row.length:=List.count_le_length
 have hrl:=h.rlen
 have h64:=h.r64
 refine A9 (by omega) (x:=((s.row[i]:Nat):Int)) (by simpa using ZY h hi) (K6 ?_)
 rw [h.by_ _ V]
 refine jS (by rw [h.row]; simpa using hi) (by rw [h.row]; simp; omega) (K6 (K6 ?_))
 rw [BG,h.often,if_neg (by omega)]
 simp only [Option.getD_some]
 rw [AJ (by omega) (by omega)]
 have J:(b.row.eraseIdx i)=(s.row.eraseIdx i).map (fun n:Nat=>(n:Int)):=by rw [h.row,O5]
 have O:(s.row.eraseIdx i).length≤s.room:=by rw [List.length_eraseIdx]; split <;> omega
 have G:∀ m∈s.row.eraseIdx i,m∈s.row:=fun m V=>(List.eraseIdx_sublist s.row i).mem V
 have W:(s.fs[s.row[i]]?).getD zf=s.fs.getD s.row[i] zf:=by simp
 rw [show ({ Kind:=0,From:=0,To:=0,Seq:=0,Round:=0,Vec:=({ N:=0,Items:=([]:List CN) }:Vec),Sums:=([]:List P6),Triples:=([]:List A3),N:=0,Over:=false }:AO)=zf from rfl,W]
 refine BA (fun h0=>?_) (fun h0=>?_)
 · have U:s.row.count s.row[i]=1:=by omega
   refine Y _ ⟨⟨h.room,J,h.taken,fun m D=>h.lt m (G m D),?_,cJ h.byk _,?_,cJ (GD h.oftk _ _) _,O,h.r64,h.seq,h.flen,h.tk⟩,h.sent⟩
   · intro m D
     have hne:m≠s.row[i]:=by
       intro e
       have h1:=List.count_pos_iff.2 D
       rw [OR hi,if_pos e,e,U] at h1
       omega
     rw [EL (by omega)]
     exact h.by_ m (G m D)
   · intro m
     rw [OR hi]
     by_cases e:m=s.row[i]
     · subst e
       rw [UT (GD h.oftk _ _),if_pos rfl,U]; rfl
     · rw [EL (by omega),BB (by omega),h.often m,if_neg e]
 · have Z:s.row.count s.row[i]≠1:=by omega
   refine Y _ ⟨⟨h.room,J,h.taken,fun m D=>h.lt m (G m D),fun m D=>h.by_ m (G m D),h.byk,?_,GD h.oftk _ _,O,h.r64,h.seq,h.flen,h.tk⟩,h.sent⟩
   intro m
   rw [OR hi]
   by_cases e:m=s.row[i]
   · subst e
     rw [BG,if_pos rfl,if_neg (by omega)]
     congr 1; omega
   · rw [BB (by omega),h.often m,if_neg e]
theorem AbH {k:Int} {Q:(AO×Bool×Int×AZ)→Prop} (h:X2 b s) (J:∀ b',X2 b' (s.take k).2.2.2→Q ((s.take k).1,(s.take k).2.1,(s.take k).2.2.1,b')):J7 b k Q:=by
 unfold J7
 refine zN h (CK (fun V=>?_) (fun V=>?_))
 · have:=J b; unfold Abs.take at this; rw [if_pos V] at this; exact this h
 · unfold Abs.take at J
   rw [if_neg (by rw [V]; simp)] at J
   obtain ⟨i,rfl,hi⟩:=LL V
   rw [N2 hi] at J
   have hm:s.row[i]∈s.row:=List.getElem_mem hi
   have U:=h.lt _ hm
   have htk:=h.taken
   have Z:=h.flen
   refine A9 (by omega) (x:=((s.row[i]:Nat):Int)) (by simpa using ZY h hi) (A0 (fun h1=>?_) (fun h1=>vR h hi fun b' D=>?_))
   · have:=J b; rw [if_pos (by omega)] at this; rw [V]; exact this h
   · rw [if_neg (by omega)] at J
     have hg:s.fs[s.row[i]]? = some s.fs[s.row[i]]:=List.getElem?_eq_getElem U
     have O:=h.seq _ _ hg
     have W:s.fs.getD s.row[i] zf=s.fs[s.row[i]]:=by simp [U]
     simp only [Int.toNat_natCast] at J
     rw [W]
     rw [W] at J
     have G:=D.taken
     simp only at G
     refine A0 (fun Y=>?_) (fun Y=>zM O.2 ?_)
     · have:=J b'
       rw [O.1,G] at Y
       rw [if_pos (by omega)] at this
       exact this D
     · rw [O.1,G] at Y
       rw [if_neg (by omega)] at J
       refine J _ ⟨⟨D.room,D.row,?_,D.lt,D.by_,D.byk,D.often,D.oftk,D.rlen,D.r64,D.seq,D.flen,?_⟩,D.sent⟩
       · simp only; rw [G,AJ (by omega) (by omega)]; simp
       · simp only; omega
theorem AbI {k:Int} {Q:(Int×AZ)→Prop} (h:X2 b s) (O:∀ b',X2 b' (s.move k).2→Q ((s.move k).1,b')):J9 b k Q:=by
 unfold J9
 refine zN h (CK (fun V=>?_) (fun V=>?_))
 · have:=O b; unfold Abs.move at this; rw [if_pos V] at this; exact this h
 · unfold Abs.move at O
   rw [if_neg (by rw [V]; simp)] at O
   obtain ⟨i,rfl,hi⟩:=LL V
   rw [N2 hi] at O
   have hrl:=h.rlen
   have Y:=h.r64
   have W:s.row[i]∈s.row:=List.getElem_mem hi
   simp only [Int.toNat_natCast] at O
   have G:∀ m,(s.row.eraseIdx i++[s.row[i]]).count m=s.row.count m:=by
     intro m
     rw [List.count_append,OR hi,List.count_singleton]
     by_cases e:m=s.row[i]
     · subst e
       have:=List.count_pos_iff.2 W
       simp
     · have:(s.row[i]==m)=false:=by simpa using fun Z:s.row[i]=m=>e Z.symm
       simp [this,e]
   have J:∀ m∈s.row.eraseIdx i++[s.row[i]],m∈s.row:=fun m D=>by
     rw [←List.count_pos_iff,←G m,List.count_pos_iff]; exact D
   have U:(s.row.eraseIdx i++[s.row[i]]).length=s.row.length:=by simp only [List.length_append,List.length_eraseIdx,hi,if_true,List.length_singleton]; omega
   refine A9 (by omega) (x:=((s.row[i]:Nat):Int)) (by simpa using ZY h hi) (jS (by rw [h.row]; simpa using hi) (by rw [h.row]; simp; omega) (AR ?_ ?_))
   · rw [h.row]; simp [List.length_eraseIdx,hi]; omega
   · refine O _ ⟨⟨h.room,?_,h.taken,fun m D=>h.lt m (J m D),fun m D=>h.by_ m (J m D),h.byk,fun m=>by rw [G]; exact h.often m,h.oftk,by rw [U]; exact h.rlen,h.r64,h.seq,h.flen,h.tk⟩,h.sent⟩
     simp only
     rw [h.row,O5]; simp
theorem Ad2 {xs:List Int} {Q:Int→Prop} (Y:xs≠[]) (hl:xs.length≤1000000) (Z:∀ m,m∈xs→(∀ x∈xs,m≤x)→Q m):I4 xs Q:=by
 unfold I4
 have O:0<xs.length:=List.length_pos_iff.2 Y
 refine A0 (fun h=>by omega) (fun _=>A9 (by omega) (x:=xs[0]) (by simp [O]) ?_)
 refine DE (fun s:Int×Int=>∃ i:Nat,s.2=i∧1≤i∧i≤xs.length∧s.1∈xs∧∀ (j:Nat) (U:j<i) (J:j<xs.length),s.1≤xs[j]) (fun s=>xs.length - s.2.toNat) ⟨1,rfl,by omega,by omega,List.getElem_mem _,fun j U J=>by
   have:j=0:=by omega
   subst this; exact Int.le_refl _⟩ ?_
 rintro ⟨s1,s2⟩ next ⟨i,hi,h1,W,D,G⟩ hnext
 simp only at hi D G
 subst hi
 refine A0 (fun h=>?_) (fun h=>Z s1 D fun x hx=>?_)
 · have V:i<xs.length:=by omega
   refine A9 (by omega) (x:=xs[i]) (by simp [V]) (hnext _ ⟨i+1,?_,by omega,by omega,?_,?_⟩ ?_)
   · simp only; rw [AJ (by omega) (by omega)]; simp
   · simp only; split
     · exact List.getElem_mem _
     · exact D
   · intro j U J
     simp only
     by_cases e:j=i
     · subst e; split <;> omega
     · have:=G j (by omega) J
       split <;> omega
   · simp only; rw [AJ (by omega) (by omega)]; omega
 · obtain ⟨j,U,rfl⟩:=List.getElem_of_mem hx
   exact G j (by omega) U
theorem zO {xs:List Int} {m:Int} {Q:Int→Prop} (hl:xs.length≤1000000) (V:m∈xs) (W:∀ (i:Nat) (hi:i<xs.length),xs[i]=m→(∀ (j:Nat) (O:j<i) (G:j<xs.length),xs[j]≠m)→Q i):DY xs m Q:=by
 unfold DY IU
 refine DE (fun s:Int=>∃ i:Nat,s=i∧i≤xs.length∧∀ (j:Nat) (O:j<i) (G:j<xs.length),xs[j]≠m) (fun s=>xs.length - s.toNat) ⟨0,rfl,by omega,fun j O=>by omega⟩ ?_
 rintro _ next ⟨i,rfl,U,D⟩ hnext
 refine A0 (fun h=>?_) (fun h=>?_)
 · have J:i<xs.length:=by omega
   refine A9 (by omega) (x:=xs[i]) (by simp [J]) (BA (fun e=>W i J e D) (fun e=>hnext _ ⟨i+1,by rw [AJ (by omega) (by omega)]; simp,by omega,?_⟩ ?_))
   · intro j O G
     by_cases ej:j=i
     · subst ej; exact e
     · exact D j (by omega) G
   · rw [AJ (by omega) (by omega)]; omega
 · exfalso
   obtain ⟨j,O,rfl⟩:=List.getElem_of_mem V
   exact D j (by omega) O rfl
theorem rR {Q:Int→Prop} (h:X2 b s) (D:Q (s.row.length:Int)):HF b Q:=by
 unfold HF; rw [h.row]; simpa using D
theorem jT {l:List Nat} {i:Nat} (hi:i<l.length) (h:∀ n∈l,l[i]≤n) (U:∀ (j:Nat) (D:j<i) (J:j<l.length),l[j]≠l[i]):mA l=i:=by
 unfold mA
 rw [List.findIdx_eq hi]
 refine ⟨by simpa using h,fun j D=>?_⟩
 have:=U j D (by omega)
 have h3:=h l[j] (List.getElem_mem _)
 rw [Bool.eq_false_iff]
 intro O
 have G:=List.all_eq_true.1 O l[i] (List.getElem_mem _)
 simp at G
 omega
theorem vS {Q:Int→Prop} (h:X2 b s) (Y:Q s.oldest):H9 b Q:=by
 unfold H9
 have hrl:=h.rlen
 have h64:=h.r64
 have V:b.row.length=s.row.length:=by rw [h.row]; simp
 unfold Abs.oldest at Y
 refine rR h (BA (fun h0=>?_) (fun h0=>Ad2 (fun e=>?_) (by omega) fun m hm Z=>zO (by omega) hm fun i hi W G=>?_))
 · rwa [if_pos (by omega)] at Y
 · rw [e] at V; simp at V; omega
 · rw [if_neg (by omega)] at Y
   have J:i<s.row.length:=by omega
   have D:∀ (j:Nat) (O:j<b.row.length) (U:j<s.row.length),b.row[j]=((s.row[j]:Nat):Int):=by
     intro j O U
     have:=ZY h U
     rw [List.getElem?_eq_getElem O] at this
     exact Option.some.inj this
   rw [jT J (fun n hn=>?_) (fun j O hjl=>?_)] at Y
   · exact Y
   · obtain ⟨j,O,rfl⟩:=List.getElem_of_mem hn
     have:=Z _ (List.getElem_mem (show j<b.row.length by omega))
     rw [←W,D i hi J,D j (by omega) O] at this
     omega
   · have:=G j O (by omega)
     rw [D j (by omega) hjl,←W,D i hi J] at this
     omega
theorem AbJ (n:Nat) (h:n≤64):X2 { room:=(n:Int),row:=([]:List Int),by_:=([]:List (Int×AO)),often:=([]:List (Int×Int)),sent:=0,taken:=0 } ⟨n,[],[],0⟩:=
 ⟨⟨rfl,rfl,rfl,by simp,by simp,by simp [FG],by simp [BK],by simp [FG],by simp,h,by simp,by simp,by simp⟩,rfl⟩
theorem Ad3 {a:Int} {D:Int→Prop} {J:(Int×AZ)→Prop} (G:¬(1≤a∧a≤64)→D 3) (O:∀ (n:Nat) b,a=n→1≤n→n≤64→X2 b ⟨n,[],[],0⟩→J (0,b)):PD a D J:=by
 unfold PD
 refine A0 (fun h=>G (by omega)) (fun h=>A0 (fun U=>G (by omega)) (fun U=>?_))
 refine O a.toNat _ (by omega) (by omega) (by omega) ?_
 have:=AbJ a.toNat (by omega)
 rwa [show ((a.toNat:Nat):Int)=a by omega] at this
theorem AbK {Q:Int→Prop} (h:X2 b s) (D:Q (s.fs.length:Int)):JA b Q:=by unfold JA; rw [h.sent]; exact D
theorem BT {σ:Type} {D:σ→(σ→Prop)→Prop} (G:Nat→σ→Prop) {m0:Nat} {s0:σ} (Z:G m0 s0) (h:∀ m s next,G m s→(∀ J O,J<m→G J O→next O)→D s next):B1 D s0:=by
 have key:∀ k m s,G m s→m<k→NE D k s:=by
  intro k
  induction k with
  | zero=>intro m s _ W; omega
  | succ k V=>intro m s Y W; exact h m s _ Y fun J O hm' U=>V J O U (by omega)
 exact ⟨m0+1,key _ _ _ Z (by omega)⟩
section bank
variable {α:Type} {xs:List (Nat×α)} {b b':Nat} {x:α}
theorem WR:BK b ((b,x) :: BM b xs)=some x:=by simp [BK]
theorem TZ (h:b'≠b):BK b' ((b,x) :: BM b xs)=BK b' xs:=by
 rw [←EL h xs]
 simp [BK,h]
theorem QS {ys:List (Nat×α)}:BK b ((b,x) :: ys)=some x:=by simp [BK]
theorem VK {ys:List (Nat×α)} (h:b'≠b):BK b' ((b,x) :: ys)=BK b' ys:=by simp [BK,h]
end bank
structure Wk where
 out:List AO
 gl:Nat→Bool
 gr:Nat→Bool
 at_:Nat
structure MS where
 w:Nat→Wk
 bx:Nat→Nat→Abs
def EX (m:MS) (k:Nat) (a:Wk):MS:={ m with w:=fun i=>if i=k then a else m.w i }
def DL (m:MS) (f t:Nat) (a:Abs):MS:={ m with bx:=fun i j=>if i=f∧j=t then a else m.bx i j }
structure SK where
 p:CH
 S:List AX
 n:Nat
 adr:Nat→Nat
 wi:Nat→Int
 wj:Nat→Int
 mask:Nat→Rows
 room:Nat
 LA:Nat→Nat→List A3
 RB:Nat→Nat→List A3
 has:Nat→Nat→List AB
def empty (c:SK):Abs:=⟨c.room,[],[],0⟩
structure AbL (c:SK) (k:Nat) (a:Wk) (x:AF):Prop where
 i:x.i=c.wi k
 j:x.j=c.wj k
 mask:x.mask=c.mask k
 out:x.out=a.out
 at_:x.at_=(a.at_:Int)
 le:a.at_≤c.S.length
 has:x.has=c.has k a.at_
 l:∀ s,a.at_≤s→BK ({ kind:=6,stage:=(s:Int) }:BE) x.parts=if a.gl s then some (c.LA k s) else none
 r:∀ s,a.at_≤s→BK ({ kind:=7,stage:=(s:Int) }:BE) x.parts=if a.gr s then some (c.RB k s) else none
structure Rep (c:SK) (m:MS) (o0:A1) (o1:A2) (o2:A6):Prop where
 p:o0.p=c.p
 S:o0.stages=c.S
 ws:o0.workers=(List.range c.n).map fun k=>some (c.adr k)
 wk:∀ k<c.n,∃ x,BK (c.adr k) o1=some x∧AbL c k (m.w k) x
 no:∀ f t:Nat,BK ((f:Int),(t:Int)) o0.boxes=none→m.bx f t=empty c
 nn:∀ q,BK q o0.boxes≠some none
 bx:∀ (f t:Nat) b,BK ((f:Int),(t:Int)) o0.boxes=some (some b)→∃ pb,BK b o2=some pb∧X2 pb (m.bx f t)
 inj:∀ q q' b,BK q o0.boxes=some (some b)→BK q' o0.boxes=some (some b)→q=q'
 ks:FG o0.boxes
 kr:∀ q∈o0.boxes.map (·.1),∃ f t:Nat,f<c.n∧t<c.n∧q=((f:Int),(t:Int))
structure VL (c:SK):Prop where
 n:c.n≤64
 room:c.p.Room=(c.room:Int)
 r1:1≤c.room
 r64:c.room≤64
 S:c.S.length≤64
 inj:∀ i j,i<c.n→j<c.n→c.adr i=c.adr j→i=j
variable {c:SK} {m:MS} {o0:A1} {o1 o1x:A2} {o2:A6}
theorem Rep.len (h:Rep c m o0 o1 o2):o0.workers.length=c.n:=by rw [h.ws]; simp
theorem Rep.get (h:Rep c m o0 o1 o2) {k:Nat} (hk:k<c.n):o0.workers[((k:Int)).toNat]? = some (some (c.adr k)):=by
 rw [h.ws]; simp [hk]
theorem YC (h:Rep c m o0 o1 o2) {a:Int} {Q:Bool→Prop} (G:Q (decide (0≤a∧a<c.n))):D5 o0 o1x a Q:=by
 unfold D5
 rw [h.len]
 refine A0 (fun D=>?_) (fun D=>?_)
 · simpa [D] using G
 · simpa [D] using G
theorem Rep.setB (hc:VL c) (h:Rep c m o0 o1 o2) {f t:Nat} {b:Nat} {W:AZ} {a:Abs} (hk:BK ((f:Int),(t:Int)) o0.boxes=some (some b)) (hi:X2 W a):Rep c (DL m f t a) o0 o1 ((b,W) :: BM b o2):=by
 refine ⟨h.p,h.S,h.ws,h.wk,?_,h.nn,?_,h.inj,h.ks,h.kr⟩
 · intro G D O
   have:¬(G=f∧D=t):=by rintro ⟨rfl,rfl⟩; rw [hk] at O; cases O
   simp only [DL,if_neg this]
   exact h.no G D O
 · intro G D b' J
   by_cases e:G=f∧D=t
   · obtain ⟨rfl,rfl⟩:=e
     rw [hk] at J
     cases J
     exact ⟨W,WR,by simpa [DL] using hi⟩
   · have V:b'≠b:=by
      rintro rfl
      have:=h.inj _ _ _ J hk
      simp only [Prod.mk.injEq] at this
      exact e ⟨by omega,by omega⟩
     obtain ⟨U,Z,Y⟩:=h.bx G D b' J
     exact ⟨U,by rw [TZ V]; exact Z,by simpa [DL,if_neg e] using Y⟩
theorem Rep.setW (G:VL c) (h:Rep c m o0 o1 o2) {k:Nat} (hk:k<c.n) {a:Wk} {x:AF} (O:AbL c k a x):Rep c (EX m k a) o0 ((c.adr k,x) :: BM (c.adr k) o1) o2:=by
 refine ⟨h.p,h.S,h.ws,?_,h.no,h.nn,h.bx,h.inj,h.ks,h.kr⟩
 intro i hi
 by_cases e:i=k
 · subst e; exact ⟨x,WR,by simpa [EX] using O⟩
 · obtain ⟨y,U,D⟩:=h.wk i hi
   exact ⟨y,by rw [TZ fun J=>e (G.inj _ _ hi hk J)]; exact U,by simpa [EX,e] using D⟩
def Ext (o o':A1):Prop:=∀ q b,BK q o.boxes=some (some b)→BK q o'.boxes=some (some b)
theorem Ext.refl (o:A1):Ext o o:=fun _ _ h=>h
theorem Ext.trans {a b d:A1} (h:Ext a b) (G:Ext b d):Ext a d:=fun q x D=>G q x (h q x D)
theorem dY {f t:Int} {G:(A1×A6)→Prop} {V:(Option Nat×A1×A6)→Prop} (h:Rep c m o0 o1 o2) (O:¬((0≤f∧f<c.n)∧(0≤t∧t<c.n))) (D:G (o0,o2)):BZ o0 o1x o2 f t G V:=by
 unfold BZ
 refine YC h (CF (fun _=>D) (fun U=>YC h (CF (fun _=>D) (fun J=>?_))))
 exact absurd ⟨of_decide_eq_true U,of_decide_eq_true J⟩ O
theorem fP (hc:VL c) (h:Rep c m o0 o1 o2) {f t:Nat} (hf:f<c.n) (ht:t<c.n) {Q0:(A1×A6)→Prop} {Q1:(Option Nat×A1×A6)→Prop}
  (hQ:∀ b pb U V,Rep c m U o1 V→Ext o0 U→BK ((f:Int),(t:Int)) U.boxes=some (some b)→BK b V=some pb→X2 pb (m.bx f t)→Q1 (some b,U,V)):BZ o0 o1x o2 f t Q0 Q1:=by
 unfold BZ
 refine YC h (CF (fun h1=>absurd h1 (by simp; omega)) (fun _=>YC h (CF (fun h1=>absurd h1 (by simp; omega)) (fun _=>K6 ?_))))
 cases hg:BK ((f:Int),(t:Int)) o0.boxes with
 | none=>
  refine AY rfl (Ad3 (fun hr=>?_) (fun n b hn h1 h64 hi b' hb'=>K6 ?_))
  · exact absurd hr (by rw [h.p,hc.room]; have:=hc.r1; have:=hc.r64; omega)
  · rw [BG]
    have W:n=c.room:=by have:=hc.room; rw [←h.p,hn] at this; omega
    subst W
    refine hQ b' b _ _ ⟨h.p,h.S,h.ws,h.wk,?_,?_,?_,?_,GD h.ks _ _,?_⟩ (fun q b2 D=>?_) (BG _ _ _) QS (by rw [h.no f t hg]; exact hi)
    · intro Z Y O
      by_cases e:((Z:Int),(Y:Int))=((f:Int),(t:Int))
      · simp only at O; rw [e,BG] at O; cases O
      · exact h.no Z Y (by rwa [BB e] at O)
    · intro q D
      by_cases e:q=((f:Int),(t:Int))
      · subst e; simp only at D; rw [BG] at D; cases D
      · exact h.nn q (by rwa [BB e] at D)
    · intro Z Y b2 G
      by_cases e:((Z:Int),(Y:Int))=((f:Int),(t:Int))
      · simp only at G
        rw [e,BG] at G
        cases G
        simp only [Prod.mk.injEq] at e
        have e1:Z=f:=by omega
        have e2:Y=t:=by omega
        subst e1 e2
        exact ⟨b,QS,by rw [h.no Z Y hg]; exact hi⟩
      · simp only at G
        rw [BB e] at G
        obtain ⟨pb,h3,h4⟩:=h.bx Z Y b2 G
        refine ⟨pb,?_,h4⟩
        rw [VK (by rintro rfl; rw [hb'] at h3; cases h3)]; exact h3
    · intro q q' b2 D J
      simp only at D J
      have old:∀ {z},z≠((f:Int),(t:Int))→BK z (FF ((f:Int),(t:Int)) (some b') o0.boxes)=some (some b2)→b2≠b':=by
        intro z hz hz'
        rw [BB hz] at hz'
        have hzm:=nL hz'
        obtain ⟨f1,t1,_,_,rfl⟩:=h.kr z hzm
        obtain ⟨pb,h3,_⟩:=h.bx f1 t1 b2 hz'
        rintro rfl
        rw [hb'] at h3; cases h3
      by_cases e:q=((f:Int),(t:Int))
      · by_cases e':q'=((f:Int),(t:Int))
        · rw [e,e']
        · exfalso
          rw [e,BG] at D
          cases D
          exact old e' J rfl
      · by_cases e':q'=((f:Int),(t:Int))
        · exfalso
          rw [e',BG] at J
          cases J
          exact old e D rfl
        · rw [BB e] at D
          rw [BB e'] at J
          exact h.inj q q' b2 D J
    · intro q D
      rw [show (({ p:=o0.p,stages:=o0.stages,workers:=o0.workers,boxes:=(FF ((f:Int),(t:Int)) (some b') o0.boxes) }:A1)).boxes=FF ((f:Int),(t:Int)) (some b') o0.boxes from rfl,bE] at D
      split at D
      · exact h.kr q D
      · rcases List.mem_append.1 D with D | D
        · exact h.kr q D
        · rw [List.mem_singleton] at D; exact ⟨f,t,hf,ht,D⟩
    · show BK q (FF ((f:Int),(t:Int)) (some b') o0.boxes)=_
      rw [BB (by rintro rfl; rw [hg] at D; cases D)]; exact D
 | some v=>
  cases v with
  | none=>exact absurd hg (h.nn _)
  | some b=>
    obtain ⟨pb,h1,h2⟩:=h.bx f t b hg
    refine AC rfl (K6 ?_)
    rw [hg]
    exact hQ b pb _ _ h (Ext.refl _) hg h1 h2
end Go.Proofs.YtbohadngdkjljaaGreat
