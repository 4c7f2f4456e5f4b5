import Derived.Test.YtbohadngdkjljaaGreatLetA
namespace Go.Proofs.YtbohadngdkjljaaGreat
open Go Go.Fw
set_option linter.unusedVariables false
set_option linter.unusedSimpArgs false
def LR:Nat→(Nat→Int)→Int
  | 0,_=>0
  | n+1,f=>LR n f+f n
def gO (o:Option Int):Int:=(AdD o).1
def nzO (d:Int):Option Int:=if d≠0 then some d else none
theorem eV {f g:Nat→Int}:∀ {n:Nat},(∀ j,j<n→f j=g j)→LR n f=LR n g
  | 0,_=>rfl
  | n+1,h=>by show LR n f+f n=LR n g+g n; rw [eV fun j hj=>h j (by omega),h n (by omega)]
theorem eW {f:Nat→Int} {b:Int}:∀ {n:Nat},(∀ j,j<n→0≤f j∧f j≤b)→0≤LR n f∧LR n f≤n*b
  | 0,_=>by simp [LR]
  | n+1,h=>by
    have h1:=eW (n:=n) fun j hj=>h j (by omega)
    have h2:=h n (by omega)
    show 0≤LR n f+f n∧LR n f+f n≤((n+1:Nat):Int)*b
    have e:((n+1:Nat):Int)*b=n*b+b:=by rw [Int.natCast_succ,Int.add_mul,Int.one_mul]
    omega
theorem AcX (A B:Int→Option Int):∀ n:Nat,(VP 5 n A B=none∧LR n (fun j=>gO (A j)*gO (B j))=0)∨VP 5 n A B=some (NT (LR n fun j=>gO (A j)*gO (B j)))
  | 0=>.inl ⟨rfl,rfl⟩
  | n+1=>by
    have ih:=AcX A B n
    rw [ZX]
    unfold bG
    show (_∧LR n (fun j=>gO (A j)*gO (B j))+gO (A n)*gO (B n)=0)∨_=some (NT (LR n (fun j=>gO (A j)*gO (B j))+gO (A n)*gO (B n)))
    generalize LR n (fun j=>gO (A j)*gO (B j))=s at ih ⊢
    cases A n with
    | none=>
      have e:gO none*gO (B n)=0:=by show (0:Int)*_=0; omega
      rw [e,Int.add_zero]; exact ih
    | some a=>
      cases B n with
      | none=>
        have e:gO (some a)*gO none=0:=by show _*(0:Int)=0; omega
        rw [e,Int.add_zero]; exact ih
      | some x=>
        have em:dX 5 a x=NT (a*x):=rfl
        have e:gO (some a)*gO (some x)=a*x:=rfl
        rw [e]
        dsimp only
        rw [em]
        rcases ih with ⟨h1,h2⟩ | h1
        · rw [h1,h2,Int.zero_add]; exact .inr rfl
        · rw [h1]
          refine .inr ?_
          show some (FM 5 (NT s) (NT (a*x)))=_
          rw [RR]
def aT (T:List AC) (u j:Nat):Int:=gO (UI (YZ T u) j)
theorem yT {rows cols:Int} {T:List AC} (h:Canon rows cols T) {b:Int} (hb0:0≤b) (hb:∀ t∈T,0≤t.Val∧t.Val≤b) (u j:Nat):0≤aT T u j∧aT T u j≤b:=by
  unfold aT
  cases e:UI (YZ T u) j with
  | none=>show (0:Int)≤0∧(0:Int)≤b; omega
  | some x=>exact hb _ ((NW h (by omega)).1 e)
theorem Ac0 {a x b c:Int} (h1:0≤a∧a≤b) (h2:0≤x∧x≤c):0≤a*x∧a*x≤b*c:=
  ⟨Int.mul_nonneg h1.1 h2.1,Int.mul_le_mul h1.2 h2.2 h2.1 (by omega)⟩
structure Light (n:Nat) (T:List AC):Prop where
  can:Canon n n T
  small:n≤30
  val:∀ t∈T,0≤t.Val∧t.Val≤7
theorem Light.a {n:Nat} {T:List AC} (h:Light n T) (u j:Nat):0≤aT T u j∧aT T u j≤7:=yT h.can (by omega) h.val u j
theorem Light.s {n:Nat} {T:List AC} (h:Light n T) {f:Nat→Int} (hf:∀ j,0≤f j∧f j≤7) (u:Nat):0≤LR n (fun j=>aT T u j*f j)∧LR n (fun j=>aT T u j*f j)≤1470:=by
  have h1:=eW (f:=fun j=>aT T u j*f j) (b:=49) (n:=n) fun j _=>Ac0 (c:=7) (h.a u j) (hf j)
  have:=h.small
  omega
theorem Light.int {n:Nat} {T:List AC} (h:Light n T) {t:AC} (ht:t∈T):GS t.Val:=by have:=h.val t ht; unfold GS; omega
def kX (T:List AC) (n:Nat):List AC:=(EJ 5 T T (HZ n n)).filterMap (oR 5)
theorem AaO {n m i j:Nat} (hi:i<n) (hj:j<m):(⟨i,j,1⟩:AC)∈HZ n m:=List.mem_flatMap.2 ⟨i,List.mem_range.2 hi,List.mem_map.2 ⟨j,List.mem_range.2 hj,rfl⟩⟩
theorem eX {T:List AC} {n:Nat} (h:Light n T) (i c:Nat) :
    (KA 5 T T i c=none∧LR n (fun j=>aT T i j*aT T j c)=0)∨KA 5 T T i c=some (NT (LR n fun j=>aT T i j*aT T j c)):=by
  rw [QK h.can (by omega)]
  exact AcX (UI (YZ T i)) (pY T c) n
theorem sY {T:List AC} {n:Nat} (h:Light n T) (i c:Nat):0≤LR n (fun j=>aT T i j*aT T j c)∧LR n (fun j=>aT T i j*aT T j c)≤1470:=h.s (fun j=>h.a j c) i
theorem AaP {T:List AC} {n:Nat} (h:Light n T) {i c:Nat} (hi:i<n) (hc:c<n) {x:Int}:(⟨i,c,x⟩:AC)∈kX T n↔x≠0∧x=LR n fun j=>aT T i j*aT T j c:=by
  have hf:=sY h i c
  have hI:GS (LR n fun j=>aT T i j*aT T j c):=by unfold GS; omega
  unfold kX
  rw [List.mem_filterMap]
  constructor
  · rintro ⟨cc,hcc,he⟩
    unfold EJ at hcc
    obtain ⟨t,ht,hto⟩:=List.mem_filterMap.1 hcc
    unfold JE at hto
    unfold oR at he
    split at he
    · rename_i hnz
      obtain ⟨w,hw,hcw⟩:=Option.map_eq_some_iff.1 hto
      subst hcw
      simp only [Option.some.injEq,AC.mk.injEq] at he
      obtain ⟨e1,e2,e3⟩:=he
      rw [e1,e2] at hw
      rcases eX h i c with ⟨h1,_⟩ | h1
      · rw [h1] at hw; cases hw
      · rw [h1] at hw; cases hw
        simp only at hnz e3
        rw [eR hI] at hnz e3
        simp only at hnz e3
        exact ⟨by rw [←e3]; exact hnz,e3.symm⟩
    · cases he
  · rintro ⟨hx,rfl⟩
    refine ⟨⟨i,c,NT (LR n fun j=>aT T i j*aT T j c)⟩,?_,?_⟩
    · unfold EJ
      refine List.mem_filterMap.2 ⟨_,AaO hi hc,?_⟩
      unfold JE
      rcases eX h i c with ⟨_,h2⟩ | h1
      · exact absurd h2 hx
      · show Option.map _ (KA 5 T T i c)=_
        rw [h1]; rfl
    · unfold oR
      dsimp only
      rw [eR hI]
      dsimp only
      rw [if_pos (show _≠zS 5 from hx)]
theorem qO {r:Int} {c:AK} {t:AC} (h:oR r c=some t):t.Row=c.Row∧t.Col=c.Col:=by
  unfold oR at h
  split at h
  · cases h; exact ⟨rfl,rfl⟩
  · cases h
theorem sZ {T:List AC} {n:Nat} (h:Light n T):Canon n n (HZ n n):=bH (by have:=h.small; omega) (by have:=h.small; omega)
theorem WM {T:List AC} {n:Nat} (h:Light n T):Canon n n (kX T n):=by
  have hM:=sZ h
  have hP:sL n n (EJ 5 T T (HZ n n)):=cP (ra:=(n:Int)) (ca:=n) (rb:=n) (cb:=n) hM
  refine ⟨hM.r0,hM.r1,hM.c0,hM.c1,?_,?_,fun t ht=>?_⟩
  · have h1:=hP.len
    have h2:(kX T n).length≤(EJ 5 T T (HZ n n)).length:=List.length_filterMap_le _ _
    omega
  · refine List.Pairwise.filterMap _ (fun a b hab c hc d hd=>?_) hP.inc
    have h1:=qO hc
    have h2:=qO hd
    show MO (c.Row,c.Col) (d.Row,d.Col)
    rw [h1.1,h1.2,h2.1,h2.2]; exact hab
  · obtain ⟨c,hc,he⟩:=List.mem_filterMap.1 ht
    have h1:=qO he
    have h2:=hP.inn c hc
    unfold SD
    rw [h1.1,h1.2]; exact ⟨h2.1.1,h2.1.2,h2.2.1,h2.2.2⟩
theorem AaQ {T:List AC} {n:Nat} (h:Light n T):kE 5 n n n n n n T T (HZ n n)=(BJ n n (kX T n),0):=by
  have e:SE 5 n n n n n n T T (HZ n n)=(EJ 5 T T (HZ n n),0):=by
    unfold SE
    rw [if_neg (by omega),if_neg (by omega)]
  unfold kE
  rw [e,if_neg (by simp)]
  unfold X1
  rw [if_pos]
  · exact cL (WM h) sM (by omega)
  · rw [List.all_eq_true]
    intro c hc
    obtain ⟨t,ht,hto⟩:=List.mem_filterMap.1 hc
    obtain ⟨i,_,ht⟩:=List.mem_flatMap.1 ht
    obtain ⟨j,_,rfl⟩:=List.mem_map.1 ht
    obtain ⟨w,hw,hcw⟩:=Option.map_eq_some_iff.1 hto
    subst hcw
    have hf:=sY h i j
    have hI:GS (LR n fun k=>aT T i k*aT T k j):=by unfold GS; omega
    rcases eX h i j with ⟨h1,_⟩ | h1
    · rw [h1] at hw; cases hw
    · rw [h1] at hw; cases hw
      show (KP (NT _)).2=true
      rw [eR hI]
theorem yU {T:List AC} {n:Nat} (h:Light n T) {i c:Nat} (hi:i<n) (hc:c<n):UI (YZ (kX T n) i) c=nzO (LR n fun j=>aT T i j*aT T j c):=by
  refine sK fun x=>?_
  rw [NW (WM h) (by omega),AaP h hi hc]
  unfold nzO
  constructor
  · rintro ⟨h1,h2⟩; rw [if_pos (by rw [←h2]; exact h1),h2]
  · intro h1
    split at h1
    · rename_i h2; cases h1; exact ⟨h2,rfl⟩
    · cases h1
theorem AaR {n m:Nat} {Q:Rows→Prop} (hn:n≤200) (hm:m≤200) (hQ:Q (BJ n m (HZ n m))):YG n m Q:=by
  unfold YG
  have hv:∀ t∈HZ n m,GS t.Val:=fun t ht=>by rw [(ZZ ht).2]; unfold GS; omega
  have hc:=bH hn hm
  refine BA (fun (s:List AC) i=>(s,i)) 0 n (by omega) (fun i s=>s=HZ i m) (by omega) rfl (fun i s next _ hi hs hx=>?_) (fun s next hs=>?_)
  · subst hs
    refine AB (fun _=>?_) (fun h=>by omega)
    refine BA (fun (s:List AC) i=>(s,i)) 0 m (by omega) (fun j s=>s=HZ i m++X2 i j) (by omega) (by simp [X2]) (fun j s nx _ hj hs hy=>?_) (fun s nx hs=>?_)
    · subst hs
      refine AB (fun _=>BE ?_ (hy _ ?_)) (fun h=>by omega)
      · have h1:=Nat.mul_le_mul (show i≤200 by omega) hm
        rw [List.length_append,ZY,X2,List.length_map,List.length_range,List.length_singleton]
        omega
      · rw [pZ,List.append_assoc]
    · subst hs
      refine AB (fun h=>by omega) (fun _=>hx _ ?_)
      rw [dY]
  · subst hs
    refine AB (fun h=>by omega) (fun _=>tV (by have:=hc.len; omega) hv ?_)
    rw [cL hc hv (by omega)]
    exact hQ
theorem Ab5 {a b:Int}:∀ {E:List BN},E.Pairwise ltE→QN E a b=if ∃ e∈E,e.From=a∧e.To=b then 1 else 0
  | [],_=>by simp [QN]
  | e :: E,h=>by
    have ih:=Ab5 (a:=a) (b:=b) (List.Pairwise.of_cons h)
    rw [iN,ih]
    by_cases he:e.From=a∧e.To=b
    · have hno:¬ ∃ x∈E,x.From=a∧x.To=b:=by
        rintro ⟨x,hx,h1,h2⟩
        have:=List.rel_of_pairwise_cons h hx
        unfold ltE at this
        rw [he.1,he.2,h1,h2] at this
        exact EI _ this
      rw [if_neg hno,if_pos he,if_pos ⟨e,List.mem_cons_self,he⟩]
    · rw [if_neg he]
      by_cases hx:∃ x∈E,x.From=a∧x.To=b
      · obtain ⟨x,hx,h1⟩:=hx
        rw [if_pos ⟨x,hx,h1⟩,if_pos ⟨x,List.mem_cons_of_mem _ hx,h1⟩]
      · rw [if_neg hx,if_neg]
        rintro ⟨x,hx',h1⟩
        rcases List.mem_cons.1 hx' with rfl | hx'
        · exact he h1
        · exact hx ⟨x,hx',h1⟩
structure PlainP (n:Nat) (g:CA):Prop where
  N:g.N=n
  good:TB g.N g.Edges
  srt:g.Edges.Pairwise ltE
  one:∀ e∈g.Edges,e.W=1
theorem AaS {g:CA} {n:Nat} (hN:g.N=n) (h:TB g.N g.Edges):PlainP n (XT g):=by
  refine ⟨hN,(eU h).1,uX (QO (TC h)),fun e he=>?_⟩
  have:=aP (QO (TC h)) he
  obtain ⟨x,_,rfl⟩:=List.mem_map.1 this
  rfl
variable {n:Nat} {g:CA}
theorem PlainP.mem (h:PlainP n g) {t:AC}:t∈FG g↔(⟨t.Col,t.Row,t.Val⟩:BN)∈g.Edges:=by
  rw [uY (QO h.good),qN (QO h.good) h.srt]
theorem PlainP.right (h:PlainP n g) (hn:n≤4096) (hl:g.Edges.length≤65536):OG g=0:=eT (by rw [h.N]; omega) hl h.good
theorem PlainP.light (h:PlainP n g) (hn:n≤30) (hl:g.Edges.length≤65536):Light n (FG g):=by
  have hc:=bF (h.right (by omega) hl)
  rw [h.N] at hc
  exact ⟨hc,hn,fun t ht=>by have:=h.one _ (h.mem.1 ht); simp only at this; omega⟩
theorem PlainP.val (h:PlainP n g) (hc:Canon n n (FG g)) (u j:Nat):aT (FG g) u j=(QN g.Edges (j:Int) (u:Int):Int):=by
  rw [Ab5 h.srt]
  unfold aT
  cases e:UI (YZ (FG g) u) j with
  | some x=>
    have hm:=h.mem.1 ((NW hc (by omega)).1 e)
    rw [if_pos ⟨_,hm,rfl,rfl⟩]
    have:=h.one _ hm
    simp only at this
    show x=_
    rw [this]; rfl
  | none=>
    rw [if_neg]
    · rfl
    · rintro ⟨x,hx,h1,h2⟩
      have:(⟨(u:Int),(j:Int),x.W⟩:AC)∈FG g:=h.mem.2 (by simp only; rw [←h1,←h2]; exact hx)
      rw [(NW hc (by omega)).2 this] at e
      cases e
theorem oD (f:Nat→Nat):∀ m:Nat,LR m (fun j=>(f j:Int))=(JT f m:Int)
  | 0=>rfl
  | m+1=>by show LR m (fun j=>(f j:Int))+(f m:Int)=_; rw [oD f m]; show _=((JT f m+f m:Nat):Int); omega
def UK (E:List BN) (a b:Int) (i:Nat):Nat:=((E.take i).map fun e=>if e.From=a then QN E e.To b else 0).sum
theorem PlainP.two (h:PlainP n g) (hn:n≤30) (hl:g.Edges.length≤65536) {a b:Nat} (ha:a<n) (hb:b<n):(tW (kX (FG g) n) b a).1=(UK g.Edges a b g.Edges.length:Int):=by
  have hL:=h.light hn hl
  have hc:=WM hL
  have hs:LR n (fun j=>aT (FG g) b j*aT (FG g) j a)=(UK g.Edges a b g.Edges.length:Int):=by
    unfold UK
    rw [List.take_length,uV n a b g.Edges fun e he=>by have:=(h.good e he).1; unfold pR at this; rw [h.N] at this; omega]
    rw [←oD]
    refine eV fun j hj=>?_
    rw [h.val hL.can,h.val hL.can]
    rw [Int.natCast_mul,Int.mul_comm]
  have hlk:=yU hL hb ha
  rw [hs] at hlk
  generalize (UK g.Edges a b g.Edges.length:Int)=v at hlk
  unfold nzO at hlk
  by_cases h0:v≠0
  · rw [if_pos h0] at hlk
    have hm:=(NW hc (by omega)).1 hlk
    rw [rZ hc.srt hm rfl]
  · rw [if_neg h0] at hlk
    rw [mR fun t ht hk=>?_]
    · simp only; omega
    · have:(⟨(b:Int),(a:Int),t.Val⟩:AC)∈kX (FG g) n:=by
        unfold key at hk
        simp only [Prod.mk.injEq] at hk
        rw [←hk.1,←hk.2]; exact ht
      rw [(NW hc (by omega)).2 this] at hlk
      cases hlk
theorem uZ {E:List BN} {i:Nat} (h:i<E.length) (a b:Int):QN (E.take (i+1)) a b=QN (E.take i) a b+if E[i].From=a∧E[i].To=b then 1 else 0:=by
  unfold QN
  rw [List.take_succ_eq_append_getElem h,List.countP_append]
  simp
theorem tA (E:List BN) (a b:Int):QN E a b≤E.length:=List.countP_le_length
theorem aQ {E:List BN} {i:Nat} (h:i<E.length) (a b:Int):UK E a b (i+1)=UK E a b i+if E[i].From=a then QN E E[i].To b else 0:=by
  unfold UK
  rw [List.take_succ_eq_append_getElem h,List.map_append,List.sum_append]
  rfl
theorem tB (E:List BN) (a b:Int):∀ i,i≤E.length→UK E a b i≤i*E.length
  | 0,_=>by simp [UK]
  | i+1,h=>by
    rw [aQ (by omega)]
    have h1:=tB E a b i (by omega)
    have h2:=tA E (E[i]'(by omega)).To b
    rw [Nat.succ_mul]
    split <;> omega
theorem qP {d:Data} {S:List BC} {adr:Nat→Nat} (hR:d.R≤4) (hC:d.C≤4) (hr:d.room=2) (h:WO (d.wS S)) (hc:bS ((d.wS S).ctx adr)) (l:List GH) :
    (kO ((d.wS S).ctx adr) 1000 (fX ((d.wS S).ctx adr) l (UA (d.wS S)))).ended ((d.wS S).ctx adr)=true:=by
  obtain ⟨k1,k2⟩:=aN hc l (iL h adr) (iK h adr)
  refine nS hc 1000 k1 k2 (Nat.le_trans (yQ h k1 k2) ?_)
  have hl:S.length+1≤d.R+d.C:=h.seg.len
  show 4*(d.R*d.C)*S.length+(d.R*d.C)*((d.R*d.C)*d.room)≤1000
  have h1:d.R*d.C≤4*4:=Nat.mul_le_mul hR hC
  have h2:4*(d.R*d.C)*S.length≤64*7:=Nat.mul_le_mul (by omega) (by omega)
  have h3:(d.R*d.C)*((d.R*d.C)*d.room)≤16*32:=Nat.mul_le_mul (by omega) (by rw [hr]; omega)
  omega
theorem oE (a0:CA) (a1:Int×Int) (a2:GI) (h1:(fun x:Int×Int=>jA .u8 x.1∧jA .u8 x.2) a1):TO a0 a1 a2 (fun r=>r=true):=by
  unfold TO
  refine yS fun g0 hN0 hl0 hg0=>kU (by omega) ?_
  obtain ⟨n,hn⟩:∃ n:Nat,g0.N=n:=⟨g0.N.toNat,by omega⟩
  have hP:=AaS hn (eS hg0)
  have hle:=(eU (eS hg0)).2.1
  generalize XT g0=g at hP hle
  have hn23:n≤23:=by omega
  have hlen:g.Edges.length≤60:=by omega
  have hL:=hP.light (by omega) (by omega)
  refine kW ?_
  unfold pT
  rw [if_pos (hP.right (by omega) (by omega)),hP.N]
  refine AaR (by omega) (by omega) ?_
  obtain ⟨R,r1,r2,re⟩:=sX h1.1
  obtain ⟨C,c1,c2,ce⟩:=sX h1.2
  rw [re,ce]
  have hRC:R*C≤4*4:=Nat.mul_le_mul r2 c2
  have hRC1:1*1≤R*C:=Nat.mul_le_mul r1 c1
  have ew:AJ ((R:Int)*(C:Int))=((R*C:Nat):Int):=by
    rw [←Int.natCast_mul,AW (by omega) (by omega)]
  rw [ew]
  refine uU (by omega) fun l hs=>?_
  have hin:∀ t∈FG g,GS t.Val:=fun t ht=>hL.int ht
  have hF:Canon n n (HZ n n):=sZ hL
  have hd:DOk0 ⟨5,n,n,n,FG g,FG g,HZ n n,R,C,2,[]⟩:=
    ⟨by show (1:Int)≤5∧(5:Int)≤5; omega,hL.can,hL.can,hF,hin,hin,fun t ht=>by rw [(ZZ ht).2]; unfold GS; omega,by show 1≤R∧R≤8; omega,by show 1≤C∧C≤8; omega,by show 1≤2∧2≤64; omega⟩
  show SV (Data.p ⟨5,n,n,n,FG g,FG g,HZ n n,R,C,2,[]⟩) l ((1000:Nat):Int) _
  refine AbY hd (by have:=hs.len; omega) hs.mv (by omega) (fun S ads h hc=>qP (d:=⟨5,n,n,n,FG g,FG g,HZ n n,R,C,2,[]⟩) r2 c2 rfl h hc l) ?_
  have ed:X1 5 n n (fW ⟨5,n,n,n,FG g,FG g,HZ n n,R,C,2,[]⟩)=(BJ n n (kX (FG g) n),0):=by
    have:=qM hd
    rw [←this]
    exact AaQ hL
  rw [ed]
  refine AR rfl (AR rfl (TZ (AR rfl ?_)))
  have h2c:=WM hL
  refine DF n (by omega) (fun _=>True) trivial (fun a next ha _ hnext=>?_) (fun next _=>AR (by simp) rfl)
  refine CD (by simp; omega) ?_
  refine DF n (by omega) (fun _=>True) trivial (fun b next2 hb _ hnext2=>?_) (fun next2 _=>AR (by simp) (hnext trivial))
  refine CD (by simp; omega) ?_
  refine BA (fun (s:Int) i=>(s,i)) 0 g.Edges.length (by omega) (fun i s=>s=(UK g.Edges a b i:Int)) (by omega) (by simp [UK]) (fun i s nx _ hi hm hx=>?_) (fun s nx hm=>?_)
  · subst hm
    dsimp only
    have hwl:=tB g.Edges a b i (by omega)
    have hwl2:i*g.Edges.length≤60*60:=Nat.mul_le_mul (by omega) hlen
    refine CD (by simp; omega) ?_
    refine BA (fun (s:Int) k=>(s,k)) 0 g.Edges.length (by omega) (fun k s=>s=((UK g.Edges a b i+if g.Edges[i].From=(a:Int) then QN (g.Edges.take k) g.Edges[i].To b else 0:Nat):Int)) (by omega) (by simp [QN]) (fun k s ny _ hk hm hy=>?_) (fun s ny hm=>?_)
    · subst hm
      dsimp only
      have hck:=tA (g.Edges.take k) g.Edges[i].To b
      rw [List.length_take] at hck
      refine CD (by simp; omega) (AV hi (CC (fun h=>?_) (fun h=>?_)))
      · rw [if_pos h]
        have hst:=uZ hk g.Edges[i].To (b:Int)
        refine AV hk (AV hi (CC (fun h3=>AV hk (CC (fun h4=>?_) (fun h4=>?_))) (fun h3=>?_)))
        · rw [if_pos ⟨h3,h4⟩] at hst
          refine hy _ ?_
          rw [if_pos h,hst,AW (by omega) (by omega)]
          omega
        · rw [if_neg (fun h5=>h4 h5.2)] at hst
          refine hy _ ?_
          rw [if_pos h,hst]
          omega
        · rw [if_neg (fun h5=>h3 h5.1)] at hst
          refine hy _ ?_
          rw [if_pos h,hst]
          omega
      · rw [if_neg h]
        refine hx _ ?_
        rw [aQ hi,if_neg h]
    · subst hm
      dsimp only
      refine AR (by simp) (hx _ ?_)
      rw [aQ hi,List.take_length]
  · subst hm
    dsimp only
    refine AR (by simp) (pQ h2c.sml (KQ h2c) h2c ?_)
    rw [hP.two (by omega) (by omega) ha hb]
    exact AR (by simp) (hnext2 trivial)
end Go.Proofs.YtbohadngdkjljaaGreat
