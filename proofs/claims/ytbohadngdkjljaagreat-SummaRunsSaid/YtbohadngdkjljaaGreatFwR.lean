/- The engine. -/
import Derived.Test.YtbohadngdkjljaaGreatFwB
import Derived.OrdersIn
namespace Go.Fw
open Go Go.RowKit
variable {w0:World} {M:Nat→Prop} {I0:IH}
variable {P:Program} {n:FrK} {E:D7} {Q:Exit→Act→World→Prop} {ops:Array Oper}
variable {listed:Array Bool} {l0 ex:List HA}
abbrev HM:=List (Nat×Nat×Value)
def JJ:List Nat→Nat→Bool
 | [],_=>false
 | x :: l,y=>bif Nat.beq x y then true else JJ l y
theorem E3 {l:List Nat} {y:Nat}:JJ l y=true↔y∈l:=by
 induction l with
 | nil=>simp [JJ]
 | cons x l D=>
  simp only [JJ,List.mem_cons]
  cases h:Nat.beq x y with
  | true=>simp [Nat.eq_of_beq_eq_true h]
  | false=>
   have:y≠x:=fun e=>by rw [e,Nat.beq_refl] at h; cases h
   simp [D,this]
def iQ:List Edge→List Nat
 | []=>[]
 | e :: l=>bif Region.binds .any e then e.on :: iQ l else iQ l
def EO (o:Oper):List Nat:=iQ o.after.toList
theorem WL {l:List Edge} {j:Nat}:j∈iQ l↔∃ e∈l,Region.binds .any e=true∧e.on=j:=by
  induction l with
  | nil=>simp [iQ]
  | cons e l ih=>
    simp only [iQ]
    cases h:Region.binds .any e with
    | true => simp only [cond_true, List.mem_cons, ih]; constructor
              · rintro (rfl | ⟨e',h1,h2,h3⟩)
                · exact ⟨e,.inl rfl,h,rfl⟩
                · exact ⟨e',.inr h1,h2,h3⟩
              · rintro ⟨e',rfl | h1,h2,h3⟩
                · exact .inl h3.symm
                · exact .inr ⟨e',h1,h2,h3⟩
    | false => simp only [cond_false, List.mem_cons, ih]; constructor
               · rintro ⟨e',h1,h2,h3⟩; exact ⟨e',.inr h1,h2,h3⟩
               · rintro ⟨e',rfl | h1,h2,h3⟩
                 · rw [h] at h2; cases h2
                 · exact ⟨e',h1,h2,h3⟩
def JK:HM→List Nat→D7→D7
 | [],_,E=>E
 | p :: r,js,E=>bif JJ js p.1 then p.2 :: JK r js E else JK r js E
def wP:HM→D7→D7
 | [],E=>E
 | p :: r,E=>p.2 :: wP r E
def H0:HM→Nat→Option (Nat×Value)
 | [],_=>none
 | p :: r,i=>bif Nat.beq p.1 i then some p.2 else H0 r i
def Fin (n:FrK) (S:World→Prop) (d:Nat) (v:Value):Exit→Act→World→Prop:=fun e a w=>e=.normal∧a.defers=n.defs∧a.tmps[d]? = some v∧S w
abbrev Sh:=List HA→List HA
def ShOk (L:Sh):Prop:=∀ X ex,(L (X :: ex)).Perm (X :: L ex)
theorem Del.perm {l m:List HA} {A:HA} (h:Del l A m):l.Perm (A :: m):=by
 induction h with
 | z=>exact .refl _
 | s _ D=>exact (D.cons _).trans (.swap ..)
theorem uJ {l J:List HA} {I:IH} (hp:l.Perm J):∀ {h:IH},OV l I h→OV J I h:=by
 induction hp with
 | nil=>exact fun h=>h
 | cons x _ V=>exact fun ⟨O,W,a,b,c,d,e⟩=>⟨O,W,a,b,c,d,V e⟩
 | swap x y l=>exact fun U=>eP (.s .z) U
 | trans _ _ D G=>exact fun h=>G (D h)
theorem Sym.perm {I:IH} {l D:List HA} {w:World} (hp:l.Perm D) (h:Sym w0 M I0 I l w):Sym w0 M I0 I D w:=by
 obtain ⟨G,hi,J,k,O,hk,V,U⟩:=h
 exact ⟨G,hi,J,k,uJ hp O,hk,V,U⟩
theorem ShOk.front {L:Sh} (h:ShOk L):∀ ex,(L ex).Perm (ex++L [])
 | []=>.refl _
 | X :: ex=>(h X ex).trans ((h.front ex).cons X)
theorem ShOk.app {L:Sh} (h:ShOk L) (pre:List HA):ShOk fun ex=>L (pre++ex):=fun X ex=>by
 refine (h.front _).trans (.trans ?_ ((h.front (pre++ex)).symm.cons X))
 simp only [List.append_assoc,List.cons_append]
 exact List.perm_middle
structure AS where
 i:Nat
 d:Nat
 env:D7
 val:Nat→Value
 atom:Nat→HA
def Ac0 (P:Program) (ops:Array Oper) (n:FrK) (w0:World) (M:Nat→Prop) (I0:IH) (s:AS):Prop:=
 ∃ o,ops[s.i]? = some o∧o.dst=some s.d∧∀ (I:IH) (L:Sh),ShOk L→∀ ex,Ops P ops [o] n s.env (Sym w0 M I0 I (L ex)) fun e a w=>e=.normal∧a.defers=n.defs∧∃ b,a.tmps[s.d]? = some (s.val b)∧Sym w0 M I0 I (L (s.atom b :: ex)) w
def M8:List AS→List Nat
 | []=>[]
 | s :: r=>s.i :: M8 r
def barD:List AS→HM→Sh→(HM→Sh→Prop)→Prop
 | [],dn,L,K=>K dn L
 | s :: r,dn,L,K=>∀ b,barD r ((s.i,s.d,s.val b) :: dn) (fun ex=>L (s.atom b :: ex)) K
def avals (bs:Nat→Nat):List AS→HM→HM
 | [],dn=>dn
 | s :: r,dn=>avals bs r ((s.i,s.d,s.val (bs s.i)) :: dn)
def atoms (bs:Nat→Nat):List AS→List HA
 | []=>[]
 | s :: r=>s.atom (bs s.i) :: atoms bs r
theorem barD.get (bs:Nat→Nat):∀ {as:List AS} {dn:HM} {L:Sh} {K:HM→Sh→Prop},barD as dn L K→K (avals bs as dn) (fun ex=>L (atoms bs as++ex))
 | [],_,_,_,h=>h
 | s :: r,_,_,_,h=>barD.get bs (as:=r) (h (bs s.i))
def nH (as X:List Nat):List Oper→Nat→Bool
 | [],_=>true
 | o :: r,i=>(JJ X i || JJ as i || !(EO o).all (fun p=>JJ X p || JJ as p) || as.all (JJ (EO o))) && nH as X r (i+1)
def PendL (P:Program) (ops:Array Oper) (n:FrK) (E:D7) (dn:HM) (S:List HA→World→Prop):List Nat→Prop
 | []=>True
 | f :: fs=>(∃ o d v,ops[f]? = some o∧o.dst=some d∧fresh E d=true∧H0 dn f=some (d,v)∧∀ ex,Ops P ops [o] n (JK dn (EO o) E) (S ex) (Fin n (S ex) d v))∧PendL P ops n E dn S fs
def nD (ops:Array Oper):Nat→Nat→Nat→Bool
 | 0,_,_=>false
 | k+1,f,c=>match ops[c]? with
  | none=>false
  | some o=>JJ (EO o) f || (EO o).any (nD ops k f)
def qN (ops:Array Oper) (c:Nat) (h pend:List Nat):Prop:=∀ f∈pend,f∈h∨∃ k,nD ops k f c=true
def Z6 (ops:Array Oper) (c f:Nat):Bool:=match ops[c]? with
 | none=>false
 | some o=>JJ (EO o) f
def nI (X:List Nat):List Nat→Bool
 | []=>true
 | p :: ps=>JJ X p && nI X ps
def WM (ops:List Oper) (X:List Nat) (c:Nat):Nat→Bool
 | i=>match ops with
  | []=>true
  | o :: r=>(JJ X i || Nat.beq i c || !nI X (EO o)) && WM r X c (i+1)
def O8 (X:List Nat):Nat→Bool
 | 0=>true
 | k+1=>JJ X k && O8 X k
def XT (o:Oper) (c:Nat) (dn:HM) (a:Act) (h:HM):Prop:=
 match o.dst with
 | some d=>∃ v,a.tmps[d]? = some v∧h=(c,d,v) :: dn
 | none=>h=dn
def Z7 (X:List Nat):Nat→Bool
 | 0=>true
 | k+1=>JJ X k && Z7 X k
def S8:List Oper→Nat→Bool
 | [],_=>true
 | o :: r,i=>Z7 (EO o) i && S8 r (i+1)
def rmE (d:Nat):D7→D7
 | []=>[]
 | p :: r=>bif Nat.beq p.1 d then rmE d r else p :: rmE d r
def ST (o:Oper) (E:D7):D7:=match o.dst with
 | none=>E
 | some d=>bif fresh E d then E else rmE d E
def DrawD (P:Program) (ops:Array Oper) (n:FrK) (Q:Exit→Act→World→Prop) (w0:World) (M:Nat→Prop) (I0:IH):D7→List (Option Nat)→HM→List Nat→List Nat→List AS→IH→Sh→Prop
 | E,[],dn,X,_,as,I,L=>as=[]∧∃ t,O8 X t=true∧(∀ x∈X,x<t)∧S8 (ops.toList.drop t) t=true∧Ops P ops (ops.toList.drop t) n (wP dn E) (Sym w0 M I0 I (L [])) Q
 | E,none :: cs,dn,X,pend,as,I,L=>nH (M8 as) X ops.toList 0=true∧barD as dn L fun D G=>DrawD P ops n Q w0 M I0 E cs D (M8 as++X) pend [] I G
 | E,some c :: cs,dn,X,pend,as,I,L=>∃ o,ops[c]? = some o ∧
  ((∃ d v,o.dst=some d∧fresh E d=true∧(∀ ex,Ops P ops [o] n (JK dn (EO o) E) (Sym w0 M I0 I (L ex)) (Fin n (Sym w0 M I0 I (L ex)) d v))∧DrawD P ops n Q w0 M I0 E cs ((c,d,v) :: dn) (c :: X) (c :: pend) as I L)
  ∨ (∃ d val atom,o.dst=some d∧fresh E d=true∧nI X (EO o)=true∧Ac0 P ops n w0 M I0 ⟨c,d,JK dn (EO o) E,val,atom⟩∧DrawD P ops n Q w0 M I0 E cs dn X pend (⟨c,d,JK dn (EO o) E,val,atom⟩ :: as) I L)
  ∨ (WM ops.toList (M8 as++X) c 0=true∧(as=[]∨ST o E=E)∧∃ h,qN ops c h pend∧∀ ex,Ops P ops [o] n (JK dn (EO o) E) (Sym w0 M I0 I (L ex)) fun e a w=>e=.normal∧a.defers=n.defs ∧
   ∃ J G D,XT o c dn a D∧ShOk G∧Sym w0 M I0 J (G ex) w∧PendL P ops n (ST o E) D (fun ex=>Sym w0 M I0 J (G ex)) h∧DrawD P ops n Q w0 M I0 (ST o E) cs D (c :: X) h as J G))
def YB (n:FrK):List Oper→List Nat→Bool
 | [],_=>true
 | o :: r,ds=>match o.dst with
  | none=>YB n r ds
  | some d=>Nat.blt d n.sz && !JJ ds d && YB n r (d :: ds)
def YC:List Oper→Nat→Bool
 | [],_=>true
 | o :: r,i=>(EO o).all (Nat.blt · i) && YC r (i+1)
theorem AcH {o:Oper} {a:Act} {w:World} (V:a.defers=n.defs) {K':Act→World→Prop} {J:Exit→Act→World→Prop} (U:∀ e a w,J e a w→e=.normal) (W:∀ a w,K' a w→a.defers=n.defs)
  (h:o.wpIn (SP n) 0 P a w K' J):o.wpIn (SP n) 0 P a w (fun a' w'=>K' a' w'∧∃ v,a'=a.put o.dst v) Q:=by
 have hp:∀ c a w,¬J (.panic c) a w:=fun c a w O=>by cases U _ _ _ O
 have D:¬LetsOut J:=fun ⟨a,w,O⟩=>by cases U _ _ _ O
 unfold Oper.wpIn at *
 refine ⟨h.1,?_⟩
 replace h:=h.2
 generalize (o.semAt (SP n).round a.eval).run P w=r at *
 cases r with
 | ok x w'=>
  cases x <;> simp only [Oper.uponIn] at h ⊢
  case value v=>exact ⟨h,v,rfl⟩
  case skip=>exact ⟨h,_,rfl⟩
  case defer d=>exact absurd (W _ _ h) (by rw [←V]; unfold Act.put; split <;> simp)
  case round=>refine ⟨h.1,RoundIn.mono h.2 fun e G he=>?_⟩; cases e with
   | returned v=>exact ⟨he,v,rfl⟩
   | panicked c=>exact (hp _ _ _ he).elim
   | outgrown=>exact (D he).elim
  case enter f args=>
   refine ⟨h.1,CallsIn.mono h.2 fun e G he=>?_⟩
   cases e with
   | returned v=>exact ⟨he,v,rfl⟩
   | panicked c=>exact (hp _ _ _ he).elim
   | outgrown=>exact (D he).elim
  case row=>exact ⟨h.1,RowsIn.mono h.2 fun v G he=>⟨he,v,rfl⟩⟩
 | halt x w'=>
  cases x <;> simp only [Oper.uponIn] at h ⊢
  exact (hp _ _ _ h).elim
theorem eT {o:Oper} {i:Nat} {a:Act} {w:World} (V:a.defers=n.defs) {D:Exit→Act→World→Prop} {K:Act→World→Prop} (hi:ops[i]? = some o) (O:∀ e a w,D e a w→e=.normal∧a.defers=n.defs)
   (h:wpListIn (SP n) 0 P ops D [o] a w) (U:∀ a' w',D .normal a' w'→(∃ v,a'=a.put o.dst v)→K a' w'):wpOpIn (SP n) 0 P ops Q i K a w:=by
 simp only [wpOpIn,hi]
 unfold wpListIn at h
 split
 · rename_i G
   rw [if_pos G] at h
   refine Oper.wpIn_mono (fun a' w' J=>U a' w' J.1 J.2) (AcH V (K':=fun a w=>D .normal a w) (Q:=Q) (fun e a w h=>(O e a w h).1) (fun a w h=>(O _ _ _ h).2) ?_)
   exact h
 · rename_i G
   rw [if_neg G] at h
   exact ⟨h.1,U _ _ h.2 ⟨undef,rfl⟩⟩
structure RI (P:Program) (ops:Array Oper) (n:FrK) (E:D7) (Q:Exit→Act→World→Prop) (w0:World) (M:Nat→Prop) (I0:IH) (listed:Array Bool) (a:Act) (w:World) (cs:List (Option Nat)) (dn:HM) (X pend:List Nat) (as:List AS) (I:IH) (L:Sh) (ad:List (AS×Nat)):Prop where
 draw:DrawD P ops n Q w0 M I0 E cs dn X pend as I L
 shape:ShOk L
 sat:Sym w0 M I0 I (L (ad.map fun p=>p.1.atom p.2)) w
 size:a.tmps.size=n.sz
 defers:a.defers=n.defs
 env:EnvOk E a
 lsize:listed.size=ops.size
 val:∀ i d v,(i,d,v)∈dn→listed.getD i false=true→a.tmps[d]? = some v
 have_:∀ i o d,ops[i]? = some o→o.dst=some d→i∈X→∃ v,(i,d,v)∈dn
 dnOk:∀ i d v,(i,d,v)∈dn→i∈X∧H0 dn i=some (d,v)∧∃ o,ops[i]? = some o∧o.dst=some d
 inX:∀ i,listed.getD i false=true→i∈M8 as++X
 outX:∀ i,i∈X→listed.getD i false=false→i∈pend
 pendL:PendL P ops n E dn (fun ex=>Sym w0 M I0 I (L ex)) pend
 down:∀ i o,listed.getD i false=true→ops[i]? = some o→∀ p∈EO o,listed.getD p false=true
 asX:∀ c∈M8 as,c ∉ X
 asNd:(M8 as).Nodup
 asSp:∀ s∈as,Ac0 P ops n w0 M I0 s∧∀ o,ops[s.i]? = some o→(∀ p∈EO o,p∈X)∧JK dn (EO o) E=s.env∧fresh E s.d=true
 adOk:∀ p∈ad,p.1∈as∧listed.getD p.1.i false=true∧a.tmps[p.1.d]? = some (p.1.val p.2)
 adAll:∀ s∈as,listed.getD s.i false=true→∃ b,(s,b)∈ad
 adNd:(ad.map fun p=>p.1.i).Nodup
theorem PendL.get {dn:HM} {S:List HA→World→Prop}:∀ {l:List Nat},PendL P ops n E dn S l→∀ f∈l,∃ o d v,ops[f]? = some o∧o.dst=some d∧fresh E d=true∧H0 dn f=some (d,v)∧∀ ex,Ops P ops [o] n (JK dn (EO o) E) (S ex) (Fin n (S ex) d v)
 | f :: fs,⟨h,h'⟩,g,hg=>by
  cases hg with
  | head=>exact h
  | tail _ hg=>exact PendL.get h' g hg
theorem sK {a:Act} {js:List Nat} (G:EnvOk E a):∀ {dn:HM},(∀ i d v,(i,d,v)∈dn→i∈js→a.tmps[d]? = some v)→EnvOk (JK dn js E) a
 | [],_=>G
 | (i,d,v) :: dn,h=>by
  have ih:=sK (js:=js) G (dn:=dn) (fun i d v D=>h i d v (List.mem_cons_of_mem _ D))
  simp only [JK]
  cases D:JJ js i with
  | true=>exact ⟨h i d v (by simp) (E3.1 D),ih⟩
  | false=>exact ih
theorem sL {a:Act} (D:EnvOk E a):∀ {dn:HM},(∀ i d v,(i,d,v)∈dn→a.tmps[d]? = some v)→EnvOk (wP dn E) a
 | [],_=>D
 | (i,d,v) :: dn,h=>⟨h i d v (by simp),sL D fun i d v G=>h i d v (List.mem_cons_of_mem _ G)⟩
theorem eU {l:List Nat} {y:Nat} (h:JJ l y=false):y ∉ l:=fun D=>by rw [E3.2 D] at h; cases h
theorem TI {X:List Nat}:∀ {k i:Nat},O8 X k=true→i<k→i∈X
 | k+1,i,h,hi=>by
  simp only [O8,Bool.and_eq_true] at h
  by_cases e:i=k
  · subst e; exact E3.1 h.1
  · exact TI h.2 (by omega)
theorem sM {X:List Nat}:∀ {D:List Nat},(∀ p∈D,p∈X)→nI X D=true
 | [],_=>rfl
 | p :: D,h=>by simp only [nI,Bool.and_eq_true]; exact ⟨E3.2 (h p (by simp)),sM fun q G=>h q (List.mem_cons_of_mem _ G)⟩
theorem kN {X:List Nat} {c:Nat} {l:List Oper}:∀ (k:Nat),WM l X c k=true→∀ (i:Nat) (o:Oper),l[i]? = some o→k+i∈X∨k+i=c∨¬(∀ p∈EO o,p∈X):=by
 induction l with
 | nil=>intro k _ i o hi; simp at hi
 | cons o' l G=>
  intro k h i o hi
  simp only [WM,Bool.and_eq_true,Bool.or_eq_true] at h
  cases i with
  | zero=>
   simp at hi; subst hi
   rcases h.1 with (D | D) | D
   · exact .inl (E3.1 D)
   · exact .inr (.inl (Nat.eq_of_beq_eq_true D))
   · refine .inr (.inr fun J=>?_)
     rw [sM J] at D; cases D
  | succ i=>
   have:=G (k+1) h.2 i o (by simpa using hi)
   rwa [show k+1+i=k+(i+1) by omega] at this
theorem qO (G:∀ (i:Nat) (o:Oper),listed.getD i false=true→ops[i]? = some o→∀ p∈EO o,listed.getD p false=true) (k:Nat) :
  ∀ (f c:Nat) (o:Oper),ops[c]? = some o→(∀ p∈EO o,listed.getD p false=true)→nD ops k f c=true→listed.getD f false=true:=by
 induction k with
 | zero=>intro f c o _ _ h; simp [nD] at h
 | succ k O=>
  intro f c o J hp h
  simp only [nD,J,Bool.or_eq_true,List.any_eq_true] at h
  rcases h with h | ⟨p,D,h⟩
  · exact hp f (E3.1 h)
  · cases ho:ops[p]? with
    | none=>cases k <;> simp [nD,ho] at h
    | some o'=>exact O f p o' ho (G p o' (hp p D) ho) h
theorem nJ {f c:Nat} (h:Z6 ops c f=true):nD ops 1 f c=true:=by
 unfold Z6 at h
 unfold nD
 cases hc:ops[c]? with
 | none=>rw [hc] at h; cases h
 | some o=>rw [hc] at h; simp [h]
theorem wQ {f p c:Nat} (h:Z6 ops p f=true):∀ {k:Nat},nD ops k p c=true→∃ G,nD ops G f c=true:=by
 intro k
 induction k generalizing c with
 | zero=>intro D; simp [nD] at D
 | succ k J=>
  intro D
  unfold nD at D
  cases hc:ops[c]? with
  | none=>rw [hc] at D; cases D
  | some o=>
   rw [hc] at D
   simp only [Bool.or_eq_true,List.any_eq_true] at D
   rcases D with D | ⟨q,O,D⟩
   · refine ⟨2,?_⟩
     unfold nD
     rw [hc]
     simp only [Bool.or_eq_true,List.any_eq_true]
     exact .inr ⟨p,E3.1 D,nJ h⟩
   · obtain ⟨G,hk⟩:=J D
     refine ⟨G+1,?_⟩
     unfold nD
     rw [hc]
     simp only [Bool.or_eq_true,List.any_eq_true]
     exact .inr ⟨q,O,hk⟩
theorem nK {l:List Oper}:∀ (O:List Nat),YB n l O=true→∀ (i:Nat) (o:Oper) (d:Nat),l[i]? = some o→o.dst=some d →
  Nat.blt d n.sz=true∧d ∉ O∧∀ (j:Nat) (o':Oper),l[j]? = some o'→o'.dst=some d→j=i:=by
 induction l with
 | nil=>intro O _ i o d hi; simp at hi
 | cons o' l Z=>
  intro O h i o d hi U
  simp only [YB] at h
  cases hd:o'.dst with
  | none=>
   rw [hd] at h
   cases i with
   | zero=>simp at hi; subst hi; rw [hd] at U; cases U
   | succ i=>
    obtain ⟨Y,V,W⟩:=Z O h i o d (by simpa using hi) U
    refine ⟨Y,V,fun j G J D=>?_⟩
    cases j with
    | zero=>simp at J; subst J; rw [hd] at D; cases D
    | succ j=>rw [W j G (by simpa using J) D]
  | some d'=>
   simp only [hd,Bool.and_eq_true,Bool.not_eq_true'] at h
   obtain ⟨⟨g1,g3⟩,g4⟩:=h
   cases i with
   | zero=>
    simp at hi; subst hi; rw [hd] at U; cases U
    refine ⟨g1,eU g3,fun j G J D=>?_⟩
    cases j with
    | zero=>rfl
    | succ j=>
     have:=(Z (d :: O) g4 j G d (by simpa using J) D).2.1
     exact absurd (by simp) this
   | succ i=>
    obtain ⟨Y,V,W⟩:=Z (d' :: O) g4 i o d (by simpa using hi) U
    refine ⟨Y,fun hm=>V (List.mem_cons_of_mem _ hm),fun j G J D=>?_⟩
    cases j with
    | zero=>simp at J; subst J; rw [hd] at D; cases D; exact absurd (by simp) V
    | succ j=>rw [W j G (by simpa using J) D]
theorem cR {l:List Oper}:∀ (k:Nat),YC l k=true→∀ (i:Nat) (o:Oper),l[i]? = some o→∀ p∈EO o,p<k+i:=by
 induction l with
 | nil=>intro k _ i o hi; simp at hi
 | cons o' l D=>
  intro k h i o hi p hp
  simp only [YC,Bool.and_eq_true,List.all_eq_true] at h
  cases i with
  | zero=>simp at hi; subst hi; have:=h.1 p hp; simpa [Nat.blt_eq] using this
  | succ i=>have:=D (k+1) h.2 i o (by simpa using hi) p hp; omega
theorem nL {ops:Array Oper} {i:Nat}:ops.toList[i]? = ops[i]?:=by simp
theorem G9 {i j:Nat} (hi:i<listed.size):(listed.setIfInBounds i true).getD j false=true↔j=i∨listed.getD j false=true:=by
 simp only [Array.getD_eq_getD_getElem?,Array.getElem?_setIfInBounds]
 by_cases e:i=j
 · subst e; simp [hi]
 · simp [e,Ne.symm e]
theorem qP {as X:List Nat} {l:List Oper}:∀ (k:Nat),nH as X l k=true→∀ (i:Nat) (o:Oper),l[i]? = some o→k+i∈as++X∨¬(∀ p∈EO o,p∈as++X)∨∀ c∈as,c∈EO o:=by
 induction l with
 | nil=>intro k _ i o hi; simp at hi
 | cons o' l O=>
  intro k h i o hi
  simp only [nH,Bool.and_eq_true,Bool.or_eq_true] at h
  cases i with
  | zero=>
   simp at hi; subst hi
   rcases h.1 with ((D | D) | D) | D
   · exact .inl (List.mem_append.2 (.inr (E3.1 D)))
   · exact .inl (List.mem_append.2 (.inl (E3.1 D)))
   · refine .inr (.inl fun U=>?_)
     have:(EO o').all (fun p=>JJ X p || JJ as p)=true:=List.all_eq_true.2 fun p hp=>by
      rcases List.mem_append.1 (U p hp) with G | G
      · simp [E3.2 G]
      · simp [E3.2 G]
     rw [this] at D; cases D
   · exact .inr (.inr fun c J=>E3.1 (List.all_eq_true.1 D c J))
  | succ i=>
   have:=O (k+1) h.2 i o (by simpa using hi)
   rwa [show k+1+i=k+(i+1) by omega] at this
def PO:List (Option Nat)→List Nat
 | []=>[]
 | none :: r=>PO r
 | some c :: r=>c :: PO r
theorem RR {c:Nat}:∀ {as:List AS},c∈M8 as↔∃ s∈as,s.i=c
 | []=>by simp [M8]
 | s :: r=>by
  simp only [M8,List.mem_cons,RR (as:=r)]
  constructor
  · rintro (rfl | ⟨G,D,h⟩)
    · exact ⟨s,.inl rfl,rfl⟩
    · exact ⟨G,.inr D,h⟩
  · rintro ⟨G,rfl | D,h⟩
    · exact .inl h.symm
    · exact .inr ⟨G,D,h⟩
theorem NW {α β:Type} {f:α→β}:∀ {l:List α},(l.map f).Nodup→∀ {x y:α},x∈l→y∈l→f x=f y→x=y
 | a :: l,h,x,y,hx,hy,e=>by
  simp only [List.map_cons,List.nodup_cons,List.mem_map,not_exists,not_and] at h
  rcases List.mem_cons.1 hx with h1 | h1 <;> rcases List.mem_cons.1 hy with h2 | h2
  · rw [h1,h2]
  · rw [h1] at e; exact absurd e.symm (h.1 y h2)
  · rw [h2] at e; exact absurd e (h.1 x h1)
  · exact NW h.2 h1 h2 e
theorem TJ {α β:Type} {f:α→β}:∀ {l:List α},(l.map f).Nodup→l.Nodup
 | [],_=>.nil
 | a :: l,h=>by
  simp only [List.map_cons,List.nodup_cons,List.mem_map,not_exists,not_and] at h
  exact List.nodup_cons.2 ⟨fun D=>h.1 a D rfl,TJ h.2⟩
theorem eI:∀ {as:List AS},M8 as=as.map (·.i)
 | []=>rfl
 | s :: r=>by simp [M8,eI (as:=r)]
theorem iR {bs:Nat→Nat}:∀ {as:List AS},atoms bs as=(as.map fun s=>(s,bs s.i)).map fun p=>p.1.atom p.2
 | []=>rfl
 | s :: r=>by simp [atoms,iR (as:=r)]
theorem bK {bs:Nat→Nat} {i d:Nat} {v:Value}:∀ {as:List AS} {dn:HM},(i,d,v)∈avals bs as dn→(i,d,v)∈dn∨∃ s∈as,i=s.i∧d=s.d∧v=s.val (bs s.i)
 | [],_,h=>.inl h
 | s :: r,dn,h=>by
  rcases bK (as:=r) h with D | ⟨s',D,h2⟩
  · rcases List.mem_cons.1 D with D | D
    · cases D; exact .inr ⟨s,by simp,rfl,rfl,rfl⟩
    · exact .inl D
  · exact .inr ⟨s',List.mem_cons_of_mem _ D,h2⟩
theorem YD {bs:Nat→Nat}:∀ {as:List AS} {dn:HM},(∀ p∈dn,p∈avals bs as dn)∧∀ s∈as,(s.i,s.d,s.val (bs s.i))∈avals bs as dn
 | [],_=>⟨fun _ h=>h,by simp⟩
 | s :: r,dn=>by
  have ih:=YD (bs:=bs) (as:=r) (dn:=(s.i,s.d,s.val (bs s.i)) :: dn)
  refine ⟨fun p hp=>ih.1 p (List.mem_cons_of_mem _ hp),fun s' D=>?_⟩
  rcases List.mem_cons.1 D with rfl | D
  · exact ih.1 _ (by simp)
  · exact ih.2 _ D
theorem eV {i c:Nat} (h:c≠i):Nat.beq c i=false:=by cases hb:Nat.beq c i with | false=>rfl | true=>exact absurd (Nat.eq_of_beq_eq_true hb) h
theorem V0 {bs:Nat→Nat} {i:Nat}:∀ {as:List AS} {dn:HM},i ∉ M8 as→H0 (avals bs as dn) i=H0 dn i
 | [],_,_=>rfl
 | s :: r,dn,h=>by
  simp only [M8,List.mem_cons,not_or] at h
  rw [avals,V0 h.2]
  simp only [H0,eV (Ne.symm h.1),cond_false]
theorem Z8 {bs:Nat→Nat}:∀ {as:List AS} {dn:HM},(M8 as).Nodup→∀ s∈as,H0 (avals bs as dn) s.i=some (s.d,s.val (bs s.i))
 | s :: r,dn,h,s',hs'=>by
  simp only [M8,List.nodup_cons] at h
  rcases List.mem_cons.1 hs' with rfl | hs'
  · rw [avals,V0 h.1]; simp [H0]
  · exact Z8 h.2 s' hs'
theorem iS {l:HM} {c:Nat} {x:Nat×Value} (h:H0 l c=some x):(c,x)∈l:=by
 induction l with
 | nil=>simp [H0] at h
 | cons q l D=>
  simp only [H0] at h
  cases hb:Nat.beq q.1 c with
  | true=>rw [hb] at h; simp at h; have:=Nat.eq_of_beq_eq_true hb; subst h; subst this; simp
  | false=>rw [hb] at h; exact List.mem_cons_of_mem _ (D h)
theorem eW {c d:Nat} {v:Value} {dn:HM} {js:List Nat} {a:Act} (he:EnvOk (JK ((c,d,v) :: dn) js E) a):EnvOk (JK dn js E) a:=by
 simp only [JK] at he
 cases hm:JJ js c with
 | false=>rw [hm] at he; exact he
 | true=>rw [hm] at he; exact he.2
theorem PendL.push {c d:Nat} {v:Value} {dn:HM} {S:List HA→World→Prop} (G:∀ x,H0 dn c≠some x):∀ {l:List Nat},PendL P ops n E dn S l→PendL P ops n E ((c,d,v) :: dn) S l
 | [],_=>trivial
 | f :: fs,⟨⟨o',d',v',h1,h2,hfr,h3,h4⟩,h5⟩=>by
  refine ⟨⟨o',d',v',h1,h2,hfr,?_,fun ex a' w' h D=>h4 ex a' w' ⟨h.size,h.defers,eW h.env⟩ D⟩,PendL.push G h5⟩
  have hne:c≠f:=fun e=>by subst e; exact G _ h3
  simp only [H0,eV hne,cond_false]; exact h3
theorem PendL.app {dn:HM} {S:List HA→World→Prop} (g:List HA→List HA):∀ {l:List Nat},PendL P ops n E dn S l→PendL P ops n E dn (fun ex=>S (g ex)) l
 | [],_=>trivial
 | _ :: _,⟨⟨o',d',v',h1,h2,hfr,h3,h4⟩,h5⟩=>⟨⟨o',d',v',h1,h2,hfr,h3,fun ex=>h4 (g ex)⟩,PendL.app g h5⟩
theorem PendL.avals {bs:Nat→Nat} {S:List HA→World→Prop} {l:List Nat}:∀ {as:List AS} {dn:HM},(M8 as).Nodup→(∀ c∈M8 as,∀ x,H0 dn c≠some x)→PendL P ops n E dn S l→PendL P ops n E (avals bs as dn) S l
 | [],_,_,_,h=>h
 | s :: r,dn,hn,hd,h=>by
  simp only [M8,List.nodup_cons] at hn
  refine PendL.avals (as:=r) hn.2 (fun c G x=>?_) (h.push (hd s.i (by simp [M8])))
  have D:s.i≠c:=fun e=>by subst e; exact hn.1 G
  simp only [H0,eV D,cond_false]
  exact hd c (by simp [M8,G]) x
theorem iT {X:List Nat}:∀ {D:List Nat},nI X D=true→∀ p∈D,p∈X
 | q :: D,h,p,hp=>by
  simp only [nI,Bool.and_eq_true] at h
  rcases List.mem_cons.1 hp with rfl | hp
  · exact E3.1 h.1
  · exact iT h.2 p hp
theorem RI.norm {a:Act} {w:World}:∀ {cs:List (Option Nat)} {dn:HM} {X pend:List Nat} {as:List AS} {I:IH} {L:Sh} {ad:List (AS×Nat)},RI P ops n E Q w0 M I0 listed a w cs dn X pend as I L ad →
    (∀ c∈PO cs,c ∉ M8 as++X)→(PO cs).Nodup→∃ cs' dn' X' pend' as' L' ad',RI P ops n E Q w0 M I0 listed a w cs' dn' X' pend' as' I L' ad'∧(∀ c∈PO cs',c ∉ M8 as'++X')∧(PO cs').Nodup∧(∀ c∈PO cs',c∈PO cs)∧(∀ c∈M8 as'++X',c∈M8 as++X∨c∈PO cs)∧(∀ i,(i∈M8 as++X∨i∈PO cs)→(i∈M8 as'++X'∨i∈PO cs')) ∧
      (cs'=[]∨(∃ r,cs'=none :: r∧∃ c∈M8 as',listed.getD c false=false)∨∃ c r o,cs'=some c :: r∧ops[c]? = some o∧WM ops.toList (M8 as'++X') c 0=true∧(as'=[]∨ST o E=E)∧∃ p',qN ops c p' pend'∧∀ ex,Ops P ops [o] n (JK dn' (EO o) E) (Sym w0 M I0 I (L' ex)) fun e a w=>e=.normal∧a.defers=n.defs ∧
          ∃ I2 L2 dn2,XT o c dn' a dn2∧ShOk L2∧Sym w0 M I0 I2 (L2 ex) w∧PendL P ops n (ST o E) dn2 (fun ex=>Sym w0 M I0 I2 (L2 ex)) p'∧DrawD P ops n Q w0 M I0 (ST o E) r dn2 (c :: X') p' as' I2 L2):=by
  intro cs
  induction cs with
  | nil=>exact fun h _ _=>⟨_,_,_,_,_,_,_,h,by simp [PO],by simp [PO],by simp [PO],fun c hc=>.inl hc,fun _ h=>h,.inl rfl⟩
  | cons c? cs ih=>
    intro dn X pend as I L ad h hX hN
    cases c? with
    | none=>
      by_cases hall:∀ c∈M8 as,listed.getD c false=true
      · -- the barrier falls
        have hd:=h.draw
        simp only [DrawD] at hd
        have hex:∀ i,∃ b,∀ s∈as,s.i=i→(s,b)∈ad:=fun i=>by
          by_cases hi:∃ s∈as,s.i=i
          · obtain ⟨s,hs,rfl⟩:=hi
            obtain ⟨b,hb⟩:=h.adAll s hs (hall _ (RR.2 ⟨s,hs,rfl⟩))
            refine ⟨b,fun s' hs' e=>?_⟩
            have hnd:=h.asNd
            rw [eI] at hnd
            rw [NW hnd hs' hs e]; exact hb
          · exact ⟨0,fun s hs e=>absurd ⟨s,hs,e⟩ hi⟩
        obtain ⟨bs,hbs⟩:∃ bs:Nat→Nat,∀ s∈as,(s,bs s.i)∈ad:=⟨fun i=>Classical.choose (hex i),fun s hs=>Classical.choose_spec (hex s.i) s hs rfl⟩
        have hperm:(ad.map fun p=>p.1.atom p.2).Perm (atoms bs as):=by
          rw [iR]
          refine List.Perm.map _ ?_
          have hnd2:(as.map fun s=>(s,bs s.i)).Nodup:=by
            have hnd:=h.asNd
            rw [eI] at hnd
            refine TJ (f:=fun p=>p.1.i) ?_
            simpa [Function.comp_def] using hnd
          refine (List.perm_ext_iff_of_nodup (TJ h.adNd) hnd2).2 fun p=>⟨fun hp=>?_,fun hp=>?_⟩
          · have h1:=(h.adOk p hp).1
            have:=NW h.adNd hp (hbs p.1 h1) rfl
            exact List.mem_map.2 ⟨p.1,h1,this.symm⟩
          · obtain ⟨s,hs,rfl⟩:=List.mem_map.1 hp
            exact hbs s hs
        have hdl:∀ c∈M8 as,∀ x,H0 dn c≠some x:=fun c hc x e=>h.asX c hc (h.dnOk c x.1 x.2 (iS e)).1
        have H:RI P ops n E Q w0 M I0 listed a w cs (Fw.avals bs as dn) (M8 as++X) pend [] I (fun ex=>L (Fw.atoms bs as++ex)) []:=by
          refine ⟨hd.2.get bs,h.shape.app _,?_,h.size,h.defers,h.env,h.lsize,?_,?_,?_,h.inX,?_,?_,h.down,by simp [M8],by simp [M8],by simp,by simp,by simp,by simp⟩
          · refine h.sat.perm (((h.shape.front _).trans ?_).trans (h.shape.front _).symm)
            simp only [List.map_nil,List.append_nil]
            exact hperm.append_right _
          · intro i d v hm hl
            rcases bK hm with hm | ⟨s,hs,rfl,rfl,rfl⟩
            · exact h.val i d v hm hl
            · exact (h.adOk _ (hbs s hs)).2.2
          · intro i o d hi hd hm
            rcases List.mem_append.1 hm with hm | hm
            · obtain ⟨s,hs,rfl⟩:=RR.1 hm
              obtain ⟨o',ho',hd',_⟩:=(h.asSp s hs).1
              rw [hi] at ho'; cases ho'; rw [hd] at hd'; cases hd'
              exact ⟨_,YD.2 s hs⟩
            · obtain ⟨v,hv⟩:=h.have_ i o d hi hd hm
              exact ⟨v,YD.1 _ hv⟩
          · intro i d v hm
            rcases bK hm with hm | ⟨s,hs,rfl,rfl,rfl⟩
            · obtain ⟨g1,g2,g3⟩:=h.dnOk i d v hm
              exact ⟨List.mem_append.2 (.inr g1),(V0 (fun hc=>h.asX i hc g1)).trans g2,g3⟩
            · obtain ⟨o',ho',hd',_⟩:=(h.asSp s hs).1
              exact ⟨List.mem_append.2 (.inl (RR.2 ⟨s,hs,rfl⟩)),Z8 h.asNd s hs,o',ho',hd'⟩
          · intro i hi hl
            rcases List.mem_append.1 hi with hi | hi
            · rw [hall i hi] at hl; cases hl
            · exact h.outX i hi hl
          · exact (h.pendL.app (fun ex=>Fw.atoms bs as++ex)).avals h.asNd hdl
        have g:=ih H (by simpa [M8,PO] using hX) hN
        simp only [M8,List.nil_append] at g
        exact g
      · refine ⟨none :: cs,dn,X,pend,as,L,ad,h,hX,hN,fun c hc=>hc,fun c hc=>.inl hc,fun _ h=>h,.inr (.inl ⟨cs,rfl,?_⟩)⟩
        refine Classical.byContradiction fun hne=>hall fun c hc=>?_
        cases hl:listed.getD c false with
        | true=>rfl
        | false=>exact absurd ⟨c,hc,hl⟩ hne
    | some c=>
    have hd:=h.draw
    simp only [DrawD] at hd
    simp only [PO,List.nodup_cons] at hN
    have hcX:c ∉ M8 as++X:=hX c (by simp [PO])
    have hnl:listed.getD c false=false:=by cases hl:listed.getD c false with | false=>rfl | true=>exact absurd (h.inX c hl) hcX
    obtain ⟨o,ho,hd | hd | hd⟩:=hd
    · obtain ⟨d,v,hod,hfr,hops,hdr⟩:=hd
      have hcX':c ∉ X:=fun hm=>hcX (List.mem_append.2 (.inr hm))
      have hcdn:∀ d v,(c,d,v) ∉ dn:=fun d v hm=>hcX' (h.dnOk c d v hm).1
      have hdl:∀ i d' v',(i,d',v')∈dn→H0 ((c,d,v) :: dn) i=some (d',v'):=fun i d' v' hm=>by
        have hne:c≠i:=fun e=>by subst e; exact hcdn _ _ hm
        simp only [H0,eV hne,cond_false]; exact (h.dnOk i d' v' hm).2.1
      suffices H:RI P ops n E Q w0 M I0 listed a w cs ((c,d,v) :: dn) (c :: X) (c :: pend) as I L ad∧(∀ c'∈PO cs,c' ∉ M8 as++c :: X) by
        obtain ⟨cs',dn',X',pend',as',L',ad',g1,g2,g3,g4,g5,g7,g6⟩:=ih H.1 H.2 hN.2
        refine ⟨cs',dn',X',pend',as',L',ad',g1,g2,g3,fun c' hc'=>List.mem_cons_of_mem _ (g4 c' hc'),fun c' hc'=>?_,fun i hi=>g7 i ?_,g6⟩
        · rcases g5 c' hc' with h1 | h1
          · simp only [List.mem_append,List.mem_cons,PO] at h1 ⊢
            rcases h1 with h1 | rfl | h1
            · exact .inl (.inl h1)
            · exact .inr (.inl rfl)
            · exact .inl (.inr h1)
          · exact .inr (List.mem_cons_of_mem _ h1)
        · simp only [List.mem_append,List.mem_cons,PO] at hi ⊢
          rcases hi with (h1 | h1) | h1 | h1
          · exact .inl (.inl h1)
          · exact .inl (.inr (.inr h1))
          · exact .inl (.inr (.inl h1))
          · exact .inr h1
      refine ⟨⟨hdr,h.shape,h.sat,h.size,h.defers,h.env,h.lsize,?_,?_,?_,fun i hi=>?_,?_,?_,h.down,?_,h.asNd,?_,h.adOk,h.adAll,h.adNd⟩,fun c' hc'=>?_⟩
      · intro i d' v' hm hl
        cases hm with
        | head=>rw [hnl] at hl; cases hl
        | tail _ hm=>exact h.val i d' v' hm hl
      · intro i o' d' hi hd' hm
        rcases List.mem_cons.1 hm with rfl | hm
        · rw [ho] at hi; cases hi; rw [hod] at hd'; cases hd'; exact ⟨v,by simp⟩
        · obtain ⟨v',hv'⟩:=h.have_ i o' d' hi hd' hm; exact ⟨v',List.mem_cons_of_mem _ hv'⟩
      · intro i d' v' hm
        cases hm with
        | head=>exact ⟨by simp,by simp [H0],o,ho,hod⟩
        | tail _ hm=>exact ⟨List.mem_cons_of_mem _ (h.dnOk i d' v' hm).1,hdl i d' v' hm,(h.dnOk i d' v' hm).2.2⟩
      · have:=h.inX i hi
        simp only [List.mem_append,List.mem_cons] at this ⊢
        exact this.imp id .inr
      · intro i hi hl
        rcases List.mem_cons.1 hi with rfl | hi
        · simp
        · exact List.mem_cons_of_mem _ (h.outX i hi hl)
      · refine ⟨⟨o,d,v,ho,hod,hfr,by simp [H0],fun ex a' w' hok hs'=>hops ex a' w' ⟨hok.size,hok.defers,eW hok.env⟩ hs'⟩,h.pendL.push fun x hx=>hcdn _ _ (iS hx)⟩
      · intro c' hc' hm
        rcases List.mem_cons.1 hm with rfl | hm
        · exact hcX (List.mem_append.2 (.inl hc'))
        · exact h.asX c' hc' hm
      · intro s hs
        obtain ⟨g1,g2⟩:=h.asSp s hs
        refine ⟨g1,fun o' ho'=>⟨fun p hp=>List.mem_cons_of_mem _ ((g2 o' ho').1 p hp),?_⟩⟩
        have hnm:JJ (EO o') c=false:=by cases hm:JJ (EO o') c with | false=>rfl | true=>exact absurd ((g2 o' ho').1 c (E3.1 hm)) hcX'
        simp only [JK,hnm,cond_false]
        exact (g2 o' ho').2
      · intro hm
        simp only [List.mem_append,List.mem_cons] at hm
        rcases hm with hm | rfl | hm
        · exact hX c' (by simp [PO,hc']) (List.mem_append.2 (.inl hm))
        · exact hN.1 hc'
        · exact hX c' (by simp [PO,hc']) (List.mem_append.2 (.inr hm))
    · obtain ⟨d,val,atom,hod,hfr,hin,hsp,hdr⟩:=hd
      suffices H:RI P ops n E Q w0 M I0 listed a w cs dn X pend (⟨c,d,JK dn (EO o) E,val,atom⟩ :: as) I L ad∧(∀ c'∈PO cs,c' ∉ M8 (⟨c,d,JK dn (EO o) E,val,atom⟩ :: as)++X) by
        obtain ⟨cs',dn',X',pend',as',L',ad',g1,g2,g3,g4,g5,g7,g6⟩:=ih H.1 H.2 hN.2
        refine ⟨cs',dn',X',pend',as',L',ad',g1,g2,g3,fun c' hc'=>List.mem_cons_of_mem _ (g4 c' hc'),fun c' hc'=>?_,fun i hi=>g7 i ?_,g6⟩
        · rcases g5 c' hc' with h1 | h1
          · simp only [M8,List.cons_append,List.mem_cons,PO] at h1 ⊢
            rcases h1 with rfl | h1
            · exact .inr (.inl rfl)
            · exact .inl h1
          · exact .inr (List.mem_cons_of_mem _ h1)
        · simp only [M8,List.cons_append,List.mem_cons,PO] at hi ⊢
          rcases hi with h1 | h1 | h1
          · exact .inl (.inr h1)
          · exact .inl (.inl h1)
          · exact .inr h1
      refine ⟨⟨hdr,h.shape,h.sat,h.size,h.defers,h.env,h.lsize,h.val,h.have_,h.dnOk,fun i hi=>List.mem_cons_of_mem _ (h.inX i hi),h.outX,h.pendL,h.down,?_,?_,?_,?_,?_,h.adNd⟩,fun c' hc'=>?_⟩
      · intro c' hc'
        rcases List.mem_cons.1 hc' with rfl | hc'
        · exact fun hm=>hcX (List.mem_append.2 (.inr hm))
        · exact h.asX c' hc'
      · exact List.nodup_cons.2 ⟨fun hm=>hcX (List.mem_append.2 (.inl hm)),h.asNd⟩
      · intro s hs
        rcases List.mem_cons.1 hs with rfl | hs
        · exact ⟨hsp,fun o' ho'=>by rw [ho] at ho'; cases ho'; exact ⟨iT hin,rfl,hfr⟩⟩
        · exact h.asSp s hs
      · intro p hp
        exact ⟨List.mem_cons_of_mem _ (h.adOk p hp).1,(h.adOk p hp).2⟩
      · intro s hs hl
        rcases List.mem_cons.1 hs with rfl | hs
        · rw [hnl] at hl; cases hl
        · exact h.adAll s hs hl
      · simp only [M8,List.cons_append,List.mem_cons,not_or]
        exact ⟨fun e=>hN.1 (e▸hc'),hX c' (by simp [PO,hc'])⟩
    · exact ⟨some c :: cs,dn,X,pend,as,L,ad,h,hX,List.nodup_cons.2 hN,fun c hc=>hc,fun c hc=>.inl hc,fun _ h=>h,.inr (.inr ⟨c,cs,o,rfl,ho,hd.1,hd.2.1,hd.2.2⟩)⟩
theorem Z9 {X:List Nat}:∀ {k i:Nat},Z7 X k=true→i<k→i∈X
 | k+1,i,h,hi=>by
  simp only [Z7,Bool.and_eq_true] at h
  by_cases e:i=k
  · subst e; exact E3.1 h.1
  · exact Z9 h.2 (by omega)
theorem cS {l:List Oper}:∀ (k:Nat),S8 l k=true→∀ (i:Nat) (o:Oper),l[i]? = some o→∀ j,j<k+i→j∈EO o:=by
 induction l with
 | nil=>intro k _ i o hi; simp at hi
 | cons o' l D=>
  intro k h i o hi j G
  simp only [S8,Bool.and_eq_true] at h
  cases i with
  | zero=>simp at hi; subst hi; exact Z9 h.1 (by simpa using G)
  | succ i=>exact D (k+1) h.2 i o (by simpa using hi) j (by omega)
theorem uK {i:Nat} (hi:i∈Region.ready .any ops listed):i<ops.size∧listed.getD i true=false∧∃ o,ops[i]? = some o∧∀ p∈EO o,listed.getD p false=true:=by
 rw [mem_ready] at hi
 obtain ⟨J,o,D,hp⟩:=hi
 refine ⟨(Array.getElem?_eq_some_iff.1 D).1,J,o,D,fun p h=>?_⟩
 obtain ⟨e,he,G,rfl⟩:=WL.1 h
 exact hp e (by simpa using he) G
theorem wR {t:Nat} (ht:S8 (ops.toList.drop t) t=true) (V:YC ops.toList 0=true):∀ (D k:Nat) {listed:Array Bool} {a:Act} {w:World},t≤k→k≤ops.size→listed.size=ops.size→(∀ i,listed.getD i false=true↔i<k)→ops.size≤D+k →
  wpListIn (SP n) 0 P ops Q (ops.toList.drop k) a w→wpAnyIn (SP n) 0 P .any ops Q D listed a w:=by
 have only:∀ {k:Nat} {listed:Array Bool} {i:Nat},t≤k→listed.size=ops.size→(∀ i,listed.getD i false=true↔i<k)→i∈Region.ready .any ops listed→i=k∧i<ops.size:=by
  intro k listed i O J U hi
  obtain ⟨h1,Z,o,ho,hp⟩:=uK hi
  refine ⟨?_,h1⟩
  have hik:¬i<k:=fun h=>by
    have:=(U i).2 h
    have G:i<listed.size:=by omega
    simp only [Array.getD_eq_getD_getElem?,Array.getElem?_eq_getElem G,Option.getD_some] at this Z
    rw [this] at Z; cases Z
  rcases Nat.lt_or_ge k i with h3 | h3
  · have hm:k∈EO o:=cS t ht (i - t) o (by rw [List.getElem?_drop,show t+(i - t)=i by omega,nL]; exact ho) k (by omega)
    have:=(U k).1 (hp k hm); omega
  · omega
 intro D
 induction D with
 | zero=>
  intro k listed a w O hk J U hf h
  have e:k=ops.size:=by omega
  refine ⟨?_,?_⟩
  · cases hr:Region.ready .any ops listed with
    | nil=>rfl
    | cons i r=>have:=only O J U (i:=i) (by rw [hr]; simp); omega
  · rw [e,List.drop_of_length_le (by simp)] at h; exact h
 | succ D ih=>
  intro k listed a w O hk J U hf h
  refine ⟨fun hr=>?_,fun i hi=>?_⟩
  · have e:k=ops.size:=by
      rcases Nat.lt_or_ge k ops.size with G | hge
      · exfalso
        have:k∈Region.ready .any ops listed:=by
         rw [mem_ready]
         have Y:k<listed.size:=by omega
         refine ⟨?_,ops[k],by simp [G],fun e he hb=>?_⟩
         · cases hv:listed.getD k true with
           | false=>rfl
           | true=>
            have:listed.getD k false=true:=by
             simp only [Array.getD_eq_getD_getElem?,Array.getElem?_eq_getElem Y,Option.getD_some] at hv ⊢; exact hv
            have:=(U k).1 this; omega
         · have hm:e.on∈EO ops[k]:=WL.2 ⟨e,by simpa using he,hb,rfl⟩
           have:=cR 0 V k ops[k] (by rw [nL]; simp [G]) e.on hm
           exact (U e.on).2 (by omega)
        rw [hr] at this; cases this
      · omega
    rw [e,List.drop_of_length_le (by simp)] at h; exact h
  · obtain ⟨rfl,G⟩:=only O J U hi
    have hd:ops.toList.drop i=ops[i] :: ops.toList.drop (i+1):=by
      rw [List.drop_eq_getElem_cons (by simpa using G)]; simp
    rw [hd] at h
    have hi2:ops[i]? = some ops[i]:=by simp [G]
    have W:∀ j,(listed.setIfInBounds i true).getD j false=true↔j<i+1:=fun j=>by
      rw [G9 (by omega),U j]; omega
    have step:∀ a w,wpListIn (SP n) 0 P ops Q (ops.toList.drop (i+1)) a w→wpAnyIn (SP n) 0 P .any ops Q D (listed.setIfInBounds i true) a w:=fun a w h'=>
      ih (i+1) (by omega) (by omega) (by simpa using J) W (by omega) h'
    simp only [wpOpIn,hi2]
    unfold wpListIn at h
    split
    · rename_i hw
      rw [if_pos hw] at h
      exact Oper.wpIn_mono step h
    · rename_i hw
      rw [if_neg hw] at h
      exact ⟨h.1,step _ _ h.2⟩
theorem WN (d:Nat):∀ E:D7,fresh (rmE d E) d=true
 | []=>rfl
 | p :: r=>by
  simp only [rmE]
  cases h:Nat.beq p.1 d with
  | true=>simpa using WN d r
  | false=>simp [fresh,h,WN d r]
theorem kO {a:Act} (d:Nat):∀ {E:D7},EnvOk E a→EnvOk (rmE d E) a
 | [],_=>trivial
 | p :: r,h=>by
  simp only [rmE]
  cases hb:Nat.beq p.1 d with
  | true=>simpa using kO d h.2
  | false=>exact ⟨h.1,kO d h.2⟩
theorem nM {o:Oper} {d:Nat} (D:o.dst=some d):fresh (ST o E) d=true:=by
 simp only [ST,D]
 cases h:fresh E d with
 | true=>exact h
 | false=>exact WN d E
theorem wT {o:Oper} {a:Act} (h:EnvOk E a):EnvOk (ST o E) a:=by
 simp only [ST]
 split
 · exact h
 · rename_i d _
   cases hb:fresh E d with
   | true=>exact h
   | false=>exact kO d h
theorem uL {t:Nat} (hdst:YB n (ops.toList.take t) []=true) (hback:YC ops.toList 0=true) (htail:S8 (ops.toList.drop t) t=true) (ht:t≤ops.size):∀ (Z:Nat) {E:D7} {listed:Array Bool} {a:Act} {w:World} {cs:List (Option Nat)} {dn:HM} {X pend:List Nat} {as:List AS} {I:IH} {L:Sh} {ad:List (AS×Nat)},
  RI P ops n E Q w0 M I0 listed a w cs dn X pend as I L ad→(∀ c∈PO cs,c ∉ M8 as++X)→(PO cs).Nodup→(∀ c∈PO cs,c<t)→(∀ c∈M8 as++X,c<t)→(∀ i,i<t→i∈M8 as++X∨i∈PO cs)→ops.size≤Z+(listed.toList.filter id).length→wpAnyIn (SP n) 0 P .any ops Q Z listed a w:=by
 -- all of the first t have come: the tail
 have fin:∀ {Z:Nat} {E:D7} {listed:Array Bool} {a:Act} {w:World} {cs:List (Option Nat)} {dn:HM} {X pend:List Nat} {as:List AS} {I:IH} {L:Sh} {ad:List (AS×Nat)},RI P ops n E Q w0 M I0 listed a w cs dn X pend as I L ad→(∀ c∈PO cs,c ∉ M8 as++X)→(PO cs).Nodup→(∀ c∈PO cs,c<t)→(∀ c∈M8 as++X,c<t) →
    (∀ i,i<t→listed.getD i false=true)→ops.size≤Z+t→wpAnyIn (SP n) 0 P .any ops Q Z listed a w:=by
  intro Z E listed a w cs dn X pend as I L ad h hX hN hct hXt V hf
  obtain ⟨cs',dn',X',pend',as',L',ad',D,hX',hN',hsub,hXs,_,hcs⟩:=h.norm hX hN
  have W:∀ c∈M8 as'++X',c<t:=fun c hc=>(hXs c hc).elim (hXt c) (hct c)
  rcases hcs with rfl | ⟨r,rfl,c,hc,U⟩ | ⟨c,r,o,rfl,ho,_⟩
  · have hd:=D.draw
    simp only [DrawD] at hd
    obtain ⟨rfl,t',hc',hlt',_,hops⟩:=hd
    have had:ad'=[]:=by
      cases ad' with
      | nil=>rfl
      | cons p r=>have:=(D.adOk p (by simp)).1; cases this
    subst had
    simp only [M8,List.nil_append] at W
    have hinX:∀ i,listed.getD i false=true→i∈X':=fun i hi=>by simpa [M8] using D.inX i hi
    have e:t'=t:=by
      rcases Nat.lt_trichotomy t' t with h1 | h1 | h1
      · have:=hlt' t' (hinX t' (V t' h1)); omega
      · exact h1
      · have:=W t (TI hc' h1); omega
    subst e
    refine wR htail hback Z t' (Nat.le_refl _) ht D.lsize (fun i=>⟨fun hi=>W i (hinX i hi),V i⟩) hf (hops a w ⟨D.size,D.defers,sL D.env fun i d v J=>?_⟩ D.sat)
    exact D.val i d v J (V i (W i (D.dnOk i d v J).1))
  · rw [V c (W c (List.mem_append.2 (.inl hc)))] at U; cases U
  · have:=V c (hct c (hsub c (by simp [PO])))
    exact absurd (D.inX c this) (hX' c (by simp [PO]))
 -- something is always left to do, where one of the first t has not come
 have some':∀ {listed:Array Bool},listed.size=ops.size→Region.ready .any ops listed=[]→∀ i,i<ops.size→listed.getD i false=true:=by
  intro listed hsz hr i
  induction i using Nat.strongRecOn with
  | _ i ih=>
    intro hi
    cases U:listed.getD i false with
    | true=>rfl
    | false=>
      exfalso
      obtain ⟨o,ho⟩:∃ o,ops[i]? = some o:=⟨ops[i],by simp [hi]⟩
      have:i∈Region.ready .any ops listed:=by
        rw [mem_ready]
        refine ⟨?_,o,ho,fun e he hb=>?_⟩
        · have hlt:i<listed.size:=by rw [hsz]; exact hi
          simp only [Array.getD_eq_getD_getElem?,Array.getElem?_eq_getElem hlt,Option.getD_some] at U ⊢; exact U
        · have J:e.on∈EO o:=WL.2 ⟨e,by simpa using he,hb,rfl⟩
          have:=cR 0 hback i o (by rw [nL]; exact ho) e.on J
          exact ih e.on (by omega) (by omega)
      rw [hr] at this; cases this
 have cnt:∀ {listed:Array Bool},(∀ i,listed.getD i false=true↔i<t)→listed.size=ops.size→(listed.toList.filter id).length=t:=by
  intro listed U hsz
  have ht':=ht
  have e:listed.toList=List.replicate t true++List.replicate (ops.size - t) false:=by
    apply List.ext_getElem?
    intro i
    by_cases hi:i<ops.size
    · have hlt:i<listed.size:=by omega
      have hv:=U i
      simp only [Array.getD_eq_getD_getElem?,Array.getElem?_eq_getElem hlt,Option.getD_some] at hv
      rw [show listed.toList[i]? = some listed[i] by simp [hlt]]
      by_cases h1:i<t
      · rw [List.getElem?_append_left (by simpa using h1)]; simp [h1,hv.2 h1]
      · rw [List.getElem?_append_right (by simpa using Nat.le_of_not_lt h1)]
        have:listed[i]=false:=by cases hb:listed[i] with | false=>rfl | true=>exact absurd (hv.1 hb) h1
        rw [this,List.length_replicate,List.getElem?_replicate,if_pos (by omega)]
    · rw [List.getElem?_eq_none (by simp; omega),List.getElem?_eq_none (by simp; omega)]
  rw [e]; simp
 intro Z
 induction Z with
 | zero=>
  intro E listed a w cs dn X pend as I L ad h hX hN hct hXt hcov hf
  have V:∀ i,i<ops.size→listed.getD i false=true:=by
    intro i hi
    have hlen:(listed.toList.filter id).length=listed.toList.length:=by
      have h1:=List.length_filter_le id listed.toList
      have h2:=h.lsize
      simp only [Array.length_toList] at h1 ⊢
      omega
    have:=List.length_filter_eq_length_iff.1 hlen
    have hlt:i<listed.size:=by rw [h.lsize]; exact hi
    have hx:=this listed[i] (by simp)
    simpa [Array.getD_eq_getD_getElem?,Array.getElem?_eq_getElem hlt] using hx
  have e:t=ops.size:=by
    rcases Nat.lt_or_ge t ops.size with h1 | h1
    · have:=hXt t (h.inX t (V t h1)); omega
    · omega
  exact fin h hX hN hct hXt (fun i hi=>V i (by omega)) (by omega)
 | succ Z ih=>
  intro E listed a w cs dn X pend as I L ad h hX hN hct hXt hcov hf
  by_cases V:∀ i,i<t→listed.getD i false=true
  · have hiff:∀ i,listed.getD i false=true↔i<t:=fun i=>⟨fun hi=>hXt i (h.inX i hi),V i⟩
    have:=cnt hiff h.lsize
    exact fin h hX hN hct hXt V (by omega)
  refine ⟨fun hr=>absurd (fun i hi=>some' h.lsize hr i (by omega)) V,fun i hi=>?_⟩
  rw [mem_ready] at hi
  obtain ⟨hil,o,ho,hpre⟩:=hi
  have hi:=(Array.getElem?_eq_some_iff.1 ho).1
  have G:i<listed.size:=by rw [h.lsize]; exact hi
  have hil':listed.getD i false=false:=by
    simp only [Array.getD_eq_getD_getElem?,Array.getElem?_eq_getElem G,Option.getD_some] at hil ⊢; exact hil
  have hpre':∀ p∈EO o,listed.getD p false=true:=fun p hp=>by
    obtain ⟨e,he,hb,rfl⟩:=WL.1 hp
    exact hpre e (by simpa using he) hb
  have hit:i<t:=by
    rcases Nat.lt_or_ge i t with h1 | h1
    · exact h1
    · exact absurd (fun j Y=>hpre' j (cS t htail (i - t) o (by rw [List.getElem?_drop,show t+(i - t)=i by omega,nL]; exact ho) j (by omega))) V
  have hcount:ops.size≤Z+((listed.setIfInBounds i true).toList.filter id).length:=by
    have:((listed.setIfInBounds i true).toList.filter id).length=(listed.toList.filter id).length+1:=by
      rw [Array.toList_setIfInBounds]
      have hb:listed.toList[i]? = some false:=by
        simp only [Array.getD_eq_getD_getElem?,Array.getElem?_eq_getElem G,Option.getD_some] at hil'
        simp [G,hil']
      have key:∀ (l:List Bool) (i:Nat),l[i]? = some false→((l.set i true).filter id).length=(l.filter id).length+1:=by
        intro l
        induction l with
        | nil=>intro i h; simp at h
        | cons b l ihl=>
          intro i h
          cases i with
          | zero=>simp at h; subst h; simp
          | succ i=>
            have:=ihl i (by simpa using h)
            simp only [List.set_cons_succ,List.filter_cons]
            split <;> simp [this]
      exact key _ i hb
    omega
  obtain ⟨cs',dn',X',pend',as',L',ad',D,hX',hN',hsub,hXs,hcov',hcs⟩:=h.norm hX hN
  have W:∀ c∈M8 as'++X',c<t:=fun c hc=>(hXs c hc).elim (hXt c) (hct c)
  have hct':∀ c∈PO cs',c<t:=fun c hc=>hct c (hsub c hc)
  have hcv:∀ i,i<t→i∈M8 as'++X'∨i∈PO cs':=fun i hi=>hcov' i (hcov i hi)
  clear h hX hN
  have hdo:∀ d,o.dst=some d→Nat.blt d n.sz=true∧∀ j o',j<t→ops[j]? = some o'→o'.dst=some d→j=i:=fun d hd=>by
    obtain ⟨g1,_,g4⟩:=nK [] hdst i o d (by rw [List.getElem?_take,if_pos hit,nL]; exact ho) hd
    exact ⟨g1,fun j o' hjt Y=>g4 j o' (by rw [List.getElem?_take,if_pos hjt,nL]; exact Y)⟩
  have hother:∀ {a':Act} {v:Value} {j d':Nat} {v':Value} {o':Oper},a'=a.put o.dst v→j<t→j≠i→ops[j]? = some o'→o'.dst=some d'→a.tmps[d']? = some v'→a'.tmps[d']? = some v':=by
    intro a' v j d' v' o' ha' hjt hne ho' hd' hv
    subst ha'
    cases hd:o.dst with
    | none=>exact hv
    | some d=>
      have hdd:¬d=d':=fun e=>by subst e; exact hne ((hdo d hd).2 j o' hjt ho' hd')
      simp only [Act.put,Array.getElem?_setIfInBounds,if_neg hdd]
      exact hv
  have hput:∀ {a':Act} {v:Value},a'=a.put o.dst v→a'.tmps.size=n.sz∧(∀ E2:D7,(∀ d,o.dst=some d→fresh E2 d=true)→EnvOk E2 a→EnvOk E2 a')∧(∀ j d' v',(j,d',v')∈dn'→j≠i→listed.getD j false=true→a'.tmps[d']? = some v') ∧
      (∀ p∈ad',p.1.i≠i→a'.tmps[p.1.d]? = some (p.1.val p.2)):=by
    intro a' v ha'
    refine ⟨?_,fun E2 hfr hE=>?_,fun j d' v' J hne U=>?_,fun p hp hne=>?_⟩
    · subst ha'; cases hd:o.dst <;> simp [Act.put,D.size]
    · subst ha'
      cases hd:o.dst with
      | none=>exact hE
      | some d=>exact hE.put (hfr d hd) v
    · obtain ⟨g1,_,o',ho',hd'⟩:=D.dnOk j d' v' J
      exact hother ha' (W j (List.mem_append.2 (.inr g1))) hne ho' hd' (D.val j d' v' J U)
    · obtain ⟨g1,g2,g3⟩:=D.adOk p hp
      obtain ⟨o',ho',hd',_⟩:=(D.asSp _ g1).1
      exact hother ha' (W _ (List.mem_append.2 (.inl (RR.2 ⟨_,g1,rfl⟩)))) hne ho' hd' g3
  have hselE:∀ {js:List Nat},(∀ p∈js,listed.getD p false=true)→Ok n (JK dn' js E) a:=fun Y=>⟨D.size,D.defers,sK D.env fun j d v J hjm=>D.val j d v J (Y j hjm)⟩
  have hsel:Ok n (JK dn' (EO o) E) a:=hselE hpre'
  have hdown:∀ j o',(listed.setIfInBounds i true).getD j false=true→ops[j]? = some o'→∀ p∈EO o',(listed.setIfInBounds i true).getD p false=true:=by
    intro j o' Y ho' p hp
    rw [G9 G] at Y ⊢
    rcases Y with rfl | Y
    · rw [ho] at ho'; cases ho'; exact .inr (hpre' p hp)
    · exact .inr (D.down j o' Y ho' p hp)
  have hadI:∀ p∈ad',p.1.i≠i:=fun p hp e=>by
    have:=(D.adOk p hp).2.1
    rw [e,hil'] at this; cases this
  have hadl:∀ {a':Act} {v:Value},a'=a.put o.dst v→∀ p∈ad',p.1∈as'∧(listed.setIfInBounds i true).getD p.1.i false=true∧a'.tmps[p.1.d]? = some (p.1.val p.2):=fun ha' p hp=>
    ⟨(D.adOk p hp).1,(G9 G).2 (.inr (D.adOk p hp).2.1),(hput ha').2.2.2 p hp (hadI p hp)⟩
  by_cases hiX:i∈X'
  · -- a step that was shown already
    have hip:=D.outX i hiX hil'
    obtain ⟨o2,d,v,h1,h2,hfr,h3,h4⟩:=D.pendL.get i hip
    rw [ho] at h1; cases h1
    refine eT D.defers ho (fun e a w hq=>⟨hq.1,hq.2.1⟩) (h4 _ a w hsel D.sat) fun a' w' hfin hp=>?_
    obtain ⟨v',hv'⟩:=hp
    obtain ⟨g1,g2,g3,_⟩:=hput hv'
    refine ih ⟨D.draw,D.shape,hfin.2.2.2,g1,hfin.2.1,g2 _ (fun d2 hd2=>by rw [h2] at hd2; cases hd2; exact hfr) D.env,by simpa using D.lsize,?_,D.have_,D.dnOk,?_,?_,D.pendL,hdown,D.asX,D.asNd,D.asSp,hadl hv',?_,D.adNd⟩ hX' hN' hct' W hcv hcount
    · intro j d' v2 J U
      by_cases e:j=i
      · subst e
        have hd2:=(D.dnOk j d' v2 J).2.1
        rw [h3] at hd2
        cases hd2
        exact hfin.2.2.1
      · exact g3 j d' v2 J e (((G9 G).1 U).resolve_left e)
    · intro j Y
      rcases (G9 G).1 Y with rfl | Y
      · exact List.mem_append.2 (.inr hiX)
      · exact D.inX j Y
    · intro j Y U
      refine D.outX j Y ?_
      cases hl':listed.getD j false with
      | false=>rfl
      | true=>rw [(G9 G).2 (.inr hl')] at U; cases U
    · intro s hs U
      rcases (G9 G).1 U with e | U
      · exact absurd hiX (D.asX i (RR.2 ⟨s,hs,e⟩))
      · exact D.adAll s hs U
  · by_cases hia:i∈M8 as'
    · -- a step that makes a block
      obtain ⟨s,hs,rfl⟩:=RR.1 hia
      obtain ⟨⟨o2,ho2,hd2,hsp⟩,hen⟩:=D.asSp s hs
      rw [ho] at ho2; cases ho2
      obtain ⟨hhX,hse,hfr⟩:=hen o ho
      refine eT D.defers ho (fun e a w hq=>⟨hq.1,hq.2.1⟩) (hsp _ _ D.shape _ a w (by rw [←hse]; exact hsel) D.sat) fun a' w' hfin hp=>?_
      obtain ⟨v',hv'⟩:=hp
      obtain ⟨g1,g2,g3,_⟩:=hput hv'
      obtain ⟨_,hdf,b,hb,hsy⟩:=hfin
      refine ih (ad:=(s,b) :: ad') ⟨D.draw,D.shape,hsy,g1,hdf,g2 _ (fun d3 hd3=>by rw [hd2] at hd3; cases hd3; exact hfr) D.env,by simpa using D.lsize,?_,D.have_,D.dnOk,?_,?_,D.pendL,hdown,D.asX,D.asNd,D.asSp,?_,?_,?_⟩ hX' hN' hct' W hcv hcount
      · intro j d' v2 J U
        have hne:j≠s.i:=fun e=>hiX (e▸(D.dnOk j d' v2 J).1)
        exact g3 j d' v2 J hne (((G9 G).1 U).resolve_left hne)
      · intro j Y
        rcases (G9 G).1 Y with rfl | Y
        · exact List.mem_append.2 (.inl hia)
        · exact D.inX j Y
      · intro j Y U
        refine D.outX j Y ?_
        cases hl':listed.getD j false with
        | false=>rfl
        | true=>rw [(G9 G).2 (.inr hl')] at U; cases U
      · intro p hp
        rcases List.mem_cons.1 hp with rfl | hp
        · exact ⟨hs,(G9 G).2 (.inl rfl),hb⟩
        · exact hadl hv' p hp
      · intro s' hs' U
        rcases (G9 G).1 U with e | U
        · have hnd:=D.asNd
          rw [eI] at hnd
          rw [NW hnd hs' hs e]
          exact ⟨b,by simp⟩
        · obtain ⟨b',hb'⟩:=D.adAll s' hs' U
          exact ⟨b',List.mem_cons_of_mem _ hb'⟩
      · simp only [List.map_cons,List.nodup_cons,List.mem_map,not_exists,not_and]
        exact ⟨fun p hp=>hadI p hp,D.adNd⟩
    have hi2:i ∉ M8 as'++X':=fun J=>(List.mem_append.1 J).elim hia hiX
    -- the next step that turns memory
    rcases hcs with rfl | ⟨r,rfl,c,hc,U⟩ | ⟨c,r,o2,rfl,ho2,hbl,hasE,p',hpo,hops⟩
    · exact absurd ((hcv i hit).resolve_right (by simp [PO])) hi2
    · have hd:=D.draw
      simp only [DrawD] at hd
      rcases qP 0 hd.1 i o (by rw [nL]; exact ho) with hb | hb | hb
      · exact absurd (by simpa using hb) hi2
      · exact absurd (fun p hp=>D.inX p (hpre' p hp)) hb
      · rw [hpre' c (hb c hc)] at U; cases U
    · have hic:i=c:=by
        rcases kN 0 hbl i o (by rw [nL]; exact ho) with hb | hb | hb
        · exact absurd (by simpa using hb) hi2
        · simpa using hb
        · exact absurd (fun p hp=>D.inX p (hpre' p hp)) hb
      subst hic
      rw [ho] at ho2; cases ho2
      refine eT D.defers ho (fun e a w hq=>⟨hq.1,hq.2.1⟩) (hops _ a w hsel D.sat) fun a' w' hfin hp=>?_
      obtain ⟨v',hv'⟩:=hp
      obtain ⟨g1,g2,g3,_⟩:=hput hv'
      obtain ⟨_,hdf,I2,L2,dn'',O,hsh,hS',hpl,hdr⟩:=hfin
      simp only [PO,List.nodup_cons] at hN'
      have hnot:∀ d v,(i,d,v) ∉ dn':=fun d v J=>hiX (D.dnOk i d v J).1
      have hsub:∀ j d v,(j,d,v)∈dn''→(j,d,v)∈dn'∨(j=i∧o.dst=some d∧a'.tmps[d]? = some v):=by
        intro j d v J
        unfold XT at O
        cases hod:o.dst with
        | none=>rw [hod] at O; subst O; exact .inl J
        | some d2=>
          rw [hod] at O
          obtain ⟨v2,hv2,rfl⟩:=O
          cases J with
          | head=>exact .inr ⟨rfl,rfl,hv2⟩
          | tail _ J=>exact .inl J
      have hsup:∀ j d v,(j,d,v)∈dn'→(j,d,v)∈dn''∧H0 dn'' j=H0 dn' j:=by
        intro j d v J
        have hji:j≠i:=fun e=>by subst e; exact hnot _ _ J
        unfold XT at O
        cases hod:o.dst with
        | none=>rw [hod] at O; subst O; exact ⟨J,rfl⟩
        | some d2=>
          rw [hod] at O
          obtain ⟨v2,hv2,rfl⟩:=O
          exact ⟨List.mem_cons_of_mem _ J,by simp only [H0,eV (Ne.symm hji),cond_false]⟩
      have hselS:∀ {js:List Nat},i ∉ js→JK dn'' js E=JK dn' js E:=by
        intro js Y
        unfold XT at O
        cases hod:o.dst with
        | none=>rw [hod] at O; subst O; rfl
        | some d2=>
          rw [hod] at O
          obtain ⟨v2,hv2,rfl⟩:=O
          have hnm:JJ js i=false:=by cases J:JJ js i with | false=>rfl | true=>exact absurd (E3.1 J) Y
          simp only [JK,hnm,cond_false]
      refine ih ⟨hdr,hsh,hS',g1,hdf,g2 _ (fun d3 hd3=>nM hd3) (wT D.env),by simpa using D.lsize,?_,?_,?_,?_,?_,hpl,hdown,?_,D.asNd,?_,hadl hv',?_,D.adNd⟩ (fun c' hc' J=>?_) hN'.2 (fun c hc=>hct' c (List.mem_cons_of_mem _ hc)) (fun c hc=>?_) (fun j Y=>?_) hcount
      · intro j d v J U
        rcases hsub j d v J with J | ⟨rfl,_,hv⟩
        · have hji:j≠i:=fun e=>by subst e; exact hnot _ _ J
          exact g3 j d v J hji (((G9 G).1 U).resolve_left hji)
        · exact hv
      · intro j o2 d Y hd J
        rcases List.mem_cons.1 J with rfl | J
        · rw [ho] at Y; cases Y
          unfold XT at O
          rw [hd] at O
          obtain ⟨v2,_,rfl⟩:=O
          exact ⟨v2,by simp⟩
        · obtain ⟨v,hv⟩:=D.have_ j o2 d Y hd J
          exact ⟨v,(hsup j d v hv).1⟩
      · intro j d v J
        rcases hsub j d v J with hm' | ⟨rfl,hd,hv⟩
        · exact ⟨List.mem_cons_of_mem _ (D.dnOk j d v hm').1,(hsup j d v hm').2.trans (D.dnOk j d v hm').2.1,(D.dnOk j d v hm').2.2⟩
        · refine ⟨by simp,?_,o,ho,hd⟩
          unfold XT at O
          rw [hd] at O
          obtain ⟨v2,hv2,rfl⟩:=O
          rw [hv] at hv2; cases hv2
          simp [H0]
      · intro j Y
        simp only [List.mem_append,List.mem_cons]
        rcases (G9 G).1 Y with rfl | Y
        · exact .inr (.inl rfl)
        · exact (List.mem_append.1 (D.inX j Y)).imp id .inr
      · intro j Y U
        have hjl:listed.getD j false=false:=by
          cases hl':listed.getD j false with
          | false=>rfl
          | true=>rw [(G9 G).2 (.inr hl')] at U; cases U
        rcases List.mem_cons.1 Y with rfl | Y
        · rw [(G9 G).2 (.inl rfl)] at U; cases U
        · rcases hpo j (D.outX j Y hjl) with h1 | ⟨k,h1⟩
          · exact h1
          · rw [qO D.down k j i o ho hpre' h1] at hjl; cases hjl
      · intro c hc J
        rcases List.mem_cons.1 J with rfl | J
        · exact hia hc
        · exact D.asX c hc J
      · intro s hs
        obtain ⟨q1,q2⟩:=D.asSp s hs
        have hEE:ST o E=E:=hasE.resolve_left fun e=>by subst e; cases hs
        refine ⟨q1,fun o' ho'=>⟨fun p hp=>List.mem_cons_of_mem _ ((q2 o' ho').1 p hp),?_⟩⟩
        rw [hEE,hselS fun J=>hiX ((q2 o' ho').1 i J)]
        exact (q2 o' ho').2
      · intro s hs U
        rcases (G9 G).1 U with e | U
        · exact absurd (RR.2 ⟨s,hs,e⟩) hia
        · exact D.adAll s hs U
      · simp only [List.mem_append,List.mem_cons] at J
        rcases J with J | rfl | J
        · exact hX' c' (by simp [PO,hc']) (List.mem_append.2 (.inl J))
        · exact hN'.1 hc'
        · exact hX' c' (by simp [PO,hc']) (List.mem_append.2 (.inr J))
      · simp only [List.mem_append,List.mem_cons] at hc
        rcases hc with hc | rfl | hc
        · exact W c (List.mem_append.2 (.inl hc))
        · exact hit
        · exact W c (List.mem_append.2 (.inr hc))
      · have:=hcv j Y
        simp only [List.mem_append,List.mem_cons,PO] at this ⊢
        rcases this with (h1 | h1) | rfl | h1
        · exact .inl (.inl h1)
        · exact .inl (.inr (.inr h1))
        · exact .inl (.inr (.inl rfl))
        · exact .inr h1
def eX:List Nat→Bool
 | []=>true
 | x :: l=>!JJ l x && eX l
theorem cT:∀ {l:List Nat},eX l=true→l.Nodup
 | [],_=>.nil
 | x :: l,h=>by
  simp only [eX,Bool.and_eq_true,Bool.not_eq_true'] at h
  exact List.nodup_cons.2 ⟨eU h.1,cT h.2⟩
theorem Cod.draw {id:Nat} {l:List Oper} {I:IH} (cs:List (Option Nat)) (t:Nat) (Y:P.follows .mixedOrders=true) (W:YB n (l.take t) []=true) (h2:YC l 0=true)
   (h3:S8 (l.drop t) t=true) (O:eX (PO cs)=true) (U:Nat.ble t l.length=true) (V:(PO cs).all (Nat.blt · t)=true) (J:O8 (PO cs) t=true) (L:Sh) (hL:∀ X ex,Del (L (X :: ex)) X (L ex)) (he:l0=L [])
   (h:DrawD P l.toArray n Q w0 M I0 E cs [] [] [] [] I L):Cod P (.region id l.toArray true) n E (Sym w0 M I0 I l0) Q:=by
 intro a w D G
 refine wpIn_region_any Y (uL (t:=t) (by simpa using W) (by simpa using h2) (by simpa using h3) (by simpa using U) _ (cs:=cs) (dn:=[]) (X:=[]) (pend:=[]) (as:=[]) (I:=I) (L:=L) (ad:=[])
   ⟨h,fun X ex=>(hL X ex).perm,by rw [he] at G; exact G.drew _ (Nat.le_succ _),D.size,D.defers,D.env,by simp,by simp,by simp,by simp,?_,by simp,trivial,?_,by simp [M8],by simp [M8],by simp,by simp,by simp,by simp⟩ (by simp [M8]) (cT O) (fun c Z=>by have:=List.all_eq_true.1 V c Z; simpa [Nat.blt_eq] using this) (by simp [M8]) (fun i hi=>.inr (TI J hi)) (by simp))
 · intro i hi
   simp only [Array.getD_eq_getD_getElem?,Array.getElem?_replicate] at hi
   split at hi <;> simp at hi
 · intro i o hi
   simp only [Array.getD_eq_getD_getElem?,Array.getElem?_replicate] at hi
   split at hi <;> simp at hi
section
variable {cs:List (Option Nat)} {c d:Nat} {dn:HM} {X pend:List Nat} {as:List AS} {I:IH} {L:Sh} {o:Oper} {v:Value}
theorem DrawD.f (js:List Nat) (G:ops[c]? = some o) (O:EO o=js) (J:o.dst=some d) (D:fresh E d=true)
  (h:∀ ex,Ops P ops [o] n (JK dn js E) (Sym w0 M I0 I (L ex)) (Fin n (Sym w0 M I0 I (L ex)) d v)) (k:DrawD P ops n Q w0 M I0 E cs ((c,d,v) :: dn) (c :: X) (c :: pend) as I L):DrawD P ops n Q w0 M I0 E (some c :: cs) dn X pend as I L:=
 ⟨o,G,.inl ⟨d,v,J,D,by rw [O]; exact h,k⟩⟩
theorem Fin.mk {S:World→Prop} {d:Nat} {v:Value} {E:D7}:Ops P ops [] n ((d,v) :: E) S (Fin n S d v):=fun _ _ h D=>⟨rfl,h.defers,h.env.1,D⟩
def APost (n:FrK) (w0:World) (M:Nat→Prop) (I0 I:IH) (d:Nat) (val:Nat→Value) (atom:Nat→HA) (L:Sh) (ex:List HA):Exit→Act→World→Prop:=fun e a w=>e=.normal∧a.defers=n.defs∧∃ b,a.tmps[d]? = some (val b)∧Sym w0 M I0 I (L (atom b :: ex)) w
theorem APost.mk {val:Nat→Value} {atom:Nat→HA} (G:ShOk L) (b:Nat) {E':D7}:Ops P ops [] n ((d,val b) :: E') (Sym w0 M I0 I (atom b :: L ex)) (APost n w0 M I0 I d val atom L ex):=
 fun _ _ h D=>⟨rfl,h.defers,b,h.env.1,D.perm (G _ _).symm⟩
theorem DrawD.a (val:Nat→Value) (atom:Nat→HA) (G:ops[c]? = some o) (J:o.dst=some d) (D:fresh E d=true) (hi:nI X (EO o)=true)
  (h:∀ (I:IH) (L:Sh),ShOk L→∀ ex,Ops P ops [o] n (JK dn (EO o) E) (Sym w0 M I0 I (L ex)) (APost n w0 M I0 I d val atom L ex))
  (k:DrawD P ops n Q w0 M I0 E cs dn X pend (⟨c,d,JK dn (EO o) E,val,atom⟩ :: as) I L):DrawD P ops n Q w0 M I0 E (some c :: cs) dn X pend as I L:=
 ⟨o,G,.inr (.inl ⟨d,val,atom,J,D,hi,⟨o,G,J,h⟩,k⟩)⟩
theorem DrawD.b (G:nH (M8 as) X ops.toList 0=true) (k:barD as dn L fun h D=>DrawD P ops n Q w0 M I0 E cs h (M8 as++X) pend [] I D):DrawD P ops n Q w0 M I0 E (none :: cs) dn X pend as I L:=⟨G,k⟩
theorem DrawD.nop (h:DrawD P ops n Q w0 M I0 E cs dn X pend as I L):DrawD P ops n Q w0 M I0 E cs dn X pend as I L:=h
def WPost (P:Program) (ops:Array Oper) (n:FrK) (E:D7) (Q:Exit→Act→World→Prop) (w0:World) (M:Nat→Prop) (I0:IH) (o:Oper) (c:Nat) (cs:List (Option Nat)) (dn:HM) (X h:List Nat) (as:List AS) (ex:List HA):Exit→Act→World→Prop:=
 fun e a w=>e=.normal∧a.defers=n.defs∧∃ J G D,XT o c dn a D∧ShOk G∧Sym w0 M I0 J (G ex) w∧PendL P ops n E D (fun ex=>Sym w0 M I0 J (G ex)) h∧DrawD P ops n Q w0 M I0 E cs D (c :: X) h as J G
theorem WPost.some {h:List Nat} {E':D7} (L:Sh) (he:l0=L ex) (O:∀ X ex,Del (L (X :: ex)) X (L ex)) (J:o.dst=some d) (hp:PendL P ops n E ((c,d,v) :: dn) (fun ex=>Sym w0 M I0 I (L ex)) h)
  (k:DrawD P ops n Q w0 M I0 E cs ((c,d,v) :: dn) (c :: X) h as I L):Ops P ops [] n ((d,v) :: E') (Sym w0 M I0 I l0) (WPost P ops n E Q w0 M I0 o c cs dn X h as ex):=
 fun a w D G=>⟨rfl,D.defers,I,L,_,by unfold XT; rw [J]; exact ⟨v,D.env.1,rfl⟩,fun X ex=>(O X ex).perm,by rw [he] at G; exact G,hp,k⟩
theorem WPost.none {h:List Nat} {E':D7} (L:Sh) (he:l0=L ex) (O:∀ X ex,Del (L (X :: ex)) X (L ex)) (J:o.dst=none) (hp:PendL P ops n E dn (fun ex=>Sym w0 M I0 I (L ex)) h)
  (k:DrawD P ops n Q w0 M I0 E cs dn (c :: X) h as I L):Ops P ops [] n E' (Sym w0 M I0 I l0) (WPost P ops n E Q w0 M I0 o c cs dn X h as ex):=
 fun a w G D=>⟨rfl,G.defers,I,L,_,by unfold XT; rw [J],fun X ex=>(O X ex).perm,by rw [he] at D; exact D,hp,k⟩
theorem DrawD.e (t:Nat) (J:O8 X t=true) (G:X.all (Nat.blt · t)=true) (D:S8 (ops.toList.drop t) t=true) (k:Ops P ops (ops.toList.drop t) n (wP dn E) (Sym w0 M I0 I (L [])) Q):DrawD P ops n Q w0 M I0 E [] dn X pend [] I L:=
 ⟨rfl,t,J,fun x h=>by have:=List.all_eq_true.1 G x h; simpa [Nat.blt_eq] using this,D,k⟩
end
end Go.Fw
