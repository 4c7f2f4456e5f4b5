/- The engine. -/
import Derived.Test.YtkbkaodgfedfmaaGreatFwB
import Derived.OrdersIn
namespace Go.Fw
open Go Go.RowKit
variable {w0:World} {M:Nat→Prop} {I0:IH}
variable {P:Program} {n:FrK} {E:CZ} {Q:Exit→Act→World→Prop} {ops:Array Oper}
variable {listed:Array Bool} {l0 ex:List HA}
abbrev HC:=List (Nat×Nat×Value)
def JZ:List Nat->Nat->Bool
 | [],_=>false
 | x :: l,y=>bif Nat.beq x y then true else JZ l y
theorem E4 {l:List Nat} {y:Nat}:JZ l y=true↔y∈l:=by
 induction l with
 | nil=>simp[JZ]
 | cons x l D=>
  simp only[JZ,List.mem_cons]
  cases h:Nat.beq x y with
  | true=>simp[Nat.eq_of_beq_eq_true h]
  | false=>
   have:y≠x:=λe=>by rw[e,Nat.beq_refl] at h; cases h
   simp[D,this]
def rZ:List Edge->List Nat
 | []=>[]
 | e :: l=>bif Region.binds .any e then e.on :: rZ l else rZ l
def EC (o:Oper):List Nat:=rZ o.after.toList
theorem ZU {l:List Edge} {j:Nat}:j∈rZ l↔∃ e∈l,Region.binds .any e=true∧e.on=j:=by
  induction l with
  | nil=>simp[rZ]
  | cons e l ih=>
    simp only[rZ]
    cases h:Region.binds .any e with
    | true =>
      simp only[cond_true, List.mem_cons, ih]; constructor
      . rintro(rfl | ⟨e',h1,h2,h3⟩)
        . exact⟨e,.inl rfl,h,rfl⟩
        . exact⟨e',.inr h1,h2,h3⟩
      . rintro⟨e',rfl | h1,h2,h3⟩
        . exact .inl h3.symm
        . exact .inr ⟨e',h1,h2,h3⟩
    | false =>
      simp only[cond_false, List.mem_cons, ih]; constructor
      . rintro⟨e',h1,h2,h3⟩; exact⟨e',.inr h1,h2,h3⟩
      . rintro⟨e',rfl | h1,h2,h3⟩
        . rw[h] at h2; cases h2
        . exact⟨e',h1,h2,h3⟩
def IA:HC->List Nat->CZ->CZ
 | [],_,E=>E
 | p :: r,js,E=>bif JZ js p.1 then p.2 :: IA r js E else IA r js E
def AgB:HC->CZ->CZ
 | [],E=>E
 | p :: r,E=>p.2 :: AgB r E
def H9:HC->Nat->Option (Nat×Value)
 | [],_=>none
 | p :: r,i=>bif Nat.beq p.1 i then some p.2 else H9 r i
def Fin (n:FrK) (S:World->Prop) (d:Nat) (v:Value):Exit->Act->World->Prop:=λe a w=>e=.normal∧a.defers=n.defs∧a.tmps[d]? = some v∧S w
abbrev Sh:=List HA->List HA
def ShOk (L:Sh):Prop:=∀ X ex,(L (X :: ex)).Perm (X :: L ex)
theorem Del.perm {l m:List HA} {A:HA} (h:Del l A m):l.Perm (A :: m):=by
 induction h with
 | z=>exact .refl _
 | s _ D=>exact(D.cons _).trans (.swap ..)
theorem AeL {l K:List HA} {I:IH} (hp:l.Perm K):∀ {h:IH},QI l I h->QI K I h:=by
 induction hp with
 | nil=>exact λh=>h
 | cons x _ U=>exact λ⟨W,V,a,b,c,d,e⟩=>⟨W,V,a,b,c,d,U e⟩
 | swap x y l=>exact λO=>nC (.s .z) O
 | trans _ _ J D=>exact λh=>D (J h)
theorem Sym.perm {I:IH} {l D:List HA} {w:World} (hp:l.Perm D) (h:Sym w0 M I0 I l w):Sym w0 M I0 I D w:=by obtain⟨K,hi,V,k,J,hk,U,O⟩:=h;exact⟨K,hi,V,k,AeL hp J,hk,U,O⟩
theorem ShOk.front {L:Sh} (h:ShOk L):∀ ex,(L ex).Perm (ex++L [])
 | []=>.refl _
 | X :: ex=>(h X ex).trans ((h.front ex).cons X)
theorem ShOk.app {L:Sh} (h:ShOk L) (D:List HA):ShOk λex=>L (D++ex):=λX ex=>by refine(h.front _).trans (.trans ?_ ((h.front (D++ex)).symm.cons X));simp only[List.append_assoc,List.cons_append];exact List.perm_middle
structure AS where
 i:Nat
 d:Nat
 env:CZ
 val:Nat→Value
 atom:Nat→HA
def Al2 (P:Program) (ops:Array Oper) (n:FrK) (w0:World) (M:Nat->Prop) (I0:IH) (s:AS):Prop:=
 ∃ o,ops[s.i]? = some o∧o.dst=some s.d∧∀ (I:IH) (L:Sh),ShOk L->∀ ex,Ops P ops [o] n s.env (Sym w0 M I0 I (L ex)) λe a w=>e=.normal∧a.defers=n.defs∧∃ b,a.tmps[s.d]? = some (s.val b)∧Sym w0 M I0 I (L (s.atom b :: ex)) w
def MY:List AS->List Nat
 | []=>[]
 | s :: r=>s.i :: MY r
def barD:List AS->HC->Sh->(HC->Sh->Prop)->Prop
 | [],dn,L,K=>K dn L
 | s :: r,dn,L,K=>∀ b,barD r ((s.i,s.d,s.val b) :: dn) (λex=>L (s.atom b :: ex)) K
def avals (bs:Nat->Nat):List AS->HC->HC
 | [],dn=>dn
 | s :: r,dn=>avals bs r ((s.i,s.d,s.val (bs s.i)) :: dn)
def atoms (bs:Nat->Nat):List AS->List HA
 | []=>[]
 | s :: r=>s.atom (bs s.i) :: atoms bs r
theorem barD.get (bs:Nat->Nat):∀ {as:List AS} {dn:HC} {L:Sh} {K:HC->Sh->Prop},barD as dn L K->K (avals bs as dn) (λex=>L (atoms bs as++ex))
 | [],_,_,_,h=>h
 | s :: r,_,_,_,h=>barD.get bs (as:=r) (h (bs s.i))
def xJ (as X:List Nat):List Oper->Nat->Bool
 | [],_=>true
 | o :: r,i=>(JZ X i || JZ as i || !(EC o).all (λp=>JZ X p || JZ as p) || as.all (JZ (EC o))) && xJ as X r (i+1)
def PendL (P:Program) (ops:Array Oper) (n:FrK) (E:CZ) (dn:HC) (S:List HA->World->Prop):List Nat->Prop
 | []=>True
 | f :: fs=>(∃ o d v,ops[f]? = some o∧o.dst=some d∧fresh E d=true∧H9 dn f=some (d,v)∧∀ ex,Ops P ops [o] n (IA dn (EC o) E) (S ex) (Fin n (S ex) d v))∧PendL P ops n E dn S fs
def xF (ops:Array Oper):Nat->Nat->Nat->Bool
 | 0,_,_=>false
 | k+1,f,c=>match ops[c]? with
  | none=>false
  | some o=>JZ (EC o) f || (EC o).any (xF ops k f)
def Ab1 (ops:Array Oper) (c:Nat) (h pend:List Nat):Prop:=∀ f∈pend,f∈h∨∃ k,xF ops k f c=true
def eX (ops:Array Oper) (c f:Nat):Bool:=match ops[c]? with
 | none=>false
 | some o=>JZ (EC o) f
def uF (X:List Nat):List Nat->Bool
 | []=>true
 | p :: ps=>JZ X p && uF X ps
def ZV (ops:List Oper) (X:List Nat) (c:Nat):Nat->Bool
 | i=>match ops with
  | []=>true
  | o :: r=>(JZ X i || Nat.beq i c || !uF X (EC o)) && ZV r X c (i+1)
def PP (X:List Nat):Nat->Bool
 | 0=>true
 | k+1=>JZ X k && PP X k
def bY (o:Oper) (c:Nat) (dn:HC) (a:Act) (h:HC):Prop:=
 match o.dst with
 | some d=>∃ v,a.tmps[d]? = some v∧h=(c,d,v) :: dn
 | none=>h=dn
def eY (X:List Nat):Nat->Bool
 | 0=>true
 | k+1=>JZ X k && eY X k
def UU:List Oper->Nat->Bool
 | [],_=>true
 | o :: r,i=>eY (EC o) i && UU r (i+1)
def rmE (d:Nat):CZ->CZ
 | []=>[]
 | p :: r=>bif Nat.beq p.1 d then rmE d r else p :: rmE d r
def VJ (o:Oper) (E:CZ):CZ:=match o.dst with
 | none=>E
 | some d=>bif fresh E d then E else rmE d E
def DrawD (P:Program) (ops:Array Oper) (n:FrK) (Q:Exit->Act->World->Prop) (w0:World) (M:Nat->Prop) (I0:IH):CZ->List (Option Nat)->HC->List Nat->List Nat->List AS->IH->Sh->Prop
 | E,[],dn,X,_,as,I,L=>as=[]∧∃ t,PP X t=true∧(∀ x∈X,x<t)∧UU (ops.toList.drop t) t=true∧Ops P ops (ops.toList.drop t) n (AgB dn E) (Sym w0 M I0 I (L [])) Q
 | E,none :: cs,dn,X,pend,as,I,L=>xJ (MY as) X ops.toList 0=true∧barD as dn L λD J=>DrawD P ops n Q w0 M I0 E cs D (MY as++X) pend [] I J
 | E,some c :: cs,dn,X,pend,as,I,L=>∃ o,ops[c]? = some o ∧
  ((∃ d v,o.dst=some d∧fresh E d=true∧(∀ ex,Ops P ops [o] n (IA dn (EC o) E) (Sym w0 M I0 I (L ex)) (Fin n (Sym w0 M I0 I (L ex)) d v))∧DrawD P ops n Q w0 M I0 E cs ((c,d,v) :: dn) (c :: X) (c :: pend) as I L)
  ∨ (∃ d val atom,o.dst=some d∧fresh E d=true∧uF X (EC o)=true∧Al2 P ops n w0 M I0 ⟨c,d,IA dn (EC o) E,val,atom⟩∧DrawD P ops n Q w0 M I0 E cs dn X pend (⟨c,d,IA dn (EC o) E,val,atom⟩ :: as) I L)
  ∨ (ZV ops.toList (MY as++X) c 0=true∧(as=[]∨VJ o E=E)∧∃ h,Ab1 ops c h pend∧∀ ex,Ops P ops [o] n (IA dn (EC o) E) (Sym w0 M I0 I (L ex)) λe a w=>e=.normal∧a.defers=n.defs ∧
   ∃ K J D,bY o c dn a D∧ShOk J∧Sym w0 M I0 K (J ex) w∧PendL P ops n (VJ o E) D (λex=>Sym w0 M I0 K (J ex)) h∧DrawD P ops n Q w0 M I0 (VJ o E) cs D (c :: X) h as K J))
def cW (n:FrK):List Oper->List Nat->Bool
 | [],_=>true
 | o :: r,ds=>match o.dst with
  | none=>cW n r ds
  | some d=>Nat.blt d n.sz && !JZ ds d && cW n r (d :: ds)
def cX:List Oper->Nat->Bool
 | [],_=>true
 | o :: r,i=>(EC o).all (Nat.blt · i) && cX r (i+1)
theorem AlH {o:Oper} {a:Act} {w:World} (ha:a.defers=n.defs) {K':Act->World->Prop} {O:Exit->Act->World->Prop} (W:∀ e a w,O e a w->e=.normal) (Z:∀ a w,K' a w->a.defers=n.defs)
  (h:o.wpIn (UT n) 0 P a w K' O):o.wpIn (UT n) 0 P a w (λV w'=>K' V w'∧∃ v,V=a.put o.dst v) Q:=by
 have hp:∀ c a w,¬O (.panic c) a w:=λc a w U=>by cases W _ _ _ U
 have K:¬LetsOut O:=λ⟨a,w,U⟩=>by cases W _ _ _ U
 unfold Oper.wpIn at *;refine⟨h.1,?_⟩
 replace h:=h.2
 generalize (o.semAt (UT n).round a.eval).run P w=r at *
 cases r with
 | ok x w'=>
  cases x <;> simp only[Oper.uponIn] at h ⊢
  case value v=>exact⟨h,v,rfl⟩
  case skip=>exact⟨h,_,rfl⟩
  case defer d=>exact absurd (Z _ _ h) (by rw[<-ha]; unfold Act.put; split <;> simp)
  case round=>refine⟨h.1,RoundIn.mono h.2 λe J D=>?_⟩; cases e with
   | returned v=>exact⟨D,v,rfl⟩
   | panicked c=>exact(hp _ _ _ D).elim
   | outgrown=>exact(K D).elim
  case enter f args=>
   refine⟨h.1,CallsIn.mono h.2 λe J D=>?_⟩
   cases e with
   | returned v=>exact⟨D,v,rfl⟩
   | panicked c=>exact(hp _ _ _ D).elim
   | outgrown=>exact(K D).elim
  case row=>exact⟨h.1,RowsIn.mono h.2 λv J D=>⟨D,v,rfl⟩⟩
 | halt x w'=>
  cases x <;> simp only[Oper.uponIn] at h ⊢;exact(hp _ _ _ h).elim
theorem nF {o:Oper} {i:Nat} {a:Act} {w:World} (Z:a.defers=n.defs) {J:Exit->Act->World->Prop} {K:Act->World->Prop} (hi:ops[i]? = some o) (V:∀ e a w,J e a w->e=.normal∧a.defers=n.defs)
   (h:wpListIn (UT n) 0 P ops J [o] a w) (U:∀ D w',J .normal D w'->(∃ v,D=a.put o.dst v)->K D w'):wpOpIn (UT n) 0 P ops Q i K a w:=by
 simp only[wpOpIn,hi];unfold wpListIn at h;split
 . rename_i O;rw[if_pos O] at h;refine Oper.wpIn_mono (λD w' W=>U D w' W.1 W.2) (AlH Z (K':=λa w=>J .normal a w) (Q:=Q) (λe a w h=>(V e a w h).1) (λa w h=>(V _ _ _ h).2) ?_);exact h
 . rename_i O;rw[if_neg O] at h;exact⟨h.1,U _ _ h.2 ⟨undef,rfl⟩⟩
structure RI (P:Program) (ops:Array Oper) (n:FrK) (E:CZ) (Q:Exit→Act→World→Prop) (w0:World) (M:Nat→Prop) (I0:IH) (listed:Array Bool) (a:Act) (w:World) (cs:List (Option Nat)) (dn:HC) (X pend:List Nat) (as:List AS) (I:IH) (L:Sh) (ad:List (AS×Nat)):Prop where
 draw:DrawD P ops n Q w0 M I0 E cs dn X pend as I L
 shape:ShOk L
 sat:Sym w0 M I0 I (L (ad.map fun p=>p.1.atom p.2)) w
 size:a.tmps.size=n.sz
 defers:a.defers=n.defs
 env:EnvOk E a
 lsize:listed.size=ops.size
 val:∀ i d v,(i,d,v)∈dn→listed.getD i false=true→a.tmps[d]? = some v
 have_:∀ i o d,ops[i]? = some o→o.dst=some d→i∈X→∃ v,(i,d,v)∈dn
 dnOk:∀ i d v,(i,d,v)∈dn→i∈X∧H9 dn i=some (d,v)∧∃ o,ops[i]? = some o∧o.dst=some d
 inX:∀ i,listed.getD i false=true→i∈MY as++X
 outX:∀ i,i∈X→listed.getD i false=false→i∈pend
 pendL:PendL P ops n E dn (fun ex=>Sym w0 M I0 I (L ex)) pend
 down:∀ i o,listed.getD i false=true→ops[i]? = some o→∀ p∈EC o,listed.getD p false=true
 asX:∀ c∈MY as,c ∉ X
 asNd:(MY as).Nodup
 asSp:∀ s∈as,Al2 P ops n w0 M I0 s∧∀ o,ops[s.i]? = some o→(∀ p∈EC o,p∈X)∧IA dn (EC o) E=s.env∧fresh E s.d=true
 adOk:∀ p∈ad,p.1∈as∧listed.getD p.1.i false=true∧a.tmps[p.1.d]? = some (p.1.val p.2)
 adAll:∀ s∈as,listed.getD s.i false=true→∃ b,(s,b)∈ad
 adNd:(ad.map fun p=>p.1.i).Nodup
theorem PendL.get {dn:HC} {S:List HA->World->Prop}:∀ {l:List Nat},PendL P ops n E dn S l->∀ f∈l,∃ o d v,ops[f]? = some o∧o.dst=some d∧fresh E d=true∧H9 dn f=some (d,v)∧∀ ex,Ops P ops [o] n (IA dn (EC o) E) (S ex) (Fin n (S ex) d v)
 | f :: fs,⟨h,h'⟩,g,hg=>by
  cases hg with
  | head=>exact h
  | tail _ hg=>exact PendL.get h' g hg
theorem AcP {a:Act} {js:List Nat} (J:EnvOk E a):∀ {dn:HC},(∀ i d v,(i,d,v)∈dn->i∈js->a.tmps[d]? = some v)->EnvOk (IA dn js E) a
 | [],_=>J
 | (i,d,v) :: dn,h=>by
  have ih:=AcP (js:=js) J (dn:=dn) (λi d v D=>h i d v (List.mem_cons_of_mem _ D));simp only[IA]
  cases D:JZ js i with
  | true=>exact⟨h i d v (by simp) (E4.1 D),ih⟩
  | false=>exact ih
theorem AcQ {a:Act} (D:EnvOk E a):∀ {dn:HC},(∀ i d v,(i,d,v)∈dn->a.tmps[d]? = some v)->EnvOk (AgB dn E) a
 | [],_=>D
 | (i,d,v) :: dn,h=>⟨h i d v (by simp),AcQ D λi d v J=>h i d v (List.mem_cons_of_mem _ J)⟩
theorem nG {l:List Nat} {y:Nat} (h:JZ l y=false):y ∉ l:=λD=>by rw[E4.2 D] at h; cases h
theorem WK {X:List Nat}:∀ {k i:Nat},PP X k=true->i<k->i∈X
 | k+1,i,h,hi=>by
  simp only[PP,Bool.and_eq_true] at h;by_cases e:i=k
  . subst e; exact E4.1 h.1
  . exact WK h.2 (by omega)
theorem AcR {X:List Nat}:∀ {D:List Nat},(∀ p∈D,p∈X)->uF X D=true
 | [],_=>rfl
 | p :: D,h=>by simp only[uF,Bool.and_eq_true]; exact⟨E4.2 (h p (by simp)),AcR λq J=>h q (List.mem_cons_of_mem _ J)⟩
theorem uG {X:List Nat} {c:Nat} {l:List Oper}:∀ (k:Nat),ZV l X c k=true->∀ (i:Nat) (o:Oper),l[i]? = some o->k+i∈X∨k+i=c∨¬(∀ p∈EC o,p∈X):=by
 induction l with
 | nil=>intro k _ i o hi; simp at hi
 | cons o' l J=>
  intro k h i o hi;simp only[ZV,Bool.and_eq_true,Bool.or_eq_true] at h
  cases i with
  | zero=>
   simp at hi; subst hi;rcases h.1 with(D | D) | D
   . exact .inl (E4.1 D)
   . exact .inr (.inl (Nat.eq_of_beq_eq_true D))
   . refine .inr (.inr λK=>?_);rw[AcR K] at D; cases D
  | succ i=>
   have:=J (k+1) h.2 i o (by simpa using hi)
   rwa [show k+1+i=k+(i+1) by omega] at this
theorem Ab2 (K:∀ (i:Nat) (o:Oper),listed.getD i false=true->ops[i]? = some o->∀ p∈EC o,listed.getD p false=true) (k:Nat) :
  ∀ (f c:Nat) (o:Oper),ops[c]? = some o->(∀ p∈EC o,listed.getD p false=true)->xF ops k f c=true->listed.getD f false=true:=by
 induction k with
 | zero=>intro f c o _ _ h; simp[xF] at h
 | succ k O=>
  intro f c o J hp h;simp only[xF,J,Bool.or_eq_true,List.any_eq_true] at h;rcases h with h | ⟨p,D,h⟩
  . exact hp f (E4.1 h)
  . cases ho:ops[p]? with
    | none=>cases k <;> simp[xF,ho] at h
    | some o'=>exact O f p o' ho (K p o' (hp p D) ho) h
theorem xK {f c:Nat} (h:eX ops c f=true):xF ops 1 f c=true:=by
 unfold eX at h;unfold xF
 cases hc:ops[c]? with
 | none=>rw[hc] at h; cases h
 | some o=>rw[hc] at h; simp[h]
theorem AgC {f p c:Nat} (h:eX ops p f=true):∀ {k:Nat},xF ops k p c=true->∃ J,xF ops J f c=true:=by
 intro k
 induction k generalizing c with
 | zero=>intro D; simp[xF] at D
 | succ k K=>
  intro D;unfold xF at D
  cases hc:ops[c]? with
  | none=>rw[hc] at D; cases D
  | some o=>
   rw[hc] at D;simp only[Bool.or_eq_true,List.any_eq_true] at D;rcases D with D | ⟨q,O,D⟩
   . refine⟨2,?_⟩;unfold xF;rw[hc];simp only[Bool.or_eq_true,List.any_eq_true];exact .inr ⟨p,E4.1 D,xK h⟩
   . obtain⟨J,hk⟩:=K D;refine⟨J+1,?_⟩;unfold xF;rw[hc];simp only[Bool.or_eq_true,List.any_eq_true];exact .inr ⟨q,O,hk⟩
theorem xL {l:List Oper}:∀ (O:List Nat),cW n l O=true->∀ (i:Nat) (o:Oper) (d:Nat),l[i]? = some o->o.dst=some d ->
  Nat.blt d n.sz=true∧d ∉ O∧∀ (j:Nat) (o':Oper),l[j]? = some o'->o'.dst=some d->j=i:=by
 induction l with
 | nil=>intro O _ i o d hi; simp at hi
 | cons o' l Z=>
  intro O h i o d hi U;simp only[cW] at h
  cases hd:o'.dst with
  | none=>
   rw[hd] at h
   cases i with
   | zero=>simp at hi; subst hi; rw[hd] at U; cases U
   | succ i=>
    obtain⟨h1,V,W⟩:=Z O h i o d (by simpa using hi) U;refine⟨h1,V,λj J K D=>?_⟩
    cases j with
    | zero=>simp at K; subst K; rw[hd] at D; cases D
    | succ j=>rw[W j J (by simpa using K) D]
  | some d'=>
   simp only[hd,Bool.and_eq_true,Bool.not_eq_true'] at h;obtain⟨⟨g1,g3⟩,g4⟩:=h
   cases i with
   | zero=>
    simp at hi; subst hi; rw[hd] at U; cases U;refine⟨g1,nG g3,λj J K D=>?_⟩
    cases j with
    | zero=>rfl
    | succ j=>
     have:=(Z (d :: O) g4 j J d (by simpa using K) D).2.1;exact absurd (by simp) this
   | succ i=>
    obtain⟨h1,V,W⟩:=Z (d' :: O) g4 i o d (by simpa using hi) U;refine⟨h1,λhm=>V (List.mem_cons_of_mem _ hm),λj J K D=>?_⟩
    cases j with
    | zero=>simp at K; subst K; rw[hd] at D; cases D; exact absurd (by simp) V
    | succ j=>rw[W j J (by simpa using K) D]
theorem kV {l:List Oper}:∀ (k:Nat),cX l k=true->∀ (i:Nat) (o:Oper),l[i]? = some o->∀ p∈EC o,p<k+i:=by
 induction l with
 | nil=>intro k _ i o hi; simp at hi
 | cons o' l D=>
  intro k h i o hi p hp;simp only[cX,Bool.and_eq_true,List.all_eq_true] at h
  cases i with
  | zero=>simp at hi; subst hi; have:=h.1 p hp; simpa[Nat.blt_eq] using this
  | succ i=>have:=D (k+1) h.2 i o (by simpa using hi) p hp; omega
theorem xM {ops:Array Oper} {i:Nat}:ops.toList[i]? = ops[i]?:=by simp
theorem GP {i j:Nat} (hi:i<listed.size):(listed.setIfInBounds i true).getD j false=true↔j=i∨listed.getD j false=true:=by
 simp only[Array.getD_eq_getD_getElem?,Array.getElem?_setIfInBounds];by_cases e:i=j
 . subst e; simp[hi]
 . simp[e,Ne.symm e]
theorem Ab3 {as X:List Nat} {l:List Oper}:∀ (k:Nat),xJ as X l k=true->∀ (i:Nat) (o:Oper),l[i]? = some o->k+i∈as++X∨¬(∀ p∈EC o,p∈as++X)∨∀ c∈as,c∈EC o:=by
 induction l with
 | nil=>intro k _ i o hi; simp at hi
 | cons o' l O=>
  intro k h i o hi;simp only[xJ,Bool.and_eq_true,Bool.or_eq_true] at h
  cases i with
  | zero=>
   simp at hi; subst hi;rcases h.1 with((D | D) | D) | D
   . exact .inl (List.mem_append.2 (.inr (E4.1 D)))
   . exact .inl (List.mem_append.2 (.inl (E4.1 D)))
   . refine .inr (.inl λU=>?_)
     have:(EC o').all (λp=>JZ X p || JZ as p)=true:=List.all_eq_true.2 λp hp=>by
      rcases List.mem_append.1 (U p hp) with J | J
      . simp[E4.2 J]
      . simp[E4.2 J]
     rw[this] at D; cases D
   . exact .inr (.inr λc K=>E4.1 (List.all_eq_true.1 D c K))
  | succ i=>
   have:=O (k+1) h.2 i o (by simpa using hi)
   rwa [show k+1+i=k+(i+1) by omega] at this
def RW:List (Option Nat)->List Nat
 | []=>[]
 | none :: r=>RW r
 | some c :: r=>c :: RW r
theorem TX {c:Nat}:∀ {as:List AS},c∈MY as↔∃ s∈as,s.i=c
 | []=>by simp[MY]
 | s :: r=>by
  simp only[MY,List.mem_cons,TX (as:=r)];constructor
  . rintro(rfl | ⟨D,J,h⟩)
    . exact⟨s,.inl rfl,rfl⟩
    . exact⟨D,.inr J,h⟩
  . rintro⟨D,rfl | J,h⟩
    . exact .inl h.symm
    . exact .inr ⟨D,J,h⟩
theorem PH {α β:Type} {f:α->β}:∀ {l:List α},(l.map f).Nodup->∀ {x y:α},x∈l->y∈l->f x=f y->x=y
 | a :: l,h,x,y,hx,hy,e=>by
  simp only[List.map_cons,List.nodup_cons,List.mem_map,not_exists,not_and] at h;rcases List.mem_cons.1 hx with h1 | h1 <;> rcases List.mem_cons.1 hy with h2 | h2
  . rw[h1,h2]
  . rw[h1] at e; exact absurd e.symm (h.1 y h2)
  . rw[h2] at e; exact absurd e (h.1 x h1)
  . exact PH h.2 h1 h2 e
theorem WL {α β:Type} {f:α->β}:∀ {l:List α},(l.map f).Nodup->l.Nodup
 | [],_=>.nil
 | a :: l,h=>by simp only[List.map_cons,List.nodup_cons,List.mem_map,not_exists,not_and] at h;exact List.nodup_cons.2 ⟨λD=>h.1 a D rfl,WL h.2⟩
theorem mM:∀ {as:List AS},MY as=as.map (·.i)
 | []=>rfl
 | s :: r=>by simp[MY,mM (as:=r)]
theorem sA {bs:Nat->Nat}:∀ {as:List AS},atoms bs as=(as.map λs=>(s,bs s.i)).map λp=>p.1.atom p.2
 | []=>rfl
 | s :: r=>by simp[atoms,sA (as:=r)]
theorem jA {bs:Nat->Nat} {i d:Nat} {v:Value}:∀ {as:List AS} {dn:HC},(i,d,v)∈avals bs as dn->(i,d,v)∈dn∨∃ s∈as,i=s.i∧d=s.d∧v=s.val (bs s.i)
 | [],_,h=>.inl h
 | s :: r,dn,h=>by
  rcases jA (as:=r) h with D | ⟨s',D,h2⟩
  . rcases List.mem_cons.1 D with D | D
    . cases D; exact .inr ⟨s,by simp,rfl,rfl,rfl⟩
    . exact .inl D
  . exact .inr ⟨s',List.mem_cons_of_mem _ D,h2⟩
theorem cY {bs:Nat->Nat}:∀ {as:List AS} {dn:HC},(∀ p∈dn,p∈avals bs as dn)∧∀ s∈as,(s.i,s.d,s.val (bs s.i))∈avals bs as dn
 | [],_=>⟨λ_ h=>h,by simp⟩
 | s :: r,dn=>by
  have ih:=cY (bs:=bs) (as:=r) (dn:=(s.i,s.d,s.val (bs s.i)) :: dn);refine⟨λp hp=>ih.1 p (List.mem_cons_of_mem _ hp),λs' D=>?_⟩;rcases List.mem_cons.1 D with rfl | D
  . exact ih.1 _ (by simp)
  . exact ih.2 _ D
theorem nH {i c:Nat} (h:c≠i):Nat.beq c i=false:=by cases hb:Nat.beq c i with | false=>rfl | true=>exact absurd (Nat.eq_of_beq_eq_true hb) h
theorem YA {bs:Nat->Nat} {i:Nat}:∀ {as:List AS} {dn:HC},i ∉ MY as->H9 (avals bs as dn) i=H9 dn i
 | [],_,_=>rfl
 | s :: r,dn,h=>by simp only[MY,List.mem_cons,not_or] at h;rw[avals,YA h.2];simp only[H9,nH (Ne.symm h.1),cond_false]
theorem eZ {bs:Nat->Nat}:∀ {as:List AS} {dn:HC},(MY as).Nodup->∀ s∈as,H9 (avals bs as dn) s.i=some (s.d,s.val (bs s.i))
 | s :: r,dn,h,s',hs'=>by
  simp only[MY,List.nodup_cons] at h;rcases List.mem_cons.1 hs' with rfl | hs'
  . rw[avals,YA h.1]; simp[H9]
  . exact eZ h.2 s' hs'
theorem sB {l:HC} {c:Nat} {x:Nat×Value} (h:H9 l c=some x):(c,x)∈l:=by
 induction l with
 | nil=>simp[H9] at h
 | cons q l D=>
  simp only[H9] at h
  cases hb:Nat.beq q.1 c with
  | true=>rw[hb] at h; simp at h; have:=Nat.eq_of_beq_eq_true hb; subst h; subst this; simp
  | false=>rw[hb] at h; exact List.mem_cons_of_mem _ (D h)
theorem nI {c d:Nat} {v:Value} {dn:HC} {js:List Nat} {a:Act} (h:EnvOk (IA ((c,d,v) :: dn) js E) a):EnvOk (IA dn js E) a:=by
 simp only[IA] at h
 cases hm:JZ js c with
 | false=>rw[hm] at h; exact h
 | true=>rw[hm] at h; exact h.2
theorem PendL.push {c d:Nat} {v:Value} {dn:HC} {S:List HA->World->Prop} (J:∀ x,H9 dn c≠some x):∀ {l:List Nat},PendL P ops n E dn S l->PendL P ops n E ((c,d,v) :: dn) S l
 | [],_=>trivial
 | f :: fs,⟨⟨o',d',v',h1,h2,hfr,h3,h4⟩,h5⟩=>by
  refine⟨⟨o',d',v',h1,h2,hfr,?_,λex K w' h D=>h4 ex K w' ⟨h.size,h.defers,nI h.env⟩ D⟩,PendL.push J h5⟩;have hne:c≠f:=λe=>by subst e; exact J _ h3
  simp only[H9,nH hne,cond_false]; exact h3
theorem PendL.app {dn:HC} {S:List HA->World->Prop} (g:List HA->List HA):∀ {l:List Nat},PendL P ops n E dn S l->PendL P ops n E dn (λex=>S (g ex)) l
 | [],_=>trivial
 | _ :: _,⟨⟨o',d',v',h1,h2,hfr,h3,h4⟩,h5⟩=>⟨⟨o',d',v',h1,h2,hfr,h3,λex=>h4 (g ex)⟩,PendL.app g h5⟩
theorem PendL.avals {bs:Nat->Nat} {S:List HA->World->Prop} {l:List Nat}:∀ {as:List AS} {dn:HC},(MY as).Nodup->(∀ c∈MY as,∀ x,H9 dn c≠some x)->PendL P ops n E dn S l->PendL P ops n E (avals bs as dn) S l
 | [],_,_,_,h=>h
 | s :: r,dn,hn,hd,h=>by
  simp only[MY,List.nodup_cons] at hn;refine PendL.avals (as:=r) hn.2 (λc J x=>?_) (h.push (hd s.i (by simp[MY])));have D:s.i≠c:=λe=>by subst e; exact hn.1 J
  simp only[H9,nH D,cond_false];exact hd c (by simp[MY,J]) x
theorem sC {X:List Nat}:∀ {D:List Nat},uF X D=true->∀ p∈D,p∈X
 | q :: D,h,p,hp=>by
  simp only[uF,Bool.and_eq_true] at h;rcases List.mem_cons.1 hp with rfl | hp
  . exact E4.1 h.1
  . exact sC h.2 p hp
theorem RI.norm {a:Act} {w:World}:∀ {cs:List (Option Nat)} {dn:HC} {X pend:List Nat} {as:List AS} {I:IH} {L:Sh} {ad:List (AS×Nat)},RI P ops n E Q w0 M I0 listed a w cs dn X pend as I L ad ->
    (∀ c∈RW cs,c ∉ MY as++X)->(RW cs).Nodup->∃ cs' dn' X' pend' as' L' ad',RI P ops n E Q w0 M I0 listed a w cs' dn' X' pend' as' I L' ad'∧(∀ c∈RW cs',c ∉ MY as'++X')∧(RW cs').Nodup∧(∀ c∈RW cs',c∈RW cs)∧(∀ c∈MY as'++X',c∈MY as++X∨c∈RW cs)∧(∀ i,(i∈MY as++X∨i∈RW cs)->(i∈MY as'++X'∨i∈RW cs')) ∧
      (cs'=[]∨(∃ r,cs'=none :: r∧∃ c∈MY as',listed.getD c false=false)∨∃ c r o,cs'=some c :: r∧ops[c]? = some o∧ZV ops.toList (MY as'++X') c 0=true∧(as'=[]∨VJ o E=E)∧∃ p',Ab1 ops c p' pend'∧∀ ex,Ops P ops [o] n (IA dn' (EC o) E) (Sym w0 M I0 I (L' ex)) λe a w=>e=.normal∧a.defers=n.defs ∧
          ∃ I2 L2 dn2,bY o c dn' a dn2∧ShOk L2∧Sym w0 M I0 I2 (L2 ex) w∧PendL P ops n (VJ o E) dn2 (λex=>Sym w0 M I0 I2 (L2 ex)) p'∧DrawD P ops n Q w0 M I0 (VJ o E) r dn2 (c :: X') p' as' I2 L2):=by
  intro cs
  induction cs with
  | nil=>exact λh _ _=>⟨_,_,_,_,_,_,_,h,by simp[RW],by simp[RW],by simp[RW],λc hc=>.inl hc,λ_ h=>h,.inl rfl⟩
  | cons c? cs ih=>
    intro dn X pend as I L ad h hX hN
    cases c? with
    | none=>
      by_cases hall:∀ c∈MY as,listed.getD c false=true
      . -- the barrier falls
        have hd:=h.draw;simp only[DrawD] at hd
        have hex:∀ i,∃ b,∀ s∈as,s.i=i->(s,b)∈ad:=λi=>by
          by_cases hi:∃ s∈as,s.i=i
          . obtain⟨s,hs,rfl⟩:=hi;obtain⟨b,hb⟩:=h.adAll s hs (hall _ (TX.2 ⟨s,hs,rfl⟩));refine⟨b,λs' hs' e=>?_⟩;have hnd:=h.asNd;rw[mM] at hnd;rw[PH hnd hs' hs e]; exact hb
          . exact⟨0,λs hs e=>absurd ⟨s,hs,e⟩ hi⟩
        obtain⟨bs,hbs⟩:∃ bs:Nat->Nat,∀ s∈as,(s,bs s.i)∈ad:=⟨λi=>Classical.choose (hex i),λs hs=>Classical.choose_spec (hex s.i) s hs rfl⟩
        have hperm:(ad.map λp=>p.1.atom p.2).Perm (atoms bs as):=by
          rw[sA];refine List.Perm.map _ ?_
          have hnd2:(as.map λs=>(s,bs s.i)).Nodup:=by have hnd:=h.asNd;rw[mM] at hnd;refine WL (f:=λp=>p.1.i) ?_;simpa[Function.comp_def] using hnd
          refine(List.perm_ext_iff_of_nodup (WL h.adNd) hnd2).2 λp=>⟨λhp=>?_,λhp=>?_⟩
          . have h1:=(h.adOk p hp).1;have:=PH h.adNd hp (hbs p.1 h1) rfl;exact List.mem_map.2 ⟨p.1,h1,this.symm⟩
          . obtain⟨s,hs,rfl⟩:=List.mem_map.1 hp;exact hbs s hs
        have hdl:∀ c∈MY as,∀ x,H9 dn c≠some x:=λc hc x e=>h.asX c hc (h.dnOk c x.1 x.2 (sB e)).1
        have H:RI P ops n E Q w0 M I0 listed a w cs (Fw.avals bs as dn) (MY as++X) pend [] I (λex=>L (Fw.atoms bs as++ex)) []:=by
          refine⟨hd.2.get bs,h.shape.app _,?_,h.size,h.defers,h.env,h.lsize,?_,?_,?_,h.inX,?_,?_,h.down,by simp[MY],by simp[MY],by simp,by simp,by simp,by simp⟩
          . refine h.sat.perm (((h.shape.front _).trans ?_).trans (h.shape.front _).symm);simp only[List.map_nil,List.append_nil];exact hperm.append_right _
          . intro i d v hm hl;rcases jA hm with hm | ⟨s,hs,rfl,rfl,rfl⟩
            . exact h.val i d v hm hl
            . exact(h.adOk _ (hbs s hs)).2.2
          . intro i o d hi hd hm;rcases List.mem_append.1 hm with hm | hm
            . obtain⟨s,hs,rfl⟩:=TX.1 hm;obtain⟨o',ho',hd',_⟩:=(h.asSp s hs).1;rw[hi] at ho'; cases ho'; rw[hd] at hd'; cases hd';exact⟨_,cY.2 s hs⟩
            . obtain⟨v,hv⟩:=h.have_ i o d hi hd hm;exact⟨v,cY.1 _ hv⟩
          . intro i d v hm;rcases jA hm with hm | ⟨s,hs,rfl,rfl,rfl⟩
            . obtain⟨g1,g2,g3⟩:=h.dnOk i d v hm;exact⟨List.mem_append.2 (.inr g1),(YA (λhc=>h.asX i hc g1)).trans g2,g3⟩
            . obtain⟨o',ho',hd',_⟩:=(h.asSp s hs).1;exact⟨List.mem_append.2 (.inl (TX.2 ⟨s,hs,rfl⟩)),eZ h.asNd s hs,o',ho',hd'⟩
          . intro i hi hl;rcases List.mem_append.1 hi with hi | hi
            . rw[hall i hi] at hl; cases hl
            . exact h.outX i hi hl
          . exact(h.pendL.app (λex=>Fw.atoms bs as++ex)).avals h.asNd hdl
        have g:=ih H (by simpa[MY,RW] using hX) hN;simp only[MY,List.nil_append] at g;exact g
      . refine⟨none :: cs,dn,X,pend,as,L,ad,h,hX,hN,λc hc=>hc,λc hc=>.inl hc,λ_ h=>h,.inr (.inl ⟨cs,rfl,?_⟩)⟩;refine Classical.byContradiction λhne=>hall λc hc=>?_
        cases hl:listed.getD c false with
        | true=>rfl
        | false=>exact absurd ⟨c,hc,hl⟩ hne
    | some c=>
    have hd:=h.draw;simp only[DrawD] at hd;simp only[RW,List.nodup_cons] at hN;have hcX:c ∉ MY as++X:=hX c (by simp[RW]);have hnl:listed.getD c false=false:=by cases hl:listed.getD c false with | false=>rfl | true=>exact absurd (h.inX c hl) hcX
    obtain⟨o,ho,hd | hd | hd⟩:=hd
    . obtain⟨d,v,hod,hfr,hops,hdr⟩:=hd;have hcX':c ∉ X:=λhm=>hcX (List.mem_append.2 (.inr hm));have hcdn:∀ d v,(c,d,v) ∉ dn:=λd v hm=>hcX' (h.dnOk c d v hm).1
      have hdl:∀ i d' v',(i,d',v')∈dn->H9 ((c,d,v) :: dn) i=some (d',v'):=λi d' v' hm=>by
        have hne:c≠i:=λe=>by subst e; exact hcdn _ _ hm
        simp only[H9,nH hne,cond_false]; exact(h.dnOk i d' v' hm).2.1
      suffices H:RI P ops n E Q w0 M I0 listed a w cs ((c,d,v) :: dn) (c :: X) (c :: pend) as I L ad∧(∀ c'∈RW cs,c' ∉ MY as++c :: X) by
        obtain⟨cs',dn',X',pend',as',L',ad',g1,g2,g3,g4,g5,g7,g6⟩:=ih H.1 H.2 hN.2;refine⟨cs',dn',X',pend',as',L',ad',g1,g2,g3,λc' hc'=>List.mem_cons_of_mem _ (g4 c' hc'),λc' hc'=>?_,λi hi=>g7 i ?_,g6⟩
        . rcases g5 c' hc' with h1 | h1
          . simp only[List.mem_append,List.mem_cons,RW] at h1 ⊢;rcases h1 with h1 | rfl | h1
            . exact .inl (.inl h1)
            . exact .inr (.inl rfl)
            . exact .inl (.inr h1)
          . exact .inr (List.mem_cons_of_mem _ h1)
        . simp only[List.mem_append,List.mem_cons,RW] at hi ⊢;rcases hi with(h1 | h1) | h1 | h1
          . exact .inl (.inl h1)
          . exact .inl (.inr (.inr h1))
          . exact .inl (.inr (.inl h1))
          . exact .inr h1
      refine⟨⟨hdr,h.shape,h.sat,h.size,h.defers,h.env,h.lsize,?_,?_,?_,λi hi=>?_,?_,?_,h.down,?_,h.asNd,?_,h.adOk,h.adAll,h.adNd⟩,λc' hc'=>?_⟩
      . intro i d' v' hm hl
        cases hm with
        | head=>rw[hnl] at hl; cases hl
        | tail _ hm=>exact h.val i d' v' hm hl
      . intro i o' d' hi hd' hm;rcases List.mem_cons.1 hm with rfl | hm
        . rw[ho] at hi; cases hi; rw[hod] at hd'; cases hd'; exact⟨v,by simp⟩
        . obtain⟨v',hv'⟩:=h.have_ i o' d' hi hd' hm; exact⟨v',List.mem_cons_of_mem _ hv'⟩
      . intro i d' v' hm
        cases hm with
        | head=>exact⟨by simp,by simp[H9],o,ho,hod⟩
        | tail _ hm=>exact⟨List.mem_cons_of_mem _ (h.dnOk i d' v' hm).1,hdl i d' v' hm,(h.dnOk i d' v' hm).2.2⟩
      . have:=h.inX i hi;simp only[List.mem_append,List.mem_cons] at this ⊢;exact this.imp id .inr
      . intro i hi hl;rcases List.mem_cons.1 hi with rfl | hi
        . simp
        . exact List.mem_cons_of_mem _ (h.outX i hi hl)
      . refine⟨⟨o,d,v,ho,hod,hfr,by simp[H9],λex a' w' hok hs'=>hops ex a' w' ⟨hok.size,hok.defers,nI hok.env⟩ hs'⟩,h.pendL.push λx hx=>hcdn _ _ (sB hx)⟩
      . intro c' hc' hm;rcases List.mem_cons.1 hm with rfl | hm
        . exact hcX (List.mem_append.2 (.inl hc'))
        . exact h.asX c' hc' hm
      . intro s hs;obtain⟨g1,g2⟩:=h.asSp s hs;refine⟨g1,λo' ho'=>⟨λp hp=>List.mem_cons_of_mem _ ((g2 o' ho').1 p hp),?_⟩⟩;have hnm:JZ (EC o') c=false:=by cases hm:JZ (EC o') c with | false=>rfl | true=>exact absurd ((g2 o' ho').1 c (E4.1 hm)) hcX'
        simp only[IA,hnm,cond_false];exact(g2 o' ho').2
      . intro hm;simp only[List.mem_append,List.mem_cons] at hm;rcases hm with hm | rfl | hm
        . exact hX c' (by simp[RW,hc']) (List.mem_append.2 (.inl hm))
        . exact hN.1 hc'
        . exact hX c' (by simp[RW,hc']) (List.mem_append.2 (.inr hm))
    . obtain⟨d,val,atom,hod,hfr,hin,hsp,hdr⟩:=hd
      suffices H:RI P ops n E Q w0 M I0 listed a w cs dn X pend (⟨c,d,IA dn (EC o) E,val,atom⟩ :: as) I L ad∧(∀ c'∈RW cs,c' ∉ MY (⟨c,d,IA dn (EC o) E,val,atom⟩ :: as)++X) by
        obtain⟨cs',dn',X',pend',as',L',ad',g1,g2,g3,g4,g5,g7,g6⟩:=ih H.1 H.2 hN.2;refine⟨cs',dn',X',pend',as',L',ad',g1,g2,g3,λc' hc'=>List.mem_cons_of_mem _ (g4 c' hc'),λc' hc'=>?_,λi hi=>g7 i ?_,g6⟩
        . rcases g5 c' hc' with h1 | h1
          . simp only[MY,List.cons_append,List.mem_cons,RW] at h1 ⊢;rcases h1 with rfl | h1
            . exact .inr (.inl rfl)
            . exact .inl h1
          . exact .inr (List.mem_cons_of_mem _ h1)
        . simp only[MY,List.cons_append,List.mem_cons,RW] at hi ⊢;rcases hi with h1 | h1 | h1
          . exact .inl (.inr h1)
          . exact .inl (.inl h1)
          . exact .inr h1
      refine⟨⟨hdr,h.shape,h.sat,h.size,h.defers,h.env,h.lsize,h.val,h.have_,h.dnOk,λi hi=>List.mem_cons_of_mem _ (h.inX i hi),h.outX,h.pendL,h.down,?_,?_,?_,?_,?_,h.adNd⟩,λc' hc'=>?_⟩
      . intro c' hc';rcases List.mem_cons.1 hc' with rfl | hc'
        . exact λhm=>hcX (List.mem_append.2 (.inr hm))
        . exact h.asX c' hc'
      . exact List.nodup_cons.2 ⟨λhm=>hcX (List.mem_append.2 (.inl hm)),h.asNd⟩
      . intro s hs;rcases List.mem_cons.1 hs with rfl | hs
        . exact⟨hsp,λo' ho'=>by rw[ho] at ho'; cases ho'; exact⟨sC hin,rfl,hfr⟩⟩
        . exact h.asSp s hs
      . intro p hp;exact⟨List.mem_cons_of_mem _ (h.adOk p hp).1,(h.adOk p hp).2⟩
      . intro s hs hl;rcases List.mem_cons.1 hs with rfl | hs
        . rw[hnl] at hl; cases hl
        . exact h.adAll s hs hl
      . simp only[MY,List.cons_append,List.mem_cons,not_or];exact⟨λe=>hN.1 (e▸hc'),hX c' (by simp[RW,hc'])⟩
    . exact⟨some c :: cs,dn,X,pend,as,L,ad,h,hX,List.nodup_cons.2 hN,λc hc=>hc,λc hc=>.inl hc,λ_ h=>h,.inr (.inr ⟨c,cs,o,rfl,ho,hd.1,hd.2.1,hd.2.2⟩)⟩
theorem fA {X:List Nat}:∀ {k i:Nat},eY X k=true->i<k->i∈X
 | k+1,i,h,hi=>by
  simp only[eY,Bool.and_eq_true] at h;by_cases e:i=k
  . subst e; exact E4.1 h.1
  . exact fA h.2 (by omega)
theorem kW {l:List Oper}:∀ (k:Nat),UU l k=true->∀ (i:Nat) (o:Oper),l[i]? = some o->∀ j,j<k+i->j∈EC o:=by
 induction l with
 | nil=>intro k _ i o hi; simp at hi
 | cons o' l J=>
  intro k h i o hi j D;simp only[UU,Bool.and_eq_true] at h
  cases i with
  | zero=>simp at hi; subst hi; exact fA h.1 (by simpa using D)
  | succ i=>exact J (k+1) h.2 i o (by simpa using hi) j (by omega)
theorem AeM {i:Nat} (hi:i∈Region.ready .any ops listed):i<ops.size∧listed.getD i true=false∧∃ o,ops[i]? = some o∧∀ p∈EC o,listed.getD p false=true:=by rw[mem_ready] at hi;obtain⟨O,o,D,hp⟩:=hi;refine⟨(Array.getElem?_eq_some_iff.1 D).1,O,o,D,λp h=>?_⟩;obtain⟨e,K,J,rfl⟩:=ZU.1 h;exact hp e (by simpa using K) J
theorem AgD {t:Nat} (ht:UU (ops.toList.drop t) t=true) (V:cX ops.toList 0=true):∀ (D k:Nat) {listed:Array Bool} {a:Act} {w:World},t<=k->k<=ops.size->listed.size=ops.size->(∀ i,listed.getD i false=true↔i<k)->ops.size<=D+k ->
  wpListIn (UT n) 0 P ops Q (ops.toList.drop k) a w->wpAnyIn (UT n) 0 P .any ops Q D listed a w:=by
 have only:∀ {k:Nat} {listed:Array Bool} {i:Nat},t<=k->listed.size=ops.size->(∀ i,listed.getD i false=true↔i<k)->i∈Region.ready .any ops listed->i=k∧i<ops.size:=by
  intro k listed i O K U hi;obtain⟨h1,h2,o,ho,hp⟩:=AeM hi;refine⟨?_,h1⟩
  have hik:¬i<k:=λh=>by
    have:=(U i).2 h;have J:i<listed.size:=by omega
    simp only[Array.getD_eq_getD_getElem?,Array.getElem?_eq_getElem J,Option.getD_some] at this h2;rw[this] at h2; cases h2
  rcases Nat.lt_or_ge k i with h3 | h3
  . have hm:k∈EC o:=kW t ht (i - t) o (by rw[List.getElem?_drop,show t+(i - t)=i by omega,xM]; exact ho) k (by omega);have:=(U k).1 (hp k hm); omega
  . omega
 intro D
 induction D with
 | zero=>
  intro k listed a w O hk K U hf h;have e:k=ops.size:=by omega
  refine⟨?_,?_⟩
  . cases hr:Region.ready .any ops listed with
    | nil=>rfl
    | cons i r=>have:=only O K U (i:=i) (by rw[hr]; simp); omega
  . rw[e,List.drop_of_length_le (by simp)] at h; exact h
 | succ D ih=>
  intro k listed a w O hk K U hf h;refine⟨λhr=>?_,λi hi=>?_⟩
  . have e:k=ops.size:=by
      rcases Nat.lt_or_ge k ops.size with J | hge
      . exfalso
        have:k∈Region.ready .any ops listed:=by
         rw[mem_ready];have Z:k<listed.size:=by omega
         refine⟨?_,ops[k],by simp[J],λe he hb=>?_⟩
         . cases hv:listed.getD k true with
           | false=>rfl
           | true=>
            have:listed.getD k false=true:=by simp only[Array.getD_eq_getD_getElem?,Array.getElem?_eq_getElem Z,Option.getD_some] at hv ⊢; exact hv
            have:=(U k).1 this; omega
         . have hm:e.on∈EC ops[k]:=ZU.2 ⟨e,by simpa using he,hb,rfl⟩;have:=kV 0 V k ops[k] (by rw[xM]; simp[J]) e.on hm;exact(U e.on).2 (by omega)
        rw[hr] at this; cases this
      . omega
    rw[e,List.drop_of_length_le (by simp)] at h; exact h
  . obtain⟨rfl,J⟩:=only O K U hi
    have hd:ops.toList.drop i=ops[i] :: ops.toList.drop (i+1):=by rw[List.drop_eq_getElem_cons (by simpa using J)]; simp
    rw[hd] at h;have hi2:ops[i]? = some ops[i]:=by simp[J]
    have W:∀ j,(listed.setIfInBounds i true).getD j false=true↔j<i+1:=λj=>by rw[GP (by omega),U j]; omega
    have step:∀ a w,wpListIn (UT n) 0 P ops Q (ops.toList.drop (i+1)) a w->wpAnyIn (UT n) 0 P .any ops Q D (listed.setIfInBounds i true) a w:=λa w h'=>
      ih (i+1) (by omega) (by omega) (by simpa using K) W (by omega) h'
    simp only[wpOpIn,hi2];unfold wpListIn at h;split
    . rename_i hw;rw[if_pos hw] at h;exact Oper.wpIn_mono step h
    . rename_i hw;rw[if_neg hw] at h;exact⟨h.1,step _ _ h.2⟩
theorem ZW (d:Nat):∀ E:CZ,fresh (rmE d E) d=true
 | []=>rfl
 | p :: r=>by
  simp only[rmE]
  cases h:Nat.beq p.1 d with
  | true=>simpa using ZW d r
  | false=>simp[fresh,h,ZW d r]
theorem uH {a:Act} (d:Nat):∀ {E:CZ},EnvOk E a->EnvOk (rmE d E) a
 | [],_=>trivial
 | p :: r,h=>by
  simp only[rmE]
  cases hb:Nat.beq p.1 d with
  | true=>simpa using uH d h.2
  | false=>exact⟨h.1,uH d h.2⟩
theorem xN {o:Oper} {d:Nat} (D:o.dst=some d):fresh (VJ o E) d=true:=by
 simp only[VJ,D]
 cases h:fresh E d with
 | true=>exact h
 | false=>exact ZW d E
theorem AgE {o:Oper} {a:Act} (h:EnvOk E a):EnvOk (VJ o E) a:=by
 simp only[VJ];split
 . exact h
 . rename_i d _
   cases hb:fresh E d with
   | true=>exact h
   | false=>exact uH d h
theorem AeN {t:Nat} (hdst:cW n (ops.toList.take t) []=true) (hback:cX ops.toList 0=true) (htail:UU (ops.toList.drop t) t=true) (ht:t<=ops.size):∀ (fuel:Nat) {E:CZ} {listed:Array Bool} {a:Act} {w:World} {cs:List (Option Nat)} {dn:HC} {X pend:List Nat} {as:List AS} {I:IH} {L:Sh} {ad:List (AS×Nat)},
  RI P ops n E Q w0 M I0 listed a w cs dn X pend as I L ad->(∀ c∈RW cs,c ∉ MY as++X)->(RW cs).Nodup->(∀ c∈RW cs,c<t)->(∀ c∈MY as++X,c<t)->(∀ i,i<t->i∈MY as++X∨i∈RW cs)->ops.size<=fuel+(listed.toList.filter id).length->wpAnyIn (UT n) 0 P .any ops Q fuel listed a w:=by
 -- all of the first t have come: the tail
 have fin:∀ {fuel:Nat} {E:CZ} {listed:Array Bool} {a:Act} {w:World} {cs:List (Option Nat)} {dn:HC} {X pend:List Nat} {as:List AS} {I:IH} {L:Sh} {ad:List (AS×Nat)},RI P ops n E Q w0 M I0 listed a w cs dn X pend as I L ad->(∀ c∈RW cs,c ∉ MY as++X)->(RW cs).Nodup->(∀ c∈RW cs,c<t)->(∀ c∈MY as++X,c<t) ->
    (∀ i,i<t->listed.getD i false=true)->ops.size<=fuel+t->wpAnyIn (UT n) 0 P .any ops Q fuel listed a w:=by
  intro fuel E listed a w cs dn X pend as I L ad h hX hN hct hXt U hf;obtain⟨cs',dn',X',pend',as',L',ad',D,hX',hN',hsub,hXs,_,hcs⟩:=h.norm hX hN;have W:∀ c∈MY as'++X',c<t:=λc hc=>(hXs c hc).elim (hXt c) (hct c);rcases hcs with rfl | ⟨r,rfl,c,hc,V⟩ | ⟨c,r,o,rfl,ho,_⟩
  . have hd:=D.draw;simp only[DrawD] at hd;obtain⟨rfl,t',hc',hlt',_,hops⟩:=hd
    have had:ad'=[]:=by
      cases ad' with
      | nil=>rfl
      | cons p r=>have:=(D.adOk p (by simp)).1; cases this
    subst had;simp only[MY,List.nil_append] at W;have hinX:∀ i,listed.getD i false=true->i∈X':=λi hi=>by simpa[MY] using D.inX i hi
    have e:t'=t:=by
      rcases Nat.lt_trichotomy t' t with h1 | h1 | h1
      . have:=hlt' t' (hinX t' (U t' h1)); omega
      . exact h1
      . have:=W t (WK hc' h1); omega
    subst e;refine AgD htail hback fuel t' (Nat.le_refl _) ht D.lsize (λi=>⟨λhi=>W i (hinX i hi),U i⟩) hf (hops a w ⟨D.size,D.defers,AcQ D.env λi d v K=>?_⟩ D.sat);exact D.val i d v K (U i (W i (D.dnOk i d v K).1))
  . rw[U c (W c (List.mem_append.2 (.inl hc)))] at V; cases V
  . have:=U c (hct c (hsub c (by simp[RW])));exact absurd (D.inX c this) (hX' c (by simp[RW]))
 -- something is always left to do, where one of the first t has not come
 have some':∀ {listed:Array Bool},listed.size=ops.size->Region.ready .any ops listed=[]->∀ i,i<ops.size->listed.getD i false=true:=by
  intro listed hsz hr i
  induction i using Nat.strongRecOn with
  | _ i ih=>
    intro hi
    cases V:listed.getD i false with
    | true=>rfl
    | false=>
      exfalso;obtain⟨o,ho⟩:∃ o,ops[i]? = some o:=⟨ops[i],by simp[hi]⟩
      have:i∈Region.ready .any ops listed:=by
        rw[mem_ready];refine⟨?_,o,ho,λe he hb=>?_⟩
        . have hlt:i<listed.size:=by rw[hsz]; exact hi
          simp only[Array.getD_eq_getD_getElem?,Array.getElem?_eq_getElem hlt,Option.getD_some] at V ⊢; exact V
        . have K:e.on∈EC o:=ZU.2 ⟨e,by simpa using he,hb,rfl⟩;have:=kV 0 hback i o (by rw[xM]; exact ho) e.on K;exact ih e.on (by omega) (by omega)
      rw[hr] at this; cases this
 have cnt:∀ {listed:Array Bool},(∀ i,listed.getD i false=true↔i<t)->listed.size=ops.size->(listed.toList.filter id).length=t:=by
  intro listed V hsz;have ht':=ht
  have e:listed.toList=List.replicate t true++List.replicate (ops.size - t) false:=by
    apply List.ext_getElem?;intro i;by_cases hi:i<ops.size
    . have hlt:i<listed.size:=by omega
      have hv:=V i;simp only[Array.getD_eq_getD_getElem?,Array.getElem?_eq_getElem hlt,Option.getD_some] at hv;rw[show listed.toList[i]? = some listed[i] by simp[hlt]];by_cases h1:i<t
      . rw[List.getElem?_append_left (by simpa using h1)]; simp[h1,hv.2 h1]
      . rw[List.getElem?_append_right (by simpa using Nat.le_of_not_lt h1)];have:listed[i]=false:=by cases hb:listed[i] with | false=>rfl | true=>exact absurd (hv.1 hb) h1
        rw[this,List.length_replicate,List.getElem?_replicate,if_pos (by omega)]
    . rw[List.getElem?_eq_none (by simp; omega),List.getElem?_eq_none (by simp; omega)]
  rw[e]; simp
 intro fuel
 induction fuel with
 | zero=>
  intro E listed a w cs dn X pend as I L ad h hX hN hct hXt hcov hf
  have U:∀ i,i<ops.size->listed.getD i false=true:=by
    intro i hi
    have hlen:(listed.toList.filter id).length=listed.toList.length:=by have h1:=List.length_filter_le id listed.toList;have h2:=h.lsize;simp only[Array.length_toList] at h1 ⊢;omega
    have:=List.length_filter_eq_length_iff.1 hlen;have hlt:i<listed.size:=by rw[h.lsize]; exact hi
    have hx:=this listed[i] (by simp);simpa[Array.getD_eq_getD_getElem?,Array.getElem?_eq_getElem hlt] using hx
  have e:t=ops.size:=by
    rcases Nat.lt_or_ge t ops.size with h1 | h1
    . have:=hXt t (h.inX t (U t h1)); omega
    . omega
  exact fin h hX hN hct hXt (λi hi=>U i (by omega)) (by omega)
 | succ fuel ih=>
  intro E listed a w cs dn X pend as I L ad h hX hN hct hXt hcov hf;by_cases U:∀ i,i<t->listed.getD i false=true
  . have hiff:∀ i,listed.getD i false=true↔i<t:=λi=>⟨λhi=>hXt i (h.inX i hi),U i⟩;have:=cnt hiff h.lsize;exact fin h hX hN hct hXt U (by omega)
  refine⟨λhr=>absurd (λi hi=>some' h.lsize hr i (by omega)) U,λi hi=>?_⟩;rw[mem_ready] at hi;obtain⟨hil,o,ho,hpre⟩:=hi;have hi:=(Array.getElem?_eq_some_iff.1 ho).1;have J:i<listed.size:=by rw[h.lsize]; exact hi
  have hil':listed.getD i false=false:=by simp only[Array.getD_eq_getD_getElem?,Array.getElem?_eq_getElem J,Option.getD_some] at hil ⊢; exact hil
  have hpre':∀ p∈EC o,listed.getD p false=true:=λp hp=>by obtain⟨e,he,hb,rfl⟩:=ZU.1 hp;exact hpre e (by simpa using he) hb
  have hit:i<t:=by
    rcases Nat.lt_or_ge i t with h1 | h1
    . exact h1
    . exact absurd (λj Z=>hpre' j (kW t htail (i - t) o (by rw[List.getElem?_drop,show t+(i - t)=i by omega,xM]; exact ho) j (by omega))) U
  have hcount:ops.size<=fuel+((listed.setIfInBounds i true).toList.filter id).length:=by
    have:((listed.setIfInBounds i true).toList.filter id).length=(listed.toList.filter id).length+1:=by
      rw[Array.toList_setIfInBounds]
      have hb:listed.toList[i]? = some false:=by simp only[Array.getD_eq_getD_getElem?,Array.getElem?_eq_getElem J,Option.getD_some] at hil';simp[J,hil']
      have key:∀ (l:List Bool) (i:Nat),l[i]? = some false->((l.set i true).filter id).length=(l.filter id).length+1:=by
        intro l
        induction l with
        | nil=>intro i h; simp at h
        | cons b l ihl=>
          intro i h
          cases i with
          | zero=>simp at h; subst h; simp
          | succ i=>
            have:=ihl i (by simpa using h);simp only[List.set_cons_succ,List.filter_cons];split <;> simp[this]
      exact key _ i hb
    omega
  obtain⟨cs',dn',X',pend',as',L',ad',D,hX',hN',hsub,hXs,hcov',hcs⟩:=h.norm hX hN;have W:∀ c∈MY as'++X',c<t:=λc hc=>(hXs c hc).elim (hXt c) (hct c);have hct':∀ c∈RW cs',c<t:=λc hc=>hct c (hsub c hc);have hcv:∀ i,i<t->i∈MY as'++X'∨i∈RW cs':=λi hi=>hcov' i (hcov i hi);clear h hX hN
  have hdo:∀ d,o.dst=some d->Nat.blt d n.sz=true∧∀ j o',j<t->ops[j]? = some o'->o'.dst=some d->j=i:=λd hd=>by obtain⟨g1,_,g4⟩:=xL [] hdst i o d (by rw[List.getElem?_take,if_pos hit,xM]; exact ho) hd;exact⟨g1,λj o' hjt Z=>g4 j o' (by rw[List.getElem?_take,if_pos hjt,xM]; exact Z)⟩
  have hother:∀ {a':Act} {v:Value} {j d':Nat} {v':Value} {o':Oper},a'=a.put o.dst v->j<t->j≠i->ops[j]? = some o'->o'.dst=some d'->a.tmps[d']? = some v'->a'.tmps[d']? = some v':=by
    intro a' v j d' v' o' ha' hjt hne ho' hd' hv;subst ha'
    cases hd:o.dst with
    | none=>exact hv
    | some d=>
      have hdd:¬d=d':=λe=>by subst e; exact hne ((hdo d hd).2 j o' hjt ho' hd')
      simp only[Act.put,Array.getElem?_setIfInBounds,if_neg hdd];exact hv
  have hput:∀ {a':Act} {v:Value},a'=a.put o.dst v->a'.tmps.size=n.sz∧(∀ E2:CZ,(∀ d,o.dst=some d->fresh E2 d=true)->EnvOk E2 a->EnvOk E2 a')∧(∀ j d' v',(j,d',v')∈dn'->j≠i->listed.getD j false=true->a'.tmps[d']? = some v') ∧
      (∀ p∈ad',p.1.i≠i->a'.tmps[p.1.d]? = some (p.1.val p.2)):=by
    intro a' v ha';refine⟨?_,λE2 hfr hE=>?_,λj d' v' K hne V=>?_,λp hp hne=>?_⟩
    . subst ha'; cases hd:o.dst <;> simp[Act.put,D.size]
    . subst ha'
      cases hd:o.dst with
      | none=>exact hE
      | some d=>exact hE.put (hfr d hd) v
    . obtain⟨g1,_,o',ho',hd'⟩:=D.dnOk j d' v' K;exact hother ha' (W j (List.mem_append.2 (.inr g1))) hne ho' hd' (D.val j d' v' K V)
    . obtain⟨g1,g2,g3⟩:=D.adOk p hp;obtain⟨o',ho',hd',_⟩:=(D.asSp _ g1).1;exact hother ha' (W _ (List.mem_append.2 (.inl (TX.2 ⟨_,g1,rfl⟩)))) hne ho' hd' g3
  have hselE:∀ {js:List Nat},(∀ p∈js,listed.getD p false=true)->Ok n (IA dn' js E) a:=λZ=>⟨D.size,D.defers,AcP D.env λj d v K hjm=>D.val j d v K (Z j hjm)⟩;have hsel:Ok n (IA dn' (EC o) E) a:=hselE hpre'
  have hdown:∀ j o',(listed.setIfInBounds i true).getD j false=true->ops[j]? = some o'->∀ p∈EC o',(listed.setIfInBounds i true).getD p false=true:=by
    intro j o' Z ho' p hp;rw[GP J] at Z ⊢;rcases Z with rfl | Z
    . rw[ho] at ho'; cases ho'; exact .inr (hpre' p hp)
    . exact .inr (D.down j o' Z ho' p hp)
  have hadI:∀ p∈ad',p.1.i≠i:=λp hp e=>by have:=(D.adOk p hp).2.1;rw[e,hil'] at this; cases this
  have hadl:∀ {a':Act} {v:Value},a'=a.put o.dst v->∀ p∈ad',p.1∈as'∧(listed.setIfInBounds i true).getD p.1.i false=true∧a'.tmps[p.1.d]? = some (p.1.val p.2):=λha' p hp=>
    ⟨(D.adOk p hp).1,(GP J).2 (.inr (D.adOk p hp).2.1),(hput ha').2.2.2 p hp (hadI p hp)⟩
  by_cases hiX:i∈X'
  . -- a step that was shown already
    have hip:=D.outX i hiX hil';obtain⟨o2,d,v,h1,h2,hfr,h3,h4⟩:=D.pendL.get i hip;rw[ho] at h1; cases h1;refine nF D.defers ho (λe a w hq=>⟨hq.1,hq.2.1⟩) (h4 _ a w hsel D.sat) λa' w' hfin hp=>?_;obtain⟨v',hv'⟩:=hp;obtain⟨g1,g2,g3,_⟩:=hput hv';refine ih ⟨D.draw,D.shape,hfin.2.2.2,g1,hfin.2.1,g2 _ (λd2 hd2=>by rw[h2] at hd2; cases hd2; exact hfr) D.env,by simpa using D.lsize,?_,D.have_,D.dnOk,?_,?_,D.pendL,hdown,D.asX,D.asNd,D.asSp,hadl hv',?_,D.adNd⟩ hX' hN' hct' W hcv hcount
    . intro j d' v2 K V;by_cases e:j=i
      . subst e;have hd2:=(D.dnOk j d' v2 K).2.1;rw[h3] at hd2;cases hd2;exact hfin.2.2.1
      . exact g3 j d' v2 K e (((GP J).1 V).resolve_left e)
    . intro j Z;rcases(GP J).1 Z with rfl | Z
      . exact List.mem_append.2 (.inr hiX)
      . exact D.inX j Z
    . intro j Z V;refine D.outX j Z ?_
      cases hl':listed.getD j false with
      | false=>rfl
      | true=>rw[(GP J).2 (.inr hl')] at V; cases V
    . intro s hs V;rcases(GP J).1 V with e | V
      . exact absurd hiX (D.asX i (TX.2 ⟨s,hs,e⟩))
      . exact D.adAll s hs V
  . by_cases hia:i∈MY as'
    . -- a step that makes a block
      obtain⟨s,hs,rfl⟩:=TX.1 hia;obtain⟨⟨o2,ho2,hd2,hsp⟩,hen⟩:=D.asSp s hs;rw[ho] at ho2; cases ho2;obtain⟨hhX,hse,hfr⟩:=hen o ho;refine nF D.defers ho (λe a w hq=>⟨hq.1,hq.2.1⟩) (hsp _ _ D.shape _ a w (by rw[<-hse]; exact hsel) D.sat) λa' w' hfin hp=>?_;obtain⟨v',hv'⟩:=hp;obtain⟨g1,g2,g3,_⟩:=hput hv';obtain⟨_,hdf,b,hb,hsy⟩:=hfin;refine ih (ad:=(s,b) :: ad') ⟨D.draw,D.shape,hsy,g1,hdf,g2 _ (λd3 hd3=>by rw[hd2] at hd3; cases hd3; exact hfr) D.env,by simpa using D.lsize,?_,D.have_,D.dnOk,?_,?_,D.pendL,hdown,D.asX,D.asNd,D.asSp,?_,?_,?_⟩ hX' hN' hct' W hcv hcount
      . intro j d' v2 K V;have hne:j≠s.i:=λe=>hiX (e▸(D.dnOk j d' v2 K).1);exact g3 j d' v2 K hne (((GP J).1 V).resolve_left hne)
      . intro j Z;rcases(GP J).1 Z with rfl | Z
        . exact List.mem_append.2 (.inl hia)
        . exact D.inX j Z
      . intro j Z V;refine D.outX j Z ?_
        cases hl':listed.getD j false with
        | false=>rfl
        | true=>rw[(GP J).2 (.inr hl')] at V; cases V
      . intro p hp;rcases List.mem_cons.1 hp with rfl | hp
        . exact⟨hs,(GP J).2 (.inl rfl),hb⟩
        . exact hadl hv' p hp
      . intro s' hs' V;rcases(GP J).1 V with e | V
        . have hnd:=D.asNd;rw[mM] at hnd;rw[PH hnd hs' hs e];exact⟨b,by simp⟩
        . obtain⟨b',hb'⟩:=D.adAll s' hs' V;exact⟨b',List.mem_cons_of_mem _ hb'⟩
      . simp only[List.map_cons,List.nodup_cons,List.mem_map,not_exists,not_and];exact⟨λp hp=>hadI p hp,D.adNd⟩
    have hi2:i ∉ MY as'++X':=λK=>(List.mem_append.1 K).elim hia hiX
    -- the next step that turns memory
    rcases hcs with rfl | ⟨r,rfl,c,hc,V⟩ | ⟨c,r,o2,rfl,ho2,hbl,hasE,p',hpo,hops⟩
    . exact absurd ((hcv i hit).resolve_right (by simp[RW])) hi2
    . have hd:=D.draw;simp only[DrawD] at hd;rcases Ab3 0 hd.1 i o (by rw[xM]; exact ho) with hb | hb | hb
      . exact absurd (by simpa using hb) hi2
      . exact absurd (λp hp=>D.inX p (hpre' p hp)) hb
      . rw[hpre' c (hb c hc)] at V; cases V
    . have hic:i=c:=by
        rcases uG 0 hbl i o (by rw[xM]; exact ho) with hb | hb | hb
        . exact absurd (by simpa using hb) hi2
        . simpa using hb
        . exact absurd (λp hp=>D.inX p (hpre' p hp)) hb
      subst hic;rw[ho] at ho2; cases ho2;refine nF D.defers ho (λe a w hq=>⟨hq.1,hq.2.1⟩) (hops _ a w hsel D.sat) λa' w' hfin hp=>?_;obtain⟨v',hv'⟩:=hp;obtain⟨g1,g2,g3,_⟩:=hput hv';obtain⟨_,hdf,I2,L2,dn'',O,hsh,hS',hpl,hdr⟩:=hfin;simp only[RW,List.nodup_cons] at hN';have hnot:∀ d v,(i,d,v) ∉ dn':=λd v K=>hiX (D.dnOk i d v K).1
      have hsub:∀ j d v,(j,d,v)∈dn''->(j,d,v)∈dn'∨(j=i∧o.dst=some d∧a'.tmps[d]? = some v):=by
        intro j d v K;unfold bY at O
        cases hod:o.dst with
        | none=>rw[hod] at O; subst O; exact .inl K
        | some d2=>
          rw[hod] at O;obtain⟨v2,hv2,rfl⟩:=O
          cases K with
          | head=>exact .inr ⟨rfl,rfl,hv2⟩
          | tail _ K=>exact .inl K
      have hsup:∀ j d v,(j,d,v)∈dn'->(j,d,v)∈dn''∧H9 dn'' j=H9 dn' j:=by
        intro j d v K;have hji:j≠i:=λe=>by subst e; exact hnot _ _ K
        unfold bY at O
        cases hod:o.dst with
        | none=>rw[hod] at O; subst O; exact⟨K,rfl⟩
        | some d2=>
          rw[hod] at O;obtain⟨v2,hv2,rfl⟩:=O;exact⟨List.mem_cons_of_mem _ K,by simp only[H9,nH (Ne.symm hji),cond_false]⟩
      have hselS:∀ {js:List Nat},i ∉ js->IA dn'' js E=IA dn' js E:=by
        intro js Z;unfold bY at O
        cases hod:o.dst with
        | none=>rw[hod] at O; subst O; rfl
        | some d2=>
          rw[hod] at O;obtain⟨v2,hv2,rfl⟩:=O;have hnm:JZ js i=false:=by cases K:JZ js i with | false=>rfl | true=>exact absurd (E4.1 K) Z
          simp only[IA,hnm,cond_false]
      refine ih ⟨hdr,hsh,hS',g1,hdf,g2 _ (λd3 hd3=>xN hd3) (AgE D.env),by simpa using D.lsize,?_,?_,?_,?_,?_,hpl,hdown,?_,D.asNd,?_,hadl hv',?_,D.adNd⟩ (λc' hc' K=>?_) hN'.2 (λc hc=>hct' c (List.mem_cons_of_mem _ hc)) (λc hc=>?_) (λj Z=>?_) hcount
      . intro j d v K V;rcases hsub j d v K with K | ⟨rfl,_,hv⟩
        . have hji:j≠i:=λe=>by subst e; exact hnot _ _ K
          exact g3 j d v K hji (((GP J).1 V).resolve_left hji)
        . exact hv
      . intro j o2 d Z hd K;rcases List.mem_cons.1 K with rfl | K
        . rw[ho] at Z; cases Z;unfold bY at O;rw[hd] at O;obtain⟨v2,_,rfl⟩:=O;exact⟨v2,by simp⟩
        . obtain⟨v,hv⟩:=D.have_ j o2 d Z hd K;exact⟨v,(hsup j d v hv).1⟩
      . intro j d v K;rcases hsub j d v K with hm' | ⟨rfl,hd,hv⟩
        . exact⟨List.mem_cons_of_mem _ (D.dnOk j d v hm').1,(hsup j d v hm').2.trans (D.dnOk j d v hm').2.1,(D.dnOk j d v hm').2.2⟩
        . refine⟨by simp,?_,o,ho,hd⟩;unfold bY at O;rw[hd] at O;obtain⟨v2,hv2,rfl⟩:=O;rw[hv] at hv2; cases hv2;simp[H9]
      . intro j Z;simp only[List.mem_append,List.mem_cons];rcases(GP J).1 Z with rfl | Z
        . exact .inr (.inl rfl)
        . exact(List.mem_append.1 (D.inX j Z)).imp id .inr
      . intro j Z V
        have hjl:listed.getD j false=false:=by
          cases hl':listed.getD j false with
          | false=>rfl
          | true=>rw[(GP J).2 (.inr hl')] at V; cases V
        rcases List.mem_cons.1 Z with rfl | Z
        . rw[(GP J).2 (.inl rfl)] at V; cases V
        . rcases hpo j (D.outX j Z hjl) with h1 | ⟨k,h1⟩
          . exact h1
          . rw[Ab2 D.down k j i o ho hpre' h1] at hjl; cases hjl
      . intro c hc K;rcases List.mem_cons.1 K with rfl | K
        . exact hia hc
        . exact D.asX c hc K
      . intro s hs;obtain⟨q1,q2⟩:=D.asSp s hs;have hEE:VJ o E=E:=hasE.resolve_left λe=>by subst e; cases hs
        refine⟨q1,λo' ho'=>⟨λp hp=>List.mem_cons_of_mem _ ((q2 o' ho').1 p hp),?_⟩⟩;rw[hEE,hselS λK=>hiX ((q2 o' ho').1 i K)];exact(q2 o' ho').2
      . intro s hs V;rcases(GP J).1 V with e | V
        . exact absurd (TX.2 ⟨s,hs,e⟩) hia
        . exact D.adAll s hs V
      . simp only[List.mem_append,List.mem_cons] at K;rcases K with K | rfl | K
        . exact hX' c' (by simp[RW,hc']) (List.mem_append.2 (.inl K))
        . exact hN'.1 hc'
        . exact hX' c' (by simp[RW,hc']) (List.mem_append.2 (.inr K))
      . simp only[List.mem_append,List.mem_cons] at hc;rcases hc with hc | rfl | hc
        . exact W c (List.mem_append.2 (.inl hc))
        . exact hit
        . exact W c (List.mem_append.2 (.inr hc))
      . have:=hcv j Z;simp only[List.mem_append,List.mem_cons,RW] at this ⊢;rcases this with(h1 | h1) | rfl | h1
        . exact .inl (.inl h1)
        . exact .inl (.inr (.inr h1))
        . exact .inl (.inr (.inl rfl))
        . exact .inr h1
def nJ:List Nat->Bool
 | []=>true
 | x :: l=>!JZ l x && nJ l
theorem kX:∀ {l:List Nat},nJ l=true->l.Nodup
 | [],_=>.nil
 | x :: l,h=>by simp only[nJ,Bool.and_eq_true,Bool.not_eq_true'] at h;exact List.nodup_cons.2 ⟨nG h.1,kX h.2⟩
theorem Cod.draw {id:Nat} {l:List Oper} {I:IH} (cs:List (Option Nat)) (t:Nat) (hm:P.follows .mixedOrders=true) (h1:cW n (l.take t) []=true) (h2:cX l 0=true)
   (W:UU (l.drop t) t=true) (U:nJ (RW cs)=true) (h5:Nat.ble t l.length=true) (O:(RW cs).all (Nat.blt · t)=true) (h7:PP (RW cs) t=true) (L:Sh) (Z:∀ X ex,Del (L (X :: ex)) X (L ex)) (V:l0=L [])
   (h:DrawD P l.toArray n Q w0 M I0 E cs [] [] [] [] I L):Cod P (.region id l.toArray true) n E (Sym w0 M I0 I l0) Q:=by
 intro a w D J
 refine wpIn_region_any hm (AeN (t:=t) (by simpa using h1) (by simpa using h2) (by simpa using W) (by simpa using h5) _ (cs:=cs) (dn:=[]) (X:=[]) (pend:=[]) (as:=[]) (I:=I) (L:=L) (ad:=[])
   ⟨h,λX ex=>(Z X ex).perm,by rw[V] at J; exact J.drew _ (Nat.le_succ _),D.size,D.defers,D.env,by simp,by simp,by simp,by simp,?_,by simp,trivial,?_,by simp[MY],by simp[MY],by simp,by simp,by simp,by simp⟩ (by simp[MY]) (kX U) (λc K=>by have:=List.all_eq_true.1 O c K; simpa[Nat.blt_eq] using this) (by simp[MY]) (λi hi=>.inr (WK h7 hi)) (by simp))
 . intro i hi;simp only[Array.getD_eq_getD_getElem?,Array.getElem?_replicate] at hi;split at hi <;> simp at hi
 . intro i o hi;simp only[Array.getD_eq_getD_getElem?,Array.getElem?_replicate] at hi;split at hi <;> simp at hi
section
variable {cs:List (Option Nat)} {c d:Nat} {dn:HC} {X pend:List Nat} {as:List AS} {I:IH} {L:Sh} {o:Oper} {v:Value}
theorem DrawD.f (js:List Nat) (O:ops[c]? = some o) (J:EC o=js) (K:o.dst=some d) (D:fresh E d=true)
  (h:∀ ex,Ops P ops [o] n (IA dn js E) (Sym w0 M I0 I (L ex)) (Fin n (Sym w0 M I0 I (L ex)) d v)) (k:DrawD P ops n Q w0 M I0 E cs ((c,d,v) :: dn) (c :: X) (c :: pend) as I L):DrawD P ops n Q w0 M I0 E (some c :: cs) dn X pend as I L:=
 ⟨o,O,.inl ⟨d,v,K,D,by rw[J]; exact h,k⟩⟩
theorem Fin.mk {S:World->Prop} {d:Nat} {v:Value} {E:CZ}:Ops P ops [] n ((d,v) :: E) S (Fin n S d v):=λ_ _ h D=>⟨rfl,h.defers,h.env.1,D⟩
def APost (n:FrK) (w0:World) (M:Nat->Prop) (I0 I:IH) (d:Nat) (val:Nat->Value) (atom:Nat->HA) (L:Sh) (ex:List HA):Exit->Act->World->Prop:=λe a w=>e=.normal∧a.defers=n.defs∧∃ b,a.tmps[d]? = some (val b)∧Sym w0 M I0 I (L (atom b :: ex)) w
theorem APost.mk {val:Nat->Value} {atom:Nat->HA} (D:ShOk L) (b:Nat) {E':CZ}:Ops P ops [] n ((d,val b) :: E') (Sym w0 M I0 I (atom b :: L ex)) (APost n w0 M I0 I d val atom L ex):=
 λ_ _ h J=>⟨rfl,h.defers,b,h.env.1,J.perm (D _ _).symm⟩
theorem DrawD.a (val:Nat->Value) (atom:Nat->HA) (K:ops[c]? = some o) (J:o.dst=some d) (D:fresh E d=true) (hi:uF X (EC o)=true)
  (h:∀ (I:IH) (L:Sh),ShOk L->∀ ex,Ops P ops [o] n (IA dn (EC o) E) (Sym w0 M I0 I (L ex)) (APost n w0 M I0 I d val atom L ex))
  (k:DrawD P ops n Q w0 M I0 E cs dn X pend (⟨c,d,IA dn (EC o) E,val,atom⟩ :: as) I L):DrawD P ops n Q w0 M I0 E (some c :: cs) dn X pend as I L:=
 ⟨o,K,.inr (.inl ⟨d,val,atom,J,D,hi,⟨o,K,J,h⟩,k⟩)⟩
theorem DrawD.b (J:xJ (MY as) X ops.toList 0=true) (k:barD as dn L λh D=>DrawD P ops n Q w0 M I0 E cs h (MY as++X) pend [] I D):DrawD P ops n Q w0 M I0 E (none :: cs) dn X pend as I L:=⟨J,k⟩
theorem DrawD.nop (h:DrawD P ops n Q w0 M I0 E cs dn X pend as I L):DrawD P ops n Q w0 M I0 E cs dn X pend as I L:=h
def WPost (P:Program) (ops:Array Oper) (n:FrK) (E:CZ) (Q:Exit->Act->World->Prop) (w0:World) (M:Nat->Prop) (I0:IH) (o:Oper) (c:Nat) (cs:List (Option Nat)) (dn:HC) (X h:List Nat) (as:List AS) (ex:List HA):Exit->Act->World->Prop:=
 λe a w=>e=.normal∧a.defers=n.defs∧∃ K J D,bY o c dn a D∧ShOk J∧Sym w0 M I0 K (J ex) w∧PendL P ops n E D (λex=>Sym w0 M I0 K (J ex)) h∧DrawD P ops n Q w0 M I0 E cs D (c :: X) h as K J
theorem WPost.some {h:List Nat} {E':CZ} (L:Sh) (O:l0=L ex) (K:∀ X ex,Del (L (X :: ex)) X (L ex)) (U:o.dst=some d) (hp:PendL P ops n E ((c,d,v) :: dn) (λex=>Sym w0 M I0 I (L ex)) h)
  (k:DrawD P ops n Q w0 M I0 E cs ((c,d,v) :: dn) (c :: X) h as I L):Ops P ops [] n ((d,v) :: E') (Sym w0 M I0 I l0) (WPost P ops n E Q w0 M I0 o c cs dn X h as ex):=
 λa w J D=>⟨rfl,J.defers,I,L,_,by unfold bY; rw[U]; exact⟨v,J.env.1,rfl⟩,λX ex=>(K X ex).perm,by rw[O] at D; exact D,hp,k⟩
theorem WPost.none {h:List Nat} {E':CZ} (L:Sh) (K:l0=L ex) (J:∀ X ex,Del (L (X :: ex)) X (L ex)) (O:o.dst=none) (hp:PendL P ops n E dn (λex=>Sym w0 M I0 I (L ex)) h)
  (k:DrawD P ops n Q w0 M I0 E cs dn (c :: X) h as I L):Ops P ops [] n E' (Sym w0 M I0 I l0) (WPost P ops n E Q w0 M I0 o c cs dn X h as ex):=
 λa w U D=>⟨rfl,U.defers,I,L,_,by unfold bY; rw[O],λX ex=>(J X ex).perm,by rw[K] at D; exact D,hp,k⟩
theorem DrawD.e (t:Nat) (D:PP X t=true) (K:X.all (Nat.blt · t)=true) (J:UU (ops.toList.drop t) t=true) (k:Ops P ops (ops.toList.drop t) n (AgB dn E) (Sym w0 M I0 I (L [])) Q):DrawD P ops n Q w0 M I0 E [] dn X pend [] I L:=
 ⟨rfl,t,D,λx h=>by have:=List.all_eq_true.1 K x h; simpa[Nat.blt_eq] using this,J,k⟩
end
end Go.Fw
