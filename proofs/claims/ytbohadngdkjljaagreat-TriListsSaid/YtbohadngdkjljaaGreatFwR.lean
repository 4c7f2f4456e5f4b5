/- The engine, part R: regions whose order is drawn. Some canonical order is walked; what is unordered with a step that turns memory is shown anew behind it. -/
import Derived.Test.YtbohadngdkjljaaGreatFwB
import Derived.OrdersIn
namespace Go.Fw
open Go Go.RowKit
variable {w0:World} {M:Nat→Prop} {I0:IH}
variable {P:Program} {n:FrK} {E:DY} {Q:Exit→Act→World→Prop} {ops:Array Oper}
abbrev IQ:=List (Nat×Nat×Value)
def LM:List Nat→Nat→Bool
  | [],_=>false
  | x :: l,y=>bif Nat.beq x y then true else LM l y
theorem EN {l:List Nat} {y:Nat}:LM l y=true↔y∈l:=by
  induction l with
  | nil=>simp [LM]
  | cons x l D=>
    simp only [LM,List.mem_cons]
    cases h:Nat.beq x y with
    | true=>simp [Nat.eq_of_beq_eq_true h]
    | false=>
      have:y≠x:=fun e=>by rw [e,Nat.beq_refl] at h; cases h
      simp [D,this]
def oG:List Edge→List Nat
  | []=>[]
  | e :: l=>bif Region.binds .any e then e.on :: oG l else oG l
def FT (o:Oper):List Nat:=oG o.after.toList
theorem Z6 {l:List Edge} {j:Nat}:j∈oG l↔∃ e∈l,Region.binds .any e=true∧e.on=j:=by
  induction l with
  | nil=>simp [oG]
  | cons e l U=>
    simp only [oG]
    cases h:Region.binds .any e with
    | true => simp only [cond_true, List.mem_cons, U]; constructor
              · rintro (rfl | ⟨O,J,D,G⟩)
                · exact ⟨e,.inl rfl,h,rfl⟩
                · exact ⟨O,.inr J,D,G⟩
              · rintro ⟨O,rfl | J,D,G⟩
                · exact .inl G.symm
                · exact .inr ⟨O,J,D,G⟩
    | false => simp only [cond_false, List.mem_cons, U]; constructor
               · rintro ⟨O,J,D,G⟩; exact ⟨O,.inr J,D,G⟩
               · rintro ⟨O,rfl | J,D,G⟩
                 · rw [h] at D; cases D
                 · exact ⟨O,J,D,G⟩
def LN:IQ→List Nat→DY→DY
  | [],_,E=>E
  | p :: r,js,E=>bif LM js p.1 then p.2 :: LN r js E else LN r js E
def Ad0:IQ→DY→DY
  | [],E=>E
  | p :: r,E=>p.2 :: Ad0 r E
def HP:IQ→Nat→Option (Nat×Value)
  | [],_=>none
  | p :: r,i=>bif Nat.beq p.1 i then some p.2 else HP r i
def Fin (n:FrK) (S:World→Prop) (d:Nat) (v:Value):Exit→Act→World→Prop:=fun e a w=>e=.normal∧a.defers=n.defs∧a.tmps[d]? = some v∧S w
abbrev Sh:=List HA→List HA
def ShOk (L:Sh):Prop:=∀ X h,(L (X :: h)).Perm (X :: L h)
theorem Del.perm {l m:List HA} {A:HA} (h:Del l A m):l.Perm (A :: m):=by
  induction h with
  | z=>exact .refl _
  | s _ D=>exact (D.cons _).trans (.swap ..)
theorem AbM {l J:List HA} {I:IH} (hp:l.Perm J):∀ {h:IH},NF l I h→NF J I h:=by
  induction hp with
  | nil=>exact fun h=>h
  | cons x _ O=>exact fun ⟨U,V,a,b,c,d,e⟩=>⟨U,V,a,b,c,d,O e⟩
  | swap x y l=>exact fun W=>cF (.s .z) W
  | trans _ _ G D=>exact fun h=>D (G h)
theorem Sym.perm {I:IH} {l D:List HA} {w:World} (hp:l.Perm D) (h:Sym w0 M I0 I l w):Sym w0 M I0 I D w:=by
  obtain ⟨J,hi,V,k,O,hk,G,U⟩:=h
  exact ⟨J,hi,V,k,AbM hp O,hk,G,U⟩
theorem ShOk.front {L:Sh} (h:ShOk L):∀ D,(L D).Perm (D++L [])
  | []=>.refl _
  | X :: D=>(h X D).trans ((h.front D).cons X)
theorem ShOk.app {L:Sh} (h:ShOk L) (pre:List HA):ShOk fun D=>L (pre++D):=fun X D=>by
  refine (h.front _).trans (.trans ?_ ((h.front (pre++D)).symm.cons X))
  simp only [List.append_assoc,List.cons_append]
  exact List.perm_middle
structure AS where
  i:Nat
  d:Nat
  env:DY
  val:Nat→Value
  atom:Nat→HA
def Ah9 (P:Program) (ops:Array Oper) (n:FrK) (w0:World) (M:Nat→Prop) (I0:IH) (s:AS):Prop:=
  ∃ o,ops[s.i]? = some o∧o.dst=some s.d∧∀ (I:IH) (L:Sh),ShOk L→∀ h,Ops P ops [o] n s.env (Sym w0 M I0 I (L h)) fun e a w=>e=.normal∧a.defers=n.defs∧∃ b,a.tmps[s.d]? = some (s.val b)∧Sym w0 M I0 I (L (s.atom b :: h)) w
def NG:List AS→List Nat
  | []=>[]
  | s :: r=>s.i :: NG r
def barD:List AS→IQ→Sh→(IQ→Sh→Prop)→Prop
  | [],dn,L,K=>K dn L
  | s :: r,dn,L,K=>∀ b,barD r ((s.i,s.d,s.val b) :: dn) (fun h=>L (s.atom b :: h)) K
def avals (bs:Nat→Nat):List AS→IQ→IQ
  | [],dn=>dn
  | s :: r,dn=>avals bs r ((s.i,s.d,s.val (bs s.i)) :: dn)
def atoms (bs:Nat→Nat):List AS→List HA
  | []=>[]
  | s :: r=>s.atom (bs s.i) :: atoms bs r
theorem barD.get (bs:Nat→Nat):∀ {as:List AS} {dn:IQ} {L:Sh} {K:IQ→Sh→Prop},barD as dn L K→K (avals bs as dn) (fun D=>L (atoms bs as++D))
  | [],_,_,_,h=>h
  | s :: r,_,_,_,h=>barD.get bs (as:=r) (h (bs s.i))
def tL (as X:List Nat):List Oper→Nat→Bool
  | [],_=>true
  | o :: r,i=>(LM X i || LM as i || !(FT o).all (fun p=>LM X p || LM as p) || as.all (LM (FT o))) && tL as X r (i+1)
def PendL (P:Program) (ops:Array Oper) (n:FrK) (E:DY) (dn:IQ) (S:List HA→World→Prop):List Nat→Prop
  | []=>True
  | f :: fs=>(∃ o d v,ops[f]? = some o∧o.dst=some d∧fresh E d=true∧HP dn f=some (d,v)∧∀ h,Ops P ops [o] n (LN dn (FT o) E) (S h) (Fin n (S h) d v))∧PendL P ops n E dn S fs
def tH (ops:Array Oper):Nat→Nat→Nat→Bool
  | 0,_,_=>false
  | k+1,f,c=>match ops[c]? with
    | none=>false
    | some o=>LM (FT o) f || (FT o).any (tH ops k f)
def xY (ops:Array Oper) (c:Nat) (h pend:List Nat):Prop:=∀ f∈pend,f∈h∨∃ k,tH ops k f c=true
def cI (ops:Array Oper) (c f:Nat):Bool:=match ops[c]? with
  | none=>false
  | some o=>LM (FT o) f
def tM (X:List Nat):List Nat→Bool
  | []=>true
  | p :: ps=>LM X p && tM X ps
def Z7 (ops:List Oper) (X:List Nat) (c:Nat):Nat→Bool
  | i=>match ops with
    | []=>true
    | o :: r=>(LM X i || Nat.beq i c || !tM X (FT o)) && Z7 r X c (i+1)
def QG (X:List Nat):Nat→Bool
  | 0=>true
  | k+1=>LM X k && QG X k
def aN (o:Oper) (c:Nat) (dn:IQ) (a:Act) (h:IQ):Prop:=
  match o.dst with
  | some d=>∃ v,a.tmps[d]? = some v∧h=(c,d,v) :: dn
  | none=>h=dn
def cJ (X:List Nat):Nat→Bool
  | 0=>true
  | k+1=>LM X k && cJ X k
def VU:List Oper→Nat→Bool
  | [],_=>true
  | o :: r,i=>cJ (FT o) i && VU r (i+1)
def rmE (d:Nat):DY→DY
  | []=>[]
  | p :: r=>bif Nat.beq p.1 d then rmE d r else p :: rmE d r
def W7 (o:Oper) (E:DY):DY:=match o.dst with
  | none=>E
  | some d=>bif fresh E d then E else rmE d E
def DrawD (P:Program) (ops:Array Oper) (n:FrK) (Q:Exit→Act→World→Prop) (w0:World) (M:Nat→Prop) (I0:IH):DY→List (Option Nat)→IQ→List Nat→List Nat→List AS→IH→Sh→Prop
  | E,[],dn,X,_,as,I,L=>as=[]∧∃ t,QG X t=true∧(∀ x∈X,x<t)∧VU (ops.toList.drop t) t=true∧Ops P ops (ops.toList.drop t) n (Ad0 dn E) (Sym w0 M I0 I (L [])) Q
  | E,none :: cs,dn,X,pend,as,I,L=>tL (NG as) X ops.toList 0=true∧barD as dn L fun D J=>DrawD P ops n Q w0 M I0 E cs D (NG as++X) pend [] I J
  | E,some c :: cs,dn,X,pend,as,I,L=>∃ o,ops[c]? = some o ∧
      ((∃ d v,o.dst=some d∧fresh E d=true∧(∀ G,Ops P ops [o] n (LN dn (FT o) E) (Sym w0 M I0 I (L G)) (Fin n (Sym w0 M I0 I (L G)) d v))∧DrawD P ops n Q w0 M I0 E cs ((c,d,v) :: dn) (c :: X) (c :: pend) as I L)
      ∨ (∃ d val atom,o.dst=some d∧fresh E d=true∧tM X (FT o)=true∧Ah9 P ops n w0 M I0 ⟨c,d,LN dn (FT o) E,val,atom⟩∧DrawD P ops n Q w0 M I0 E cs dn X pend (⟨c,d,LN dn (FT o) E,val,atom⟩ :: as) I L)
      ∨ (Z7 ops.toList (NG as++X) c 0=true∧(as=[]∨W7 o E=E)∧∃ h,xY ops c h pend∧∀ G,Ops P ops [o] n (LN dn (FT o) E) (Sym w0 M I0 I (L G)) fun e a w=>e=.normal∧a.defers=n.defs ∧
          ∃ O J D,aN o c dn a D∧ShOk J∧Sym w0 M I0 O (J G) w∧PendL P ops n (W7 o E) D (fun G=>Sym w0 M I0 O (J G)) h∧DrawD P ops n Q w0 M I0 (W7 o E) cs D (c :: X) h as O J))
def bF (n:FrK):List Oper→List Nat→Bool
  | [],_=>true
  | o :: r,ds=>match o.dst with
    | none=>bF n r ds
    | some d=>Nat.blt d n.sz && !LM ds d && bF n r (d :: ds)
def bG:List Oper→Nat→Bool
  | [],_=>true
  | o :: r,i=>(FT o).all (Nat.blt · i) && bG r (i+1)
theorem AhO {o:Oper} {a:Act} {w:World} (V:a.defers=n.defs) {K':Act→World→Prop} {J:Exit→Act→World→Prop} (U:∀ e a w,J e a w→e=.normal) (W:∀ a w,K' a w→a.defers=n.defs)
    (h:o.wpIn (UY n) 0 P a w K' J):o.wpIn (UY n) 0 P a w (fun a' w'=>K' a' w'∧∃ v,a'=a.put o.dst v) Q:=by
  have hp:∀ c a w,¬J (.panic c) a w:=fun c a w O=>by cases U _ _ _ O
  have D:¬LetsOut J:=fun ⟨a,w,O⟩=>by cases U _ _ _ O
  unfold Oper.wpIn at *
  refine ⟨h.1,?_⟩
  replace h:=h.2
  generalize (o.semAt (UY n).round a.eval).run P w=r at *
  cases r with
  | ok x w'=>
    cases x <;> simp only [Oper.uponIn] at h ⊢
    case value v=>exact ⟨h,v,rfl⟩
    case skip=>exact ⟨h,_,rfl⟩
    case defer d=>exact absurd (W _ _ h) (by rw [←V]; unfold Act.put; split <;> simp)
    case round=>refine ⟨h.1,RoundIn.mono h.2 fun e G he=>?_⟩; cases e with
      | returned v=>exact ⟨he,v,rfl⟩
      | panicked c=>exact (hp _ _ _ he).elim
      | outgrown=>exact (D he).elim
    case enter f args=>
      refine ⟨h.1,CallsIn.mono h.2 fun e G he=>?_⟩
      cases e with
      | returned v=>exact ⟨he,v,rfl⟩
      | panicked c=>exact (hp _ _ _ he).elim
      | outgrown=>exact (D he).elim
    case row=>exact ⟨h.1,RowsIn.mono h.2 fun v G he=>⟨he,v,rfl⟩⟩
  | halt x w'=>
    cases x <;> simp only [Oper.uponIn] at h ⊢
    exact (hp _ _ _ h).elim
theorem jW {o:Oper} {i:Nat} {a:Act} {w:World} (V:a.defers=n.defs) {D:Exit→Act→World→Prop} {K:Act→World→Prop} (hi:ops[i]? = some o) (O:∀ e a w,D e a w→e=.normal∧a.defers=n.defs)
    (h:wpListIn (UY n) 0 P ops D [o] a w) (U:∀ a' w',D .normal a' w'→(∃ v,a'=a.put o.dst v)→K a' w'):wpOpIn (UY n) 0 P ops Q i K a w:=by
  simp only [wpOpIn,hi]
  unfold wpListIn at h
  split
  · rename_i G
    rw [if_pos G] at h
    refine Oper.wpIn_mono (fun a' w' J=>U a' w' J.1 J.2) (AhO V (K':=fun a w=>D .normal a w) (Q:=Q) (fun e a w h=>(O e a w h).1) (fun a w h=>(O _ _ _ h).2) ?_)
    exact h
  · rename_i G
    rw [if_neg G] at h
    exact ⟨h.1,U _ _ h.2 ⟨undef,rfl⟩⟩
structure RI (P:Program) (ops:Array Oper) (n:FrK) (E:DY) (Q:Exit→Act→World→Prop) (w0:World) (M:Nat→Prop) (I0:IH) (listed:Array Bool) (a:Act) (w:World) (cs:List (Option Nat)) (dn:IQ) (X pend:List Nat) (as:List AS) (I:IH) (L:Sh) (ad:List (AS×Nat)):Prop where
  draw:DrawD P ops n Q w0 M I0 E cs dn X pend as I L
  shape:ShOk L
  sat:Sym w0 M I0 I (L (ad.map fun p=>p.1.atom p.2)) w
  size:a.tmps.size=n.sz
  defers:a.defers=n.defs
  env:EnvOk E a
  lsize:listed.size=ops.size
  val:∀ i d v,(i,d,v)∈dn→listed.getD i false=true→a.tmps[d]? = some v
  have_:∀ i o d,ops[i]? = some o→o.dst=some d→i∈X→∃ v,(i,d,v)∈dn
  dnOk:∀ i d v,(i,d,v)∈dn→i∈X∧HP dn i=some (d,v)∧∃ o,ops[i]? = some o∧o.dst=some d
  inX:∀ i,listed.getD i false=true→i∈NG as++X
  outX:∀ i,i∈X→listed.getD i false=false→i∈pend
  pendL:PendL P ops n E dn (fun ex=>Sym w0 M I0 I (L ex)) pend
  down:∀ i o,listed.getD i false=true→ops[i]? = some o→∀ p∈FT o,listed.getD p false=true
  asX:∀ c∈NG as,c ∉ X
  asNd:(NG as).Nodup
  asSp:∀ s∈as,Ah9 P ops n w0 M I0 s∧∀ o,ops[s.i]? = some o→(∀ p∈FT o,p∈X)∧LN dn (FT o) E=s.env∧fresh E s.d=true
  adOk:∀ p∈ad,p.1∈as∧listed.getD p.1.i false=true∧a.tmps[p.1.d]? = some (p.1.val p.2)
  adAll:∀ s∈as,listed.getD s.i false=true→∃ b,(s,b)∈ad
  adNd:(ad.map fun p=>p.1.i).Nodup
theorem PendL.get {dn:IQ} {S:List HA→World→Prop}:∀ {l:List Nat},PendL P ops n E dn S l→∀ f∈l,∃ o d v,ops[f]? = some o∧o.dst=some d∧fresh E d=true∧HP dn f=some (d,v)∧∀ D,Ops P ops [o] n (LN dn (FT o) E) (S D) (Fin n (S D) d v)
  | f :: fs,⟨h,h'⟩,g,hg=>by
    cases hg with
    | head=>exact h
    | tail _ hg=>exact PendL.get h' g hg
theorem Aa9 {a:Act} {js:List Nat} (G:EnvOk E a):∀ {dn:IQ},(∀ i d v,(i,d,v)∈dn→i∈js→a.tmps[d]? = some v)→EnvOk (LN dn js E) a
  | [],_=>G
  | (i,d,v) :: dn,h=>by
    have ih:=Aa9 (js:=js) G (dn:=dn) (fun i d v D=>h i d v (List.mem_cons_of_mem _ D))
    simp only [LN]
    cases D:LM js i with
    | true=>exact ⟨h i d v (by simp) (EN.1 D),ih⟩
    | false=>exact ih
theorem AaA {a:Act} (D:EnvOk E a):∀ {dn:IQ},(∀ i d v,(i,d,v)∈dn→a.tmps[d]? = some v)→EnvOk (Ad0 dn E) a
  | [],_=>D
  | (i,d,v) :: dn,h=>⟨h i d v (by simp),AaA D fun i d v G=>h i d v (List.mem_cons_of_mem _ G)⟩
theorem jX {l:List Nat} {y:Nat} (h:LM l y=false):y ∉ l:=fun D=>by rw [EN.2 D] at h; cases h
theorem WV {X:List Nat}:∀ {k i:Nat},QG X k=true→i<k→i∈X
  | k+1,i,h,hi=>by
    simp only [QG,Bool.and_eq_true] at h
    by_cases e:i=k
    · subst e; exact EN.1 h.1
    · exact WV h.2 (by omega)
theorem AaB {X:List Nat}:∀ {D:List Nat},(∀ p∈D,p∈X)→tM X D=true
  | [],_=>rfl
  | p :: D,h=>by simp only [tM,Bool.and_eq_true]; exact ⟨EN.2 (h p (by simp)),AaB fun q G=>h q (List.mem_cons_of_mem _ G)⟩
theorem qG {X:List Nat} {c:Nat} {l:List Oper}:∀ (k:Nat),Z7 l X c k=true→∀ (i:Nat) (o:Oper),l[i]? = some o→k+i∈X∨k+i=c∨¬(∀ p∈FT o,p∈X):=by
  induction l with
  | nil=>intro k _ i o hi; simp at hi
  | cons o' l J=>
    intro k h i o hi
    simp only [Z7,Bool.and_eq_true,Bool.or_eq_true] at h
    cases i with
    | zero=>
      simp at hi; subst hi
      rcases h.1 with (D | D) | D
      · exact .inl (EN.1 D)
      · exact .inr (.inl (Nat.eq_of_beq_eq_true D))
      · refine .inr (.inr fun G=>?_)
        rw [AaB G] at D; cases D
    | succ i=>
      have:=J (k+1) h.2 i o (by simpa using hi)
      rwa [show k+1+i=k+(i+1) by omega] at this
theorem xZ {D:Array Bool} (J:∀ (i:Nat) (o:Oper),D.getD i false=true→ops[i]? = some o→∀ p∈FT o,D.getD p false=true) (k:Nat) :
    ∀ (f c:Nat) (o:Oper),ops[c]? = some o→(∀ p∈FT o,D.getD p false=true)→tH ops k f c=true→D.getD f false=true:=by
  induction k with
  | zero=>intro f c o _ _ h; simp [tH] at h
  | succ k U=>
    intro f c o O hp h
    simp only [tH,O,Bool.or_eq_true,List.any_eq_true] at h
    rcases h with h | ⟨p,G,h⟩
    · exact hp f (EN.1 h)
    · cases ho:ops[p]? with
      | none=>cases k <;> simp [tH,ho] at h
      | some o'=>exact U f p o' ho (J p o' (hp p G) ho) h
theorem tN {f c:Nat} (h:cI ops c f=true):tH ops 1 f c=true:=by
  unfold cI at h
  unfold tH
  cases hc:ops[c]? with
  | none=>rw [hc] at h; cases h
  | some o=>rw [hc] at h; simp [h]
theorem Ad1 {f p c:Nat} (h:cI ops p f=true):∀ {k:Nat},tH ops k p c=true→∃ G,tH ops G f c=true:=by
  intro k
  induction k generalizing c with
  | zero=>intro D; simp [tH] at D
  | succ k J=>
    intro D
    unfold tH at D
    cases hc:ops[c]? with
    | none=>rw [hc] at D; cases D
    | some o=>
      rw [hc] at D
      simp only [Bool.or_eq_true,List.any_eq_true] at D
      rcases D with D | ⟨q,O,D⟩
      · refine ⟨2,?_⟩
        unfold tH
        rw [hc]
        simp only [Bool.or_eq_true,List.any_eq_true]
        exact .inr ⟨p,EN.1 D,tN h⟩
      · obtain ⟨G,hk⟩:=J D
        refine ⟨G+1,?_⟩
        unfold tH
        rw [hc]
        simp only [Bool.or_eq_true,List.any_eq_true]
        exact .inr ⟨q,O,hk⟩
theorem tO {l:List Oper}:∀ (O:List Nat),bF n l O=true→∀ (i:Nat) (o:Oper) (d:Nat),l[i]? = some o→o.dst=some d →
    Nat.blt d n.sz=true∧d ∉ O∧∀ (j:Nat) (o':Oper),l[j]? = some o'→o'.dst=some d→j=i:=by
  induction l with
  | nil=>intro O _ i o d hi; simp at hi
  | cons o' l W=>
    intro O h i o d hi U
    simp only [bF] at h
    cases hd:o'.dst with
    | none=>
      rw [hd] at h
      cases i with
      | zero=>simp at hi; subst hi; rw [hd] at U; cases U
      | succ i=>
        obtain ⟨Z,V,Y⟩:=W O h i o d (by simpa using hi) U
        refine ⟨Z,V,fun j G J D=>?_⟩
        cases j with
        | zero=>simp at J; subst J; rw [hd] at D; cases D
        | succ j=>rw [Y j G (by simpa using J) D]
    | some d'=>
      simp only [hd,Bool.and_eq_true,Bool.not_eq_true'] at h
      obtain ⟨⟨g1,g3⟩,g4⟩:=h
      cases i with
      | zero=>
        simp at hi; subst hi; rw [hd] at U; cases U
        refine ⟨g1,jX g3,fun j G J D=>?_⟩
        cases j with
        | zero=>rfl
        | succ j=>
          have:=(W (d :: O) g4 j G d (by simpa using J) D).2.1
          exact absurd (by simp) this
      | succ i=>
        obtain ⟨Z,V,Y⟩:=W (d' :: O) g4 i o d (by simpa using hi) U
        refine ⟨Z,fun hm=>V (List.mem_cons_of_mem _ hm),fun j G J D=>?_⟩
        cases j with
        | zero=>simp at J; subst J; rw [hd] at D; cases D; exact absurd (by simp) V
        | succ j=>rw [Y j G (by simpa using J) D]
theorem gN {l:List Oper}:∀ (k:Nat),bG l k=true→∀ (i:Nat) (o:Oper),l[i]? = some o→∀ p∈FT o,p<k+i:=by
  induction l with
  | nil=>intro k _ i o hi; simp at hi
  | cons o' l D=>
    intro k h i o hi p hp
    simp only [bG,Bool.and_eq_true,List.all_eq_true] at h
    cases i with
    | zero=>simp at hi; subst hi; have:=h.1 p hp; simpa [Nat.blt_eq] using this
    | succ i=>have:=D (k+1) h.2 i o (by simpa using hi) p hp; omega
theorem tP {ops:Array Oper} {i:Nat}:ops.toList[i]? = ops[i]?:=by simp
theorem HB {h:Array Bool} {i j:Nat} (hi:i<h.size):(h.setIfInBounds i true).getD j false=true↔j=i∨h.getD j false=true:=by
  simp only [Array.getD_eq_getD_getElem?,Array.getElem?_setIfInBounds]
  by_cases e:i=j
  · subst e; simp [hi]
  · simp [e,Ne.symm e]
theorem yA {as X:List Nat} {l:List Oper}:∀ (k:Nat),tL as X l k=true→∀ (i:Nat) (o:Oper),l[i]? = some o→k+i∈as++X∨¬(∀ p∈FT o,p∈as++X)∨∀ c∈as,c∈FT o:=by
  induction l with
  | nil=>intro k _ i o hi; simp at hi
  | cons o' l O=>
    intro k h i o hi
    simp only [tL,Bool.and_eq_true,Bool.or_eq_true] at h
    cases i with
    | zero=>
      simp at hi; subst hi
      rcases h.1 with ((D | D) | D) | D
      · exact .inl (List.mem_append.2 (.inr (EN.1 D)))
      · exact .inl (List.mem_append.2 (.inl (EN.1 D)))
      · refine .inr (.inl fun U=>?_)
        have:(FT o').all (fun p=>LM X p || LM as p)=true:=List.all_eq_true.2 fun p hp=>by
          rcases List.mem_append.1 (U p hp) with G | G
          · simp [EN.2 G]
          · simp [EN.2 G]
        rw [this] at D; cases D
      · exact .inr (.inr fun c J=>EN.1 (List.all_eq_true.1 D c J))
    | succ i=>
      have:=O (k+1) h.2 i o (by simpa using hi)
      rwa [show k+1+i=k+(i+1) by omega] at this
def SM:List (Option Nat)→List Nat
  | []=>[]
  | none :: r=>SM r
  | some c :: r=>c :: SM r
theorem V6 {c:Nat}:∀ {as:List AS},c∈NG as↔∃ s∈as,s.i=c
  | []=>by simp [NG]
  | s :: r=>by
    simp only [NG,List.mem_cons,V6 (as:=r)]
    constructor
    · rintro (rfl | ⟨G,D,h⟩)
      · exact ⟨s,.inl rfl,rfl⟩
      · exact ⟨G,.inr D,h⟩
    · rintro ⟨G,rfl | D,h⟩
      · exact .inl h.symm
      · exact .inr ⟨G,D,h⟩
theorem PU {α β:Type} {f:α→β}:∀ {l:List α},(l.map f).Nodup→∀ {x y:α},x∈l→y∈l→f x=f y→x=y
  | a :: l,h,x,y,hx,hy,e=>by
    simp only [List.map_cons,List.nodup_cons,List.mem_map,not_exists,not_and] at h
    rcases List.mem_cons.1 hx with h1 | h1 <;> rcases List.mem_cons.1 hy with h2 | h2
    · rw [h1,h2]
    · rw [h1] at e; exact absurd e.symm (h.1 y h2)
    · rw [h2] at e; exact absurd e (h.1 x h1)
    · exact PU h.2 h1 h2 e
theorem WW {α β:Type} {f:α→β}:∀ {l:List α},(l.map f).Nodup→l.Nodup
  | [],_=>.nil
  | a :: l,h=>by
    simp only [List.map_cons,List.nodup_cons,List.mem_map,not_exists,not_and] at h
    exact List.nodup_cons.2 ⟨fun D=>h.1 a D rfl,WW h.2⟩
theorem jE:∀ {as:List AS},NG as=as.map (·.i)
  | []=>rfl
  | s :: r=>by simp [NG,jE (as:=r)]
theorem oH {bs:Nat→Nat}:∀ {as:List AS},atoms bs as=(as.map fun s=>(s,bs s.i)).map fun p=>p.1.atom p.2
  | []=>rfl
  | s :: r=>by simp [atoms,oH (as:=r)]
theorem fB {bs:Nat→Nat} {i d:Nat} {v:Value}:∀ {as:List AS} {dn:IQ},(i,d,v)∈avals bs as dn→(i,d,v)∈dn∨∃ s∈as,i=s.i∧d=s.d∧v=s.val (bs s.i)
  | [],_,h=>.inl h
  | s :: r,dn,h=>by
    rcases fB (as:=r) h with D | ⟨s',D,h2⟩
    · rcases List.mem_cons.1 D with D | D
      · cases D; exact .inr ⟨s,by simp,rfl,rfl,rfl⟩
      · exact .inl D
    · exact .inr ⟨s',List.mem_cons_of_mem _ D,h2⟩
theorem bH {bs:Nat→Nat}:∀ {as:List AS} {dn:IQ},(∀ p∈dn,p∈avals bs as dn)∧∀ s∈as,(s.i,s.d,s.val (bs s.i))∈avals bs as dn
  | [],_=>⟨fun _ h=>h,by simp⟩
  | s :: r,dn=>by
    have ih:=bH (bs:=bs) (as:=r) (dn:=(s.i,s.d,s.val (bs s.i)) :: dn)
    refine ⟨fun p hp=>ih.1 p (List.mem_cons_of_mem _ hp),fun s' D=>?_⟩
    rcases List.mem_cons.1 D with rfl | D
    · exact ih.1 _ (by simp)
    · exact ih.2 _ D
theorem jY {i c:Nat} (h:c≠i):Nat.beq c i=false:=by cases hb:Nat.beq c i with | false=>rfl | true=>exact absurd (Nat.eq_of_beq_eq_true hb) h
theorem XZ {bs:Nat→Nat} {i:Nat}:∀ {as:List AS} {dn:IQ},i ∉ NG as→HP (avals bs as dn) i=HP dn i
  | [],_,_=>rfl
  | s :: r,dn,h=>by
    simp only [NG,List.mem_cons,not_or] at h
    rw [avals,XZ h.2]
    simp only [HP,jY (Ne.symm h.1),cond_false]
theorem cK {bs:Nat→Nat}:∀ {as:List AS} {dn:IQ},(NG as).Nodup→∀ s∈as,HP (avals bs as dn) s.i=some (s.d,s.val (bs s.i))
  | s :: r,dn,h,s',hs'=>by
    simp only [NG,List.nodup_cons] at h
    rcases List.mem_cons.1 hs' with rfl | hs'
    · rw [avals,XZ h.1]; simp [HP]
    · exact cK h.2 s' hs'
theorem oI {l:IQ} {c:Nat} {x:Nat×Value} (h:HP l c=some x):(c,x)∈l:=by
  induction l with
  | nil=>simp [HP] at h
  | cons q l D=>
    simp only [HP] at h
    cases hb:Nat.beq q.1 c with
    | true=>rw [hb] at h; simp at h; have:=Nat.eq_of_beq_eq_true hb; subst h; subst this; simp
    | false=>rw [hb] at h; exact List.mem_cons_of_mem _ (D h)
theorem jZ {c d:Nat} {v:Value} {dn:IQ} {js:List Nat} {a:Act} (he:EnvOk (LN ((c,d,v) :: dn) js E) a):EnvOk (LN dn js E) a:=by
  simp only [LN] at he
  cases hm:LM js c with
  | false=>rw [hm] at he; exact he
  | true=>rw [hm] at he; exact he.2
theorem PendL.push {c d:Nat} {v:Value} {dn:IQ} {S:List HA→World→Prop} (G:∀ x,HP dn c≠some x):∀ {l:List Nat},PendL P ops n E dn S l→PendL P ops n E ((c,d,v) :: dn) S l
  | [],_=>trivial
  | f :: fs,⟨⟨o',d',v',h1,h2,hfr,h3,h4⟩,h5⟩=>by
    refine ⟨⟨o',d',v',h1,h2,hfr,?_,fun J a' w' h D=>h4 J a' w' ⟨h.size,h.defers,jZ h.env⟩ D⟩,PendL.push G h5⟩
    have hne:c≠f:=fun e=>by subst e; exact G _ h3
    simp only [HP,jY hne,cond_false]; exact h3
theorem PendL.app {dn:IQ} {S:List HA→World→Prop} (g:List HA→List HA):∀ {l:List Nat},PendL P ops n E dn S l→PendL P ops n E dn (fun h=>S (g h)) l
  | [],_=>trivial
  | _ :: _,⟨⟨o',d',v',h1,h2,hfr,h3,h4⟩,h5⟩=>⟨⟨o',d',v',h1,h2,hfr,h3,fun h=>h4 (g h)⟩,PendL.app g h5⟩
theorem PendL.avals {bs:Nat→Nat} {S:List HA→World→Prop} {l:List Nat}:∀ {as:List AS} {dn:IQ},(NG as).Nodup→(∀ c∈NG as,∀ x,HP dn c≠some x)→PendL P ops n E dn S l→PendL P ops n E (avals bs as dn) S l
  | [],_,_,_,h=>h
  | s :: r,dn,hn,hd,h=>by
    simp only [NG,List.nodup_cons] at hn
    refine PendL.avals (as:=r) hn.2 (fun c G x=>?_) (h.push (hd s.i (by simp [NG])))
    have D:s.i≠c:=fun e=>by subst e; exact hn.1 G
    simp only [HP,jY D,cond_false]
    exact hd c (by simp [NG,G]) x
theorem oJ {X:List Nat}:∀ {D:List Nat},tM X D=true→∀ p∈D,p∈X
  | q :: D,h,p,hp=>by
    simp only [tM,Bool.and_eq_true] at h
    rcases List.mem_cons.1 hp with rfl | hp
    · exact EN.1 h.1
    · exact oJ h.2 p hp
theorem RI.norm {listed:Array Bool} {a:Act} {w:World}:∀ {cs:List (Option Nat)} {dn:IQ} {X pend:List Nat} {as:List AS} {I:IH} {L:Sh} {ad:List (AS×Nat)},RI P ops n E Q w0 M I0 listed a w cs dn X pend as I L ad →
    (∀ c∈SM cs,c ∉ NG as++X)→(SM cs).Nodup→∃ cs' dn' X' pend' as' L' ad',RI P ops n E Q w0 M I0 listed a w cs' dn' X' pend' as' I L' ad'∧(∀ c∈SM cs',c ∉ NG as'++X')∧(SM cs').Nodup∧(∀ c∈SM cs',c∈SM cs)∧(∀ c∈NG as'++X',c∈NG as++X∨c∈SM cs)∧(∀ i,(i∈NG as++X∨i∈SM cs)→(i∈NG as'++X'∨i∈SM cs')) ∧
      (cs'=[]∨(∃ r,cs'=none :: r∧∃ c∈NG as',listed.getD c false=false)∨∃ c r o,cs'=some c :: r∧ops[c]? = some o∧Z7 ops.toList (NG as'++X') c 0=true∧(as'=[]∨W7 o E=E)∧∃ p',xY ops c p' pend'∧∀ ex,Ops P ops [o] n (LN dn' (FT o) E) (Sym w0 M I0 I (L' ex)) fun e a w=>e=.normal∧a.defers=n.defs ∧
          ∃ I2 L2 dn2,aN o c dn' a dn2∧ShOk L2∧Sym w0 M I0 I2 (L2 ex) w∧PendL P ops n (W7 o E) dn2 (fun ex=>Sym w0 M I0 I2 (L2 ex)) p'∧DrawD P ops n Q w0 M I0 (W7 o E) r dn2 (c :: X') p' as' I2 L2):=by
  intro cs
  induction cs with
  | nil=>exact fun h _ _=>⟨_,_,_,_,_,_,_,h,by simp [SM],by simp [SM],by simp [SM],fun c hc=>.inl hc,fun _ h=>h,.inl rfl⟩
  | cons c? cs ih=>
    intro dn X pend as I L ad h hX hN
    cases c? with
    | none=>
      by_cases hall:∀ c∈NG as,listed.getD c false=true
      · -- the barrier falls
        have hd:=h.draw
        simp only [DrawD] at hd
        have hex:∀ i,∃ b,∀ s∈as,s.i=i→(s,b)∈ad:=fun i=>by
          by_cases hi:∃ s∈as,s.i=i
          · obtain ⟨s,hs,rfl⟩:=hi
            obtain ⟨b,hb⟩:=h.adAll s hs (hall _ (V6.2 ⟨s,hs,rfl⟩))
            refine ⟨b,fun s' hs' e=>?_⟩
            have hnd:=h.asNd
            rw [jE] at hnd
            rw [PU hnd hs' hs e]; exact hb
          · exact ⟨0,fun s hs e=>absurd ⟨s,hs,e⟩ hi⟩
        obtain ⟨bs,hbs⟩:∃ bs:Nat→Nat,∀ s∈as,(s,bs s.i)∈ad:=⟨fun i=>Classical.choose (hex i),fun s hs=>Classical.choose_spec (hex s.i) s hs rfl⟩
        have hperm:(ad.map fun p=>p.1.atom p.2).Perm (atoms bs as):=by
          rw [oH]
          refine List.Perm.map _ ?_
          have hnd2:(as.map fun s=>(s,bs s.i)).Nodup:=by
            have hnd:=h.asNd
            rw [jE] at hnd
            refine WW (f:=fun p=>p.1.i) ?_
            simpa [Function.comp_def] using hnd
          refine (List.perm_ext_iff_of_nodup (WW h.adNd) hnd2).2 fun p=>⟨fun hp=>?_,fun hp=>?_⟩
          · have h1:=(h.adOk p hp).1
            have:=PU h.adNd hp (hbs p.1 h1) rfl
            exact List.mem_map.2 ⟨p.1,h1,this.symm⟩
          · obtain ⟨s,hs,rfl⟩:=List.mem_map.1 hp
            exact hbs s hs
        have hdl:∀ c∈NG as,∀ x,HP dn c≠some x:=fun c hc x e=>h.asX c hc (h.dnOk c x.1 x.2 (oI e)).1
        have H:RI P ops n E Q w0 M I0 listed a w cs (Fw.avals bs as dn) (NG as++X) pend [] I (fun ex=>L (Fw.atoms bs as++ex)) []:=by
          refine ⟨hd.2.get bs,h.shape.app _,?_,h.size,h.defers,h.env,h.lsize,?_,?_,?_,h.inX,?_,?_,h.down,by simp [NG],by simp [NG],by simp,by simp,by simp,by simp⟩
          · refine h.sat.perm (((h.shape.front _).trans ?_).trans (h.shape.front _).symm)
            simp only [List.map_nil,List.append_nil]
            exact hperm.append_right _
          · intro i d v hm hl
            rcases fB hm with hm | ⟨s,hs,rfl,rfl,rfl⟩
            · exact h.val i d v hm hl
            · exact (h.adOk _ (hbs s hs)).2.2
          · intro i o d hi hd hm
            rcases List.mem_append.1 hm with hm | hm
            · obtain ⟨s,hs,rfl⟩:=V6.1 hm
              obtain ⟨o',ho',hd',_⟩:=(h.asSp s hs).1
              rw [hi] at ho'; cases ho'; rw [hd] at hd'; cases hd'
              exact ⟨_,bH.2 s hs⟩
            · obtain ⟨v,hv⟩:=h.have_ i o d hi hd hm
              exact ⟨v,bH.1 _ hv⟩
          · intro i d v hm
            rcases fB hm with hm | ⟨s,hs,rfl,rfl,rfl⟩
            · obtain ⟨g1,g2,g3⟩:=h.dnOk i d v hm
              exact ⟨List.mem_append.2 (.inr g1),(XZ (fun hc=>h.asX i hc g1)).trans g2,g3⟩
            · obtain ⟨o',ho',hd',_⟩:=(h.asSp s hs).1
              exact ⟨List.mem_append.2 (.inl (V6.2 ⟨s,hs,rfl⟩)),cK h.asNd s hs,o',ho',hd'⟩
          · intro i hi hl
            rcases List.mem_append.1 hi with hi | hi
            · rw [hall i hi] at hl; cases hl
            · exact h.outX i hi hl
          · exact (h.pendL.app (fun ex=>Fw.atoms bs as++ex)).avals h.asNd hdl
        have g:=ih H (by simpa [NG,SM] using hX) hN
        simp only [NG,List.nil_append] at g
        exact g
      · refine ⟨none :: cs,dn,X,pend,as,L,ad,h,hX,hN,fun c hc=>hc,fun c hc=>.inl hc,fun _ h=>h,.inr (.inl ⟨cs,rfl,?_⟩)⟩
        refine Classical.byContradiction fun hne=>hall fun c hc=>?_
        cases hl:listed.getD c false with
        | true=>rfl
        | false=>exact absurd ⟨c,hc,hl⟩ hne
    | some c=>
    have hd:=h.draw
    simp only [DrawD] at hd
    simp only [SM,List.nodup_cons] at hN
    have hcX:c ∉ NG as++X:=hX c (by simp [SM])
    have hnl:listed.getD c false=false:=by cases hl:listed.getD c false with | false=>rfl | true=>exact absurd (h.inX c hl) hcX
    obtain ⟨o,ho,hd | hd | hd⟩:=hd
    · obtain ⟨d,v,hod,hfr,hops,hdr⟩:=hd
      have hcX':c ∉ X:=fun hm=>hcX (List.mem_append.2 (.inr hm))
      have hcdn:∀ d v,(c,d,v) ∉ dn:=fun d v hm=>hcX' (h.dnOk c d v hm).1
      have hdl:∀ i d' v',(i,d',v')∈dn→HP ((c,d,v) :: dn) i=some (d',v'):=fun i d' v' hm=>by
        have hne:c≠i:=fun e=>by subst e; exact hcdn _ _ hm
        simp only [HP,jY hne,cond_false]; exact (h.dnOk i d' v' hm).2.1
      suffices H:RI P ops n E Q w0 M I0 listed a w cs ((c,d,v) :: dn) (c :: X) (c :: pend) as I L ad∧(∀ c'∈SM cs,c' ∉ NG as++c :: X) by
        obtain ⟨cs',dn',X',pend',as',L',ad',g1,g2,g3,g4,g5,g7,g6⟩:=ih H.1 H.2 hN.2
        refine ⟨cs',dn',X',pend',as',L',ad',g1,g2,g3,fun c' hc'=>List.mem_cons_of_mem _ (g4 c' hc'),fun c' hc'=>?_,fun i hi=>g7 i ?_,g6⟩
        · rcases g5 c' hc' with h1 | h1
          · simp only [List.mem_append,List.mem_cons,SM] at h1 ⊢
            rcases h1 with h1 | rfl | h1
            · exact .inl (.inl h1)
            · exact .inr (.inl rfl)
            · exact .inl (.inr h1)
          · exact .inr (List.mem_cons_of_mem _ h1)
        · simp only [List.mem_append,List.mem_cons,SM] at hi ⊢
          rcases hi with (h1 | h1) | h1 | h1
          · exact .inl (.inl h1)
          · exact .inl (.inr (.inr h1))
          · exact .inl (.inr (.inl h1))
          · exact .inr h1
      refine ⟨⟨hdr,h.shape,h.sat,h.size,h.defers,h.env,h.lsize,?_,?_,?_,fun i hi=>?_,?_,?_,h.down,?_,h.asNd,?_,h.adOk,h.adAll,h.adNd⟩,fun c' hc'=>?_⟩
      · intro i d' v' hm hl
        cases hm with
        | head=>rw [hnl] at hl; cases hl
        | tail _ hm=>exact h.val i d' v' hm hl
      · intro i o' d' hi hd' hm
        rcases List.mem_cons.1 hm with rfl | hm
        · rw [ho] at hi; cases hi; rw [hod] at hd'; cases hd'; exact ⟨v,by simp⟩
        · obtain ⟨v',hv'⟩:=h.have_ i o' d' hi hd' hm; exact ⟨v',List.mem_cons_of_mem _ hv'⟩
      · intro i d' v' hm
        cases hm with
        | head=>exact ⟨by simp,by simp [HP],o,ho,hod⟩
        | tail _ hm=>exact ⟨List.mem_cons_of_mem _ (h.dnOk i d' v' hm).1,hdl i d' v' hm,(h.dnOk i d' v' hm).2.2⟩
      · have:=h.inX i hi
        simp only [List.mem_append,List.mem_cons] at this ⊢
        exact this.imp id .inr
      · intro i hi hl
        rcases List.mem_cons.1 hi with rfl | hi
        · simp
        · exact List.mem_cons_of_mem _ (h.outX i hi hl)
      · refine ⟨⟨o,d,v,ho,hod,hfr,by simp [HP],fun ex a' w' hok hs'=>hops ex a' w' ⟨hok.size,hok.defers,jZ hok.env⟩ hs'⟩,h.pendL.push fun x hx=>hcdn _ _ (oI hx)⟩
      · intro c' hc' hm
        rcases List.mem_cons.1 hm with rfl | hm
        · exact hcX (List.mem_append.2 (.inl hc'))
        · exact h.asX c' hc' hm
      · intro s hs
        obtain ⟨g1,g2⟩:=h.asSp s hs
        refine ⟨g1,fun o' ho'=>⟨fun p hp=>List.mem_cons_of_mem _ ((g2 o' ho').1 p hp),?_⟩⟩
        have hnm:LM (FT o') c=false:=by cases hm:LM (FT o') c with | false=>rfl | true=>exact absurd ((g2 o' ho').1 c (EN.1 hm)) hcX'
        simp only [LN,hnm,cond_false]
        exact (g2 o' ho').2
      · intro hm
        simp only [List.mem_append,List.mem_cons] at hm
        rcases hm with hm | rfl | hm
        · exact hX c' (by simp [SM,hc']) (List.mem_append.2 (.inl hm))
        · exact hN.1 hc'
        · exact hX c' (by simp [SM,hc']) (List.mem_append.2 (.inr hm))
    · obtain ⟨d,val,atom,hod,hfr,hin,hsp,hdr⟩:=hd
      suffices H:RI P ops n E Q w0 M I0 listed a w cs dn X pend (⟨c,d,LN dn (FT o) E,val,atom⟩ :: as) I L ad∧(∀ c'∈SM cs,c' ∉ NG (⟨c,d,LN dn (FT o) E,val,atom⟩ :: as)++X) by
        obtain ⟨cs',dn',X',pend',as',L',ad',g1,g2,g3,g4,g5,g7,g6⟩:=ih H.1 H.2 hN.2
        refine ⟨cs',dn',X',pend',as',L',ad',g1,g2,g3,fun c' hc'=>List.mem_cons_of_mem _ (g4 c' hc'),fun c' hc'=>?_,fun i hi=>g7 i ?_,g6⟩
        · rcases g5 c' hc' with h1 | h1
          · simp only [NG,List.cons_append,List.mem_cons,SM] at h1 ⊢
            rcases h1 with rfl | h1
            · exact .inr (.inl rfl)
            · exact .inl h1
          · exact .inr (List.mem_cons_of_mem _ h1)
        · simp only [NG,List.cons_append,List.mem_cons,SM] at hi ⊢
          rcases hi with h1 | h1 | h1
          · exact .inl (.inr h1)
          · exact .inl (.inl h1)
          · exact .inr h1
      refine ⟨⟨hdr,h.shape,h.sat,h.size,h.defers,h.env,h.lsize,h.val,h.have_,h.dnOk,fun i hi=>List.mem_cons_of_mem _ (h.inX i hi),h.outX,h.pendL,h.down,?_,?_,?_,?_,?_,h.adNd⟩,fun c' hc'=>?_⟩
      · intro c' hc'
        rcases List.mem_cons.1 hc' with rfl | hc'
        · exact fun hm=>hcX (List.mem_append.2 (.inr hm))
        · exact h.asX c' hc'
      · exact List.nodup_cons.2 ⟨fun hm=>hcX (List.mem_append.2 (.inl hm)),h.asNd⟩
      · intro s hs
        rcases List.mem_cons.1 hs with rfl | hs
        · exact ⟨hsp,fun o' ho'=>by rw [ho] at ho'; cases ho'; exact ⟨oJ hin,rfl,hfr⟩⟩
        · exact h.asSp s hs
      · intro p hp
        exact ⟨List.mem_cons_of_mem _ (h.adOk p hp).1,(h.adOk p hp).2⟩
      · intro s hs hl
        rcases List.mem_cons.1 hs with rfl | hs
        · rw [hnl] at hl; cases hl
        · exact h.adAll s hs hl
      · simp only [NG,List.cons_append,List.mem_cons,not_or]
        exact ⟨fun e=>hN.1 (e▸hc'),hX c' (by simp [SM,hc'])⟩
    · exact ⟨some c :: cs,dn,X,pend,as,L,ad,h,hX,List.nodup_cons.2 hN,fun c hc=>hc,fun c hc=>.inl hc,fun _ h=>h,.inr (.inr ⟨c,cs,o,rfl,ho,hd.1,hd.2.1,hd.2.2⟩)⟩
theorem cL {X:List Nat}:∀ {k i:Nat},cJ X k=true→i<k→i∈X
  | k+1,i,h,hi=>by
    simp only [cJ,Bool.and_eq_true] at h
    by_cases e:i=k
    · subst e; exact EN.1 h.1
    · exact cL h.2 (by omega)
theorem gP {l:List Oper}:∀ (k:Nat),VU l k=true→∀ (i:Nat) (o:Oper),l[i]? = some o→∀ j,j<k+i→j∈FT o:=by
  induction l with
  | nil=>intro k _ i o hi; simp at hi
  | cons o' l G=>
    intro k h i o hi j D
    simp only [VU,Bool.and_eq_true] at h
    cases i with
    | zero=>simp at hi; subst hi; exact cL h.1 (by simpa using D)
    | succ i=>exact G (k+1) h.2 i o (by simpa using hi) j (by omega)
theorem AbN {h:Array Bool} {i:Nat} (hi:i∈Region.ready .any ops h):i<ops.size∧h.getD i true=false∧∃ o,ops[i]? = some o∧∀ p∈FT o,h.getD p false=true:=by
  rw [mem_ready] at hi
  obtain ⟨J,o,G,hp⟩:=hi
  refine ⟨(Array.getElem?_eq_some_iff.1 G).1,J,o,G,fun p D=>?_⟩
  obtain ⟨e,he,O,rfl⟩:=Z6.1 D
  exact hp e (by simpa using he) O
theorem Ad2 {t:Nat} (ht:VU (ops.toList.drop t) t=true) (W:bG ops.toList 0=true):∀ (G k:Nat) {D:Array Bool} {a:Act} {w:World},t≤k→k≤ops.size→D.size=ops.size→(∀ i,D.getD i false=true↔i<k)→ops.size≤G+k →
    wpListIn (UY n) 0 P ops Q (ops.toList.drop k) a w→wpAnyIn (UY n) 0 P .any ops Q G D a w:=by
  have only:∀ {k:Nat} {D:Array Bool} {i:Nat},t≤k→D.size=ops.size→(∀ i,D.getD i false=true↔i<k)→i∈Region.ready .any ops D→i=k∧i<ops.size:=by
    intro k D i U O V hi
    obtain ⟨h1,h2,o,ho,hp⟩:=AbN hi
    refine ⟨?_,h1⟩
    have hik:¬i<k:=fun h=>by
      have:=(V i).2 h
      have J:i<D.size:=by omega
      simp only [Array.getD_eq_getD_getElem?,Array.getElem?_eq_getElem J,Option.getD_some] at this h2
      rw [this] at h2; cases h2
    rcases Nat.lt_or_ge k i with h3 | h3
    · have hm:k∈FT o:=gP t ht (i - t) o (by rw [List.getElem?_drop,show t+(i - t)=i by omega,tP]; exact ho) k (by omega)
      have:=(V k).1 (hp k hm); omega
    · omega
  intro G
  induction G with
  | zero=>
    intro k D a w U hk O V hf h
    have e:k=ops.size:=by omega
    refine ⟨?_,?_⟩
    · cases hr:Region.ready .any ops D with
      | nil=>rfl
      | cons i r=>have:=only U O V (i:=i) (by rw [hr]; simp); omega
    · rw [e,List.drop_of_length_le (by simp)] at h; exact h
  | succ G ih=>
    intro k D a w U hk O V hf h
    refine ⟨fun hr=>?_,fun i hi=>?_⟩
    · have e:k=ops.size:=by
        rcases Nat.lt_or_ge k ops.size with J | hge
        · exfalso
          have:k∈Region.ready .any ops D:=by
            rw [mem_ready]
            have Y:k<D.size:=by omega
            refine ⟨?_,ops[k],by simp [J],fun e he hb=>?_⟩
            · cases hv:D.getD k true with
              | false=>rfl
              | true=>
                have:D.getD k false=true:=by
                  simp only [Array.getD_eq_getD_getElem?,Array.getElem?_eq_getElem Y,Option.getD_some] at hv ⊢; exact hv
                have:=(V k).1 this; omega
            · have hm:e.on∈FT ops[k]:=Z6.2 ⟨e,by simpa using he,hb,rfl⟩
              have:=gN 0 W k ops[k] (by rw [tP]; simp [J]) e.on hm
              exact (V e.on).2 (by omega)
          rw [hr] at this; cases this
        · omega
      rw [e,List.drop_of_length_le (by simp)] at h; exact h
    · obtain ⟨rfl,J⟩:=only U O V hi
      have hd:ops.toList.drop i=ops[i] :: ops.toList.drop (i+1):=by
        rw [List.drop_eq_getElem_cons (by simpa using J)]; simp
      rw [hd] at h
      have hi2:ops[i]? = some ops[i]:=by simp [J]
      have Z:∀ j,(D.setIfInBounds i true).getD j false=true↔j<i+1:=fun j=>by
        rw [HB (by omega),V j]; omega
      have step:∀ a w,wpListIn (UY n) 0 P ops Q (ops.toList.drop (i+1)) a w→wpAnyIn (UY n) 0 P .any ops Q G (D.setIfInBounds i true) a w:=fun a w h'=>
        ih (i+1) (by omega) (by omega) (by simpa using O) Z (by omega) h'
      simp only [wpOpIn,hi2]
      unfold wpListIn at h
      split
      · rename_i hw
        rw [if_pos hw] at h
        exact Oper.wpIn_mono step h
      · rename_i hw
        rw [if_neg hw] at h
        exact ⟨h.1,step _ _ h.2⟩
theorem Z8 (d:Nat):∀ E:DY,fresh (rmE d E) d=true
  | []=>rfl
  | p :: r=>by
    simp only [rmE]
    cases h:Nat.beq p.1 d with
    | true=>simpa using Z8 d r
    | false=>simp [fresh,h,Z8 d r]
theorem qH {a:Act} (d:Nat):∀ {E:DY},EnvOk E a→EnvOk (rmE d E) a
  | [],_=>trivial
  | p :: r,h=>by
    simp only [rmE]
    cases hb:Nat.beq p.1 d with
    | true=>simpa using qH d h.2
    | false=>exact ⟨h.1,qH d h.2⟩
theorem tQ {o:Oper} {d:Nat} (D:o.dst=some d):fresh (W7 o E) d=true:=by
  simp only [W7,D]
  cases h:fresh E d with
  | true=>exact h
  | false=>exact Z8 d E
theorem Ad3 {o:Oper} {a:Act} (h:EnvOk E a):EnvOk (W7 o E) a:=by
  simp only [W7]
  split
  · exact h
  · rename_i d _
    cases hb:fresh E d with
    | true=>exact h
    | false=>exact qH d h
theorem AbO {t:Nat} (hdst:bF n (ops.toList.take t) []=true) (hback:bG ops.toList 0=true) (htail:VU (ops.toList.drop t) t=true) (ht:t≤ops.size):∀ (fuel:Nat) {E:DY} {D:Array Bool} {a:Act} {w:World} {cs:List (Option Nat)} {dn:IQ} {X pend:List Nat} {as:List AS} {I:IH} {L:Sh} {ad:List (AS×Nat)},
    RI P ops n E Q w0 M I0 D a w cs dn X pend as I L ad→(∀ c∈SM cs,c ∉ NG as++X)→(SM cs).Nodup→(∀ c∈SM cs,c<t)→(∀ c∈NG as++X,c<t)→(∀ i,i<t→i∈NG as++X∨i∈SM cs)→ops.size≤fuel+(D.toList.filter id).length→wpAnyIn (UY n) 0 P .any ops Q fuel D a w:=by
  -- all of the first t have come: the tail
  have fin:∀ {fuel:Nat} {E:DY} {D:Array Bool} {a:Act} {w:World} {cs:List (Option Nat)} {dn:IQ} {X pend:List Nat} {as:List AS} {I:IH} {L:Sh} {ad:List (AS×Nat)},RI P ops n E Q w0 M I0 D a w cs dn X pend as I L ad→(∀ c∈SM cs,c ∉ NG as++X)→(SM cs).Nodup→(∀ c∈SM cs,c<t)→(∀ c∈NG as++X,c<t) →
      (∀ i,i<t→D.getD i false=true)→ops.size≤fuel+t→wpAnyIn (UY n) 0 P .any ops Q fuel D a w:=by
    intro fuel E D a w cs dn X pend as I L ad h hX hN hct hXt W hf
    obtain ⟨cs',dn',X',pend',as',L',ad',G,hX',hN',hsub,hXs,_,hcs⟩:=h.norm hX hN
    have Y:∀ c∈NG as'++X',c<t:=fun c hc=>(hXs c hc).elim (hXt c) (hct c)
    rcases hcs with rfl | ⟨r,rfl,c,hc,V⟩ | ⟨c,r,o,rfl,ho,_⟩
    · have hd:=G.draw
      simp only [DrawD] at hd
      obtain ⟨rfl,t',hc',hlt',_,hops⟩:=hd
      have had:ad'=[]:=by
        cases ad' with
        | nil=>rfl
        | cons p r=>have:=(G.adOk p (by simp)).1; cases this
      subst had
      simp only [NG,List.nil_append] at Y
      have hinX:∀ i,D.getD i false=true→i∈X':=fun i hi=>by simpa [NG] using G.inX i hi
      have e:t'=t:=by
        rcases Nat.lt_trichotomy t' t with h1 | h1 | h1
        · have:=hlt' t' (hinX t' (W t' h1)); omega
        · exact h1
        · have:=Y t (WV hc' h1); omega
      subst e
      refine Ad2 htail hback fuel t' (Nat.le_refl _) ht G.lsize (fun i=>⟨fun hi=>Y i (hinX i hi),W i⟩) hf (hops a w ⟨G.size,G.defers,AaA G.env fun i d v O=>?_⟩ G.sat)
      exact G.val i d v O (W i (Y i (G.dnOk i d v O).1))
    · rw [W c (Y c (List.mem_append.2 (.inl hc)))] at V; cases V
    · have:=W c (hct c (hsub c (by simp [SM])))
      exact absurd (G.inX c this) (hX' c (by simp [SM]))
  -- something is always left to do, where one of the first t has not come
  have some':∀ {D:Array Bool},D.size=ops.size→Region.ready .any ops D=[]→∀ i,i<ops.size→D.getD i false=true:=by
    intro D hsz hr i
    induction i using Nat.strongRecOn with
    | _ i ih=>
      intro hi
      cases V:D.getD i false with
      | true=>rfl
      | false=>
        exfalso
        obtain ⟨o,ho⟩:∃ o,ops[i]? = some o:=⟨ops[i],by simp [hi]⟩
        have:i∈Region.ready .any ops D:=by
          rw [mem_ready]
          refine ⟨?_,o,ho,fun e he hb=>?_⟩
          · have hlt:i<D.size:=by rw [hsz]; exact hi
            simp only [Array.getD_eq_getD_getElem?,Array.getElem?_eq_getElem hlt,Option.getD_some] at V ⊢; exact V
          · have O:e.on∈FT o:=Z6.2 ⟨e,by simpa using he,hb,rfl⟩
            have:=gN 0 hback i o (by rw [tP]; exact ho) e.on O
            exact ih e.on (by omega) (by omega)
        rw [hr] at this; cases this
  have cnt:∀ {D:Array Bool},(∀ i,D.getD i false=true↔i<t)→D.size=ops.size→(D.toList.filter id).length=t:=by
    intro D V hsz
    have ht':=ht
    have e:D.toList=List.replicate t true++List.replicate (ops.size - t) false:=by
      apply List.ext_getElem?
      intro i
      by_cases hi:i<ops.size
      · have hlt:i<D.size:=by omega
        have hv:=V i
        simp only [Array.getD_eq_getD_getElem?,Array.getElem?_eq_getElem hlt,Option.getD_some] at hv
        rw [show D.toList[i]? = some D[i] by simp [hlt]]
        by_cases h1:i<t
        · rw [List.getElem?_append_left (by simpa using h1)]; simp [h1,hv.2 h1]
        · rw [List.getElem?_append_right (by simpa using Nat.le_of_not_lt h1)]
          have:D[i]=false:=by cases hb:D[i] with | false=>rfl | true=>exact absurd (hv.1 hb) h1
          rw [this,List.length_replicate,List.getElem?_replicate,if_pos (by omega)]
      · rw [List.getElem?_eq_none (by simp; omega),List.getElem?_eq_none (by simp; omega)]
    rw [e]; simp
  intro fuel
  induction fuel with
  | zero=>
    intro E D a w cs dn X pend as I L ad h hX hN hct hXt hcov hf
    have W:∀ i,i<ops.size→D.getD i false=true:=by
      intro i hi
      have hlen:(D.toList.filter id).length=D.toList.length:=by
        have h1:=List.length_filter_le id D.toList
        have h2:=h.lsize
        simp only [Array.length_toList] at h1 ⊢
        omega
      have:=List.length_filter_eq_length_iff.1 hlen
      have hlt:i<D.size:=by rw [h.lsize]; exact hi
      have hx:=this D[i] (by simp)
      simpa [Array.getD_eq_getD_getElem?,Array.getElem?_eq_getElem hlt] using hx
    have e:t=ops.size:=by
      rcases Nat.lt_or_ge t ops.size with h1 | h1
      · have:=hXt t (h.inX t (W t h1)); omega
      · omega
    exact fin h hX hN hct hXt (fun i hi=>W i (by omega)) (by omega)
  | succ fuel ih=>
    intro E D a w cs dn X pend as I L ad h hX hN hct hXt hcov hf
    by_cases W:∀ i,i<t→D.getD i false=true
    · have hiff:∀ i,D.getD i false=true↔i<t:=fun i=>⟨fun hi=>hXt i (h.inX i hi),W i⟩
      have:=cnt hiff h.lsize
      exact fin h hX hN hct hXt W (by omega)
    refine ⟨fun hr=>absurd (fun i hi=>some' h.lsize hr i (by omega)) W,fun i hi=>?_⟩
    rw [mem_ready] at hi
    obtain ⟨hil,o,ho,hpre⟩:=hi
    have hi:=(Array.getElem?_eq_some_iff.1 ho).1
    have J:i<D.size:=by rw [h.lsize]; exact hi
    have hil':D.getD i false=false:=by
      simp only [Array.getD_eq_getD_getElem?,Array.getElem?_eq_getElem J,Option.getD_some] at hil ⊢; exact hil
    have hpre':∀ p∈FT o,D.getD p false=true:=fun p hp=>by
      obtain ⟨e,he,hb,rfl⟩:=Z6.1 hp
      exact hpre e (by simpa using he) hb
    have hit:i<t:=by
      rcases Nat.lt_or_ge i t with h1 | h1
      · exact h1
      · exact absurd (fun j Z=>hpre' j (gP t htail (i - t) o (by rw [List.getElem?_drop,show t+(i - t)=i by omega,tP]; exact ho) j (by omega))) W
    have hcount:ops.size≤fuel+((D.setIfInBounds i true).toList.filter id).length:=by
      have:((D.setIfInBounds i true).toList.filter id).length=(D.toList.filter id).length+1:=by
        rw [Array.toList_setIfInBounds]
        have hb:D.toList[i]? = some false:=by
          simp only [Array.getD_eq_getD_getElem?,Array.getElem?_eq_getElem J,Option.getD_some] at hil'
          simp [J,hil']
        have key:∀ (l:List Bool) (i:Nat),l[i]? = some false→((l.set i true).filter id).length=(l.filter id).length+1:=by
          intro l
          induction l with
          | nil=>intro i h; simp at h
          | cons b l ihl=>
            intro i h
            cases i with
            | zero=>simp at h; subst h; simp
            | succ i=>
              have:=ihl i (by simpa using h)
              simp only [List.set_cons_succ,List.filter_cons]
              split <;> simp [this]
        exact key _ i hb
      omega
    obtain ⟨cs',dn',X',pend',as',L',ad',G,hX',hN',hsub,hXs,hcov',hcs⟩:=h.norm hX hN
    have Y:∀ c∈NG as'++X',c<t:=fun c hc=>(hXs c hc).elim (hXt c) (hct c)
    have hct':∀ c∈SM cs',c<t:=fun c hc=>hct c (hsub c hc)
    have hcv:∀ i,i<t→i∈NG as'++X'∨i∈SM cs':=fun i hi=>hcov' i (hcov i hi)
    clear h hX hN
    have hdo:∀ d,o.dst=some d→Nat.blt d n.sz=true∧∀ j o',j<t→ops[j]? = some o'→o'.dst=some d→j=i:=fun d hd=>by
      obtain ⟨g1,_,g4⟩:=tO [] hdst i o d (by rw [List.getElem?_take,if_pos hit,tP]; exact ho) hd
      exact ⟨g1,fun j o' hjt Z=>g4 j o' (by rw [List.getElem?_take,if_pos hjt,tP]; exact Z)⟩
    have hother:∀ {a':Act} {v:Value} {j d':Nat} {v':Value} {o':Oper},a'=a.put o.dst v→j<t→j≠i→ops[j]? = some o'→o'.dst=some d'→a.tmps[d']? = some v'→a'.tmps[d']? = some v':=by
      intro a' v j d' v' o' ha' hjt hne ho' hd' hv
      subst ha'
      cases hd:o.dst with
      | none=>exact hv
      | some d=>
        have hdd:¬d=d':=fun e=>by subst e; exact hne ((hdo d hd).2 j o' hjt ho' hd')
        simp only [Act.put,Array.getElem?_setIfInBounds,if_neg hdd]
        exact hv
    have hput:∀ {a':Act} {v:Value},a'=a.put o.dst v→a'.tmps.size=n.sz∧(∀ E2:DY,(∀ d,o.dst=some d→fresh E2 d=true)→EnvOk E2 a→EnvOk E2 a')∧(∀ j d' v',(j,d',v')∈dn'→j≠i→D.getD j false=true→a'.tmps[d']? = some v') ∧
        (∀ p∈ad',p.1.i≠i→a'.tmps[p.1.d]? = some (p.1.val p.2)):=by
      intro a' v ha'
      refine ⟨?_,fun E2 hfr hE=>?_,fun j d' v' O hne V=>?_,fun p hp hne=>?_⟩
      · subst ha'; cases hd:o.dst <;> simp [Act.put,G.size]
      · subst ha'
        cases hd:o.dst with
        | none=>exact hE
        | some d=>exact hE.put (hfr d hd) v
      · obtain ⟨g1,_,o',ho',hd'⟩:=G.dnOk j d' v' O
        exact hother ha' (Y j (List.mem_append.2 (.inr g1))) hne ho' hd' (G.val j d' v' O V)
      · obtain ⟨g1,g2,g3⟩:=G.adOk p hp
        obtain ⟨o',ho',hd',_⟩:=(G.asSp _ g1).1
        exact hother ha' (Y _ (List.mem_append.2 (.inl (V6.2 ⟨_,g1,rfl⟩)))) hne ho' hd' g3
    have hselE:∀ {js:List Nat},(∀ p∈js,D.getD p false=true)→Ok n (LN dn' js E) a:=fun Z=>⟨G.size,G.defers,Aa9 G.env fun j d v O hjm=>G.val j d v O (Z j hjm)⟩
    have hsel:Ok n (LN dn' (FT o) E) a:=hselE hpre'
    have hdown:∀ j o',(D.setIfInBounds i true).getD j false=true→ops[j]? = some o'→∀ p∈FT o',(D.setIfInBounds i true).getD p false=true:=by
      intro j o' Z ho' p hp
      rw [HB J] at Z ⊢
      rcases Z with rfl | Z
      · rw [ho] at ho'; cases ho'; exact .inr (hpre' p hp)
      · exact .inr (G.down j o' Z ho' p hp)
    have hadI:∀ p∈ad',p.1.i≠i:=fun p hp e=>by
      have:=(G.adOk p hp).2.1
      rw [e,hil'] at this; cases this
    have hadl:∀ {a':Act} {v:Value},a'=a.put o.dst v→∀ p∈ad',p.1∈as'∧(D.setIfInBounds i true).getD p.1.i false=true∧a'.tmps[p.1.d]? = some (p.1.val p.2):=fun ha' p hp=>
      ⟨(G.adOk p hp).1,(HB J).2 (.inr (G.adOk p hp).2.1),(hput ha').2.2.2 p hp (hadI p hp)⟩
    by_cases hiX:i∈X'
    · -- a step that was shown already
      have hip:=G.outX i hiX hil'
      obtain ⟨o2,d,v,h1,h2,hfr,h3,h4⟩:=G.pendL.get i hip
      rw [ho] at h1; cases h1
      refine jW G.defers ho (fun e a w hq=>⟨hq.1,hq.2.1⟩) (h4 _ a w hsel G.sat) fun a' w' hfin hp=>?_
      obtain ⟨v',hv'⟩:=hp
      obtain ⟨g1,g2,g3,_⟩:=hput hv'
      refine ih ⟨G.draw,G.shape,hfin.2.2.2,g1,hfin.2.1,g2 _ (fun d2 hd2=>by rw [h2] at hd2; cases hd2; exact hfr) G.env,by simpa using G.lsize,?_,G.have_,G.dnOk,?_,?_,G.pendL,hdown,G.asX,G.asNd,G.asSp,hadl hv',?_,G.adNd⟩ hX' hN' hct' Y hcv hcount
      · intro j d' v2 O V
        by_cases e:j=i
        · subst e
          have hd2:=(G.dnOk j d' v2 O).2.1
          rw [h3] at hd2
          cases hd2
          exact hfin.2.2.1
        · exact g3 j d' v2 O e (((HB J).1 V).resolve_left e)
      · intro j Z
        rcases (HB J).1 Z with rfl | Z
        · exact List.mem_append.2 (.inr hiX)
        · exact G.inX j Z
      · intro j Z V
        refine G.outX j Z ?_
        cases hl':D.getD j false with
        | false=>rfl
        | true=>rw [(HB J).2 (.inr hl')] at V; cases V
      · intro s hs V
        rcases (HB J).1 V with e | V
        · exact absurd hiX (G.asX i (V6.2 ⟨s,hs,e⟩))
        · exact G.adAll s hs V
    · by_cases hia:i∈NG as'
      · -- a step that makes a block
        obtain ⟨s,hs,rfl⟩:=V6.1 hia
        obtain ⟨⟨o2,ho2,hd2,hsp⟩,hen⟩:=G.asSp s hs
        rw [ho] at ho2; cases ho2
        obtain ⟨hhX,hse,hfr⟩:=hen o ho
        refine jW G.defers ho (fun e a w hq=>⟨hq.1,hq.2.1⟩) (hsp _ _ G.shape _ a w (by rw [←hse]; exact hsel) G.sat) fun a' w' hfin hp=>?_
        obtain ⟨v',hv'⟩:=hp
        obtain ⟨g1,g2,g3,_⟩:=hput hv'
        obtain ⟨_,hdf,b,hb,hsy⟩:=hfin
        refine ih (ad:=(s,b) :: ad') ⟨G.draw,G.shape,hsy,g1,hdf,g2 _ (fun d3 hd3=>by rw [hd2] at hd3; cases hd3; exact hfr) G.env,by simpa using G.lsize,?_,G.have_,G.dnOk,?_,?_,G.pendL,hdown,G.asX,G.asNd,G.asSp,?_,?_,?_⟩ hX' hN' hct' Y hcv hcount
        · intro j d' v2 O V
          have hne:j≠s.i:=fun e=>hiX (e▸(G.dnOk j d' v2 O).1)
          exact g3 j d' v2 O hne (((HB J).1 V).resolve_left hne)
        · intro j Z
          rcases (HB J).1 Z with rfl | Z
          · exact List.mem_append.2 (.inl hia)
          · exact G.inX j Z
        · intro j Z V
          refine G.outX j Z ?_
          cases hl':D.getD j false with
          | false=>rfl
          | true=>rw [(HB J).2 (.inr hl')] at V; cases V
        · intro p hp
          rcases List.mem_cons.1 hp with rfl | hp
          · exact ⟨hs,(HB J).2 (.inl rfl),hb⟩
          · exact hadl hv' p hp
        · intro s' hs' V
          rcases (HB J).1 V with e | V
          · have hnd:=G.asNd
            rw [jE] at hnd
            rw [PU hnd hs' hs e]
            exact ⟨b,by simp⟩
          · obtain ⟨b',hb'⟩:=G.adAll s' hs' V
            exact ⟨b',List.mem_cons_of_mem _ hb'⟩
        · simp only [List.map_cons,List.nodup_cons,List.mem_map,not_exists,not_and]
          exact ⟨fun p hp=>hadI p hp,G.adNd⟩
      have hi2:i ∉ NG as'++X':=fun O=>(List.mem_append.1 O).elim hia hiX
      -- the next step that turns memory
      rcases hcs with rfl | ⟨r,rfl,c,hc,V⟩ | ⟨c,r,o2,rfl,ho2,hbl,hasE,p',hpo,hops⟩
      · exact absurd ((hcv i hit).resolve_right (by simp [SM])) hi2
      · have hd:=G.draw
        simp only [DrawD] at hd
        rcases yA 0 hd.1 i o (by rw [tP]; exact ho) with hb | hb | hb
        · exact absurd (by simpa using hb) hi2
        · exact absurd (fun p hp=>G.inX p (hpre' p hp)) hb
        · rw [hpre' c (hb c hc)] at V; cases V
      · have hic:i=c:=by
          rcases qG 0 hbl i o (by rw [tP]; exact ho) with hb | hb | hb
          · exact absurd (by simpa using hb) hi2
          · simpa using hb
          · exact absurd (fun p hp=>G.inX p (hpre' p hp)) hb
        subst hic
        rw [ho] at ho2; cases ho2
        refine jW G.defers ho (fun e a w hq=>⟨hq.1,hq.2.1⟩) (hops _ a w hsel G.sat) fun a' w' hfin hp=>?_
        obtain ⟨v',hv'⟩:=hp
        obtain ⟨g1,g2,g3,_⟩:=hput hv'
        obtain ⟨_,hdf,I2,L2,dn'',U,hsh,hS',hpl,hdr⟩:=hfin
        simp only [SM,List.nodup_cons] at hN'
        have hnot:∀ d v,(i,d,v) ∉ dn':=fun d v O=>hiX (G.dnOk i d v O).1
        have hsub:∀ j d v,(j,d,v)∈dn''→(j,d,v)∈dn'∨(j=i∧o.dst=some d∧a'.tmps[d]? = some v):=by
          intro j d v O
          unfold aN at U
          cases hod:o.dst with
          | none=>rw [hod] at U; subst U; exact .inl O
          | some d2=>
            rw [hod] at U
            obtain ⟨v2,hv2,rfl⟩:=U
            cases O with
            | head=>exact .inr ⟨rfl,rfl,hv2⟩
            | tail _ O=>exact .inl O
        have hsup:∀ j d v,(j,d,v)∈dn'→(j,d,v)∈dn''∧HP dn'' j=HP dn' j:=by
          intro j d v O
          have hji:j≠i:=fun e=>by subst e; exact hnot _ _ O
          unfold aN at U
          cases hod:o.dst with
          | none=>rw [hod] at U; subst U; exact ⟨O,rfl⟩
          | some d2=>
            rw [hod] at U
            obtain ⟨v2,hv2,rfl⟩:=U
            exact ⟨List.mem_cons_of_mem _ O,by simp only [HP,jY (Ne.symm hji),cond_false]⟩
        have hselS:∀ {js:List Nat},i ∉ js→LN dn'' js E=LN dn' js E:=by
          intro js Z
          unfold aN at U
          cases hod:o.dst with
          | none=>rw [hod] at U; subst U; rfl
          | some d2=>
            rw [hod] at U
            obtain ⟨v2,hv2,rfl⟩:=U
            have hnm:LM js i=false:=by cases O:LM js i with | false=>rfl | true=>exact absurd (EN.1 O) Z
            simp only [LN,hnm,cond_false]
        refine ih ⟨hdr,hsh,hS',g1,hdf,g2 _ (fun d3 hd3=>tQ hd3) (Ad3 G.env),by simpa using G.lsize,?_,?_,?_,?_,?_,hpl,hdown,?_,G.asNd,?_,hadl hv',?_,G.adNd⟩ (fun c' hc' O=>?_) hN'.2 (fun c hc=>hct' c (List.mem_cons_of_mem _ hc)) (fun c hc=>?_) (fun j Z=>?_) hcount
        · intro j d v O V
          rcases hsub j d v O with O | ⟨rfl,_,hv⟩
          · have hji:j≠i:=fun e=>by subst e; exact hnot _ _ O
            exact g3 j d v O hji (((HB J).1 V).resolve_left hji)
          · exact hv
        · intro j o2 d Z hd O
          rcases List.mem_cons.1 O with rfl | O
          · rw [ho] at Z; cases Z
            unfold aN at U
            rw [hd] at U
            obtain ⟨v2,_,rfl⟩:=U
            exact ⟨v2,by simp⟩
          · obtain ⟨v,hv⟩:=G.have_ j o2 d Z hd O
            exact ⟨v,(hsup j d v hv).1⟩
        · intro j d v O
          rcases hsub j d v O with hm' | ⟨rfl,hd,hv⟩
          · exact ⟨List.mem_cons_of_mem _ (G.dnOk j d v hm').1,(hsup j d v hm').2.trans (G.dnOk j d v hm').2.1,(G.dnOk j d v hm').2.2⟩
          · refine ⟨by simp,?_,o,ho,hd⟩
            unfold aN at U
            rw [hd] at U
            obtain ⟨v2,hv2,rfl⟩:=U
            rw [hv] at hv2; cases hv2
            simp [HP]
        · intro j Z
          simp only [List.mem_append,List.mem_cons]
          rcases (HB J).1 Z with rfl | Z
          · exact .inr (.inl rfl)
          · exact (List.mem_append.1 (G.inX j Z)).imp id .inr
        · intro j Z V
          have hjl:D.getD j false=false:=by
            cases hl':D.getD j false with
            | false=>rfl
            | true=>rw [(HB J).2 (.inr hl')] at V; cases V
          rcases List.mem_cons.1 Z with rfl | Z
          · rw [(HB J).2 (.inl rfl)] at V; cases V
          · rcases hpo j (G.outX j Z hjl) with h1 | ⟨k,h1⟩
            · exact h1
            · rw [xZ G.down k j i o ho hpre' h1] at hjl; cases hjl
        · intro c hc O
          rcases List.mem_cons.1 O with rfl | O
          · exact hia hc
          · exact G.asX c hc O
        · intro s hs
          obtain ⟨q1,q2⟩:=G.asSp s hs
          have hEE:W7 o E=E:=hasE.resolve_left fun e=>by subst e; cases hs
          refine ⟨q1,fun o' ho'=>⟨fun p hp=>List.mem_cons_of_mem _ ((q2 o' ho').1 p hp),?_⟩⟩
          rw [hEE,hselS fun O=>hiX ((q2 o' ho').1 i O)]
          exact (q2 o' ho').2
        · intro s hs V
          rcases (HB J).1 V with e | V
          · exact absurd (V6.2 ⟨s,hs,e⟩) hia
          · exact G.adAll s hs V
        · simp only [List.mem_append,List.mem_cons] at O
          rcases O with O | rfl | O
          · exact hX' c' (by simp [SM,hc']) (List.mem_append.2 (.inl O))
          · exact hN'.1 hc'
          · exact hX' c' (by simp [SM,hc']) (List.mem_append.2 (.inr O))
        · simp only [List.mem_append,List.mem_cons] at hc
          rcases hc with hc | rfl | hc
          · exact Y c (List.mem_append.2 (.inl hc))
          · exact hit
          · exact Y c (List.mem_append.2 (.inr hc))
        · have:=hcv j Z
          simp only [List.mem_append,List.mem_cons,SM] at this ⊢
          rcases this with (h1 | h1) | rfl | h1
          · exact .inl (.inl h1)
          · exact .inl (.inr (.inr h1))
          · exact .inl (.inr (.inl rfl))
          · exact .inr h1
def kA:List Nat→Bool
  | []=>true
  | x :: l=>!LM l x && kA l
theorem gQ:∀ {l:List Nat},kA l=true→l.Nodup
  | [],_=>.nil
  | x :: l,h=>by
    simp only [kA,Bool.and_eq_true,Bool.not_eq_true'] at h
    exact List.nodup_cons.2 ⟨jX h.1,gQ h.2⟩
theorem Cod.draw {id:Nat} {l:List Oper} {I:IH} {O:List HA} (cs:List (Option Nat)) (t:Nat) (hm:P.follows .mixedOrders=true) (Z:bF n (l.take t) []=true) (h2:bG l 0=true)
    (Y:VU (l.drop t) t=true) (V:kA (SM cs)=true) (h5:Nat.ble t l.length=true) (h6:(SM cs).all (Nat.blt · t)=true) (W:QG (SM cs) t=true) (L:Sh) (hL:∀ X D,Del (L (X :: D)) X (L D)) (he:O=L [])
    (h:DrawD P l.toArray n Q w0 M I0 E cs [] [] [] [] I L):Cod P (.region id l.toArray true) n E (Sym w0 M I0 I O) Q:=by
  intro a w G J
  refine wpIn_region_any hm (AbO (t:=t) (by simpa using Z) (by simpa using h2) (by simpa using Y) (by simpa using h5) _ (cs:=cs) (dn:=[]) (X:=[]) (pend:=[]) (as:=[]) (I:=I) (L:=L) (ad:=[])
    ⟨h,fun X D=>(hL X D).perm,by rw [he] at J; exact J.drew _ (Nat.le_succ _),G.size,G.defers,G.env,by simp,by simp,by simp,by simp,?_,by simp,trivial,?_,by simp [NG],by simp [NG],by simp,by simp,by simp,by simp⟩ (by simp [NG]) (gQ V) (fun c U=>by have:=List.all_eq_true.1 h6 c U; simpa [Nat.blt_eq] using this) (by simp [NG]) (fun i hi=>.inr (WV W hi)) (by simp))
  · intro i hi
    simp only [Array.getD_eq_getD_getElem?,Array.getElem?_replicate] at hi
    split at hi <;> simp at hi
  · intro i o hi
    simp only [Array.getD_eq_getD_getElem?,Array.getElem?_replicate] at hi
    split at hi <;> simp at hi
section
variable {cs:List (Option Nat)} {c d:Nat} {dn:IQ} {X pend:List Nat} {as:List AS} {I:IH} {L:Sh} {o:Oper} {v:Value}
theorem DrawD.f (js:List Nat) (J:ops[c]? = some o) (O:FT o=js) (U:o.dst=some d) (D:fresh E d=true)
    (h:∀ G,Ops P ops [o] n (LN dn js E) (Sym w0 M I0 I (L G)) (Fin n (Sym w0 M I0 I (L G)) d v)) (k:DrawD P ops n Q w0 M I0 E cs ((c,d,v) :: dn) (c :: X) (c :: pend) as I L):DrawD P ops n Q w0 M I0 E (some c :: cs) dn X pend as I L:=
  ⟨o,J,.inl ⟨d,v,U,D,by rw [O]; exact h,k⟩⟩
theorem Fin.mk {S:World→Prop} {d:Nat} {v:Value} {E:DY}:Ops P ops [] n ((d,v) :: E) S (Fin n S d v):=fun _ _ h D=>⟨rfl,h.defers,h.env.1,D⟩
def APost (n:FrK) (w0:World) (M:Nat→Prop) (I0 I:IH) (d:Nat) (val:Nat→Value) (atom:Nat→HA) (L:Sh) (h:List HA):Exit→Act→World→Prop:=fun e a w=>e=.normal∧a.defers=n.defs∧∃ b,a.tmps[d]? = some (val b)∧Sym w0 M I0 I (L (atom b :: h)) w
theorem APost.mk {val:Nat→Value} {atom:Nat→HA} {D:List HA} (G:ShOk L) (b:Nat) {E':DY}:Ops P ops [] n ((d,val b) :: E') (Sym w0 M I0 I (atom b :: L D)) (APost n w0 M I0 I d val atom L D):=
  fun _ _ h J=>⟨rfl,h.defers,b,h.env.1,J.perm (G _ _).symm⟩
theorem DrawD.a (val:Nat→Value) (atom:Nat→HA) (G:ops[c]? = some o) (J:o.dst=some d) (D:fresh E d=true) (hi:tM X (FT o)=true)
    (h:∀ (I:IH) (L:Sh),ShOk L→∀ O,Ops P ops [o] n (LN dn (FT o) E) (Sym w0 M I0 I (L O)) (APost n w0 M I0 I d val atom L O))
    (k:DrawD P ops n Q w0 M I0 E cs dn X pend (⟨c,d,LN dn (FT o) E,val,atom⟩ :: as) I L):DrawD P ops n Q w0 M I0 E (some c :: cs) dn X pend as I L:=
  ⟨o,G,.inr (.inl ⟨d,val,atom,J,D,hi,⟨o,G,J,h⟩,k⟩)⟩
theorem DrawD.b (D:tL (NG as) X ops.toList 0=true) (k:barD as dn L fun h G=>DrawD P ops n Q w0 M I0 E cs h (NG as++X) pend [] I G):DrawD P ops n Q w0 M I0 E (none :: cs) dn X pend as I L:=⟨D,k⟩
theorem DrawD.nop (h:DrawD P ops n Q w0 M I0 E cs dn X pend as I L):DrawD P ops n Q w0 M I0 E cs dn X pend as I L:=h
def WPost (P:Program) (ops:Array Oper) (n:FrK) (E:DY) (Q:Exit→Act→World→Prop) (w0:World) (M:Nat→Prop) (I0:IH) (o:Oper) (c:Nat) (cs:List (Option Nat)) (dn:IQ) (X h:List Nat) (as:List AS) (J:List HA):Exit→Act→World→Prop:=
  fun e a w=>e=.normal∧a.defers=n.defs∧∃ O G D,aN o c dn a D∧ShOk G∧Sym w0 M I0 O (G J) w∧PendL P ops n E D (fun J=>Sym w0 M I0 O (G J)) h∧DrawD P ops n Q w0 M I0 E cs D (c :: X) h as O G
theorem WPost.some {h:List Nat} {E':DY} {D:List HA} {J:List HA} (L:Sh) (he:J=L D) (U:∀ X D,Del (L (X :: D)) X (L D)) (V:o.dst=some d) (hp:PendL P ops n E ((c,d,v) :: dn) (fun D=>Sym w0 M I0 I (L D)) h)
    (k:DrawD P ops n Q w0 M I0 E cs ((c,d,v) :: dn) (c :: X) h as I L):Ops P ops [] n ((d,v) :: E') (Sym w0 M I0 I J) (WPost P ops n E Q w0 M I0 o c cs dn X h as D):=
  fun a w G O=>⟨rfl,G.defers,I,L,_,by unfold aN; rw [V]; exact ⟨v,G.env.1,rfl⟩,fun X D=>(U X D).perm,by rw [he] at O; exact O,hp,k⟩
theorem WPost.none {h:List Nat} {E':DY} {D:List HA} {G:List HA} (L:Sh) (he:G=L D) (O:∀ X D,Del (L (X :: D)) X (L D)) (U:o.dst=none) (hp:PendL P ops n E dn (fun D=>Sym w0 M I0 I (L D)) h)
    (k:DrawD P ops n Q w0 M I0 E cs dn (c :: X) h as I L):Ops P ops [] n E' (Sym w0 M I0 I G) (WPost P ops n E Q w0 M I0 o c cs dn X h as D):=
  fun a w V J=>⟨rfl,V.defers,I,L,_,by unfold aN; rw [U],fun X D=>(O X D).perm,by rw [he] at J; exact J,hp,k⟩
theorem DrawD.e (t:Nat) (G:QG X t=true) (D:X.all (Nat.blt · t)=true) (J:VU (ops.toList.drop t) t=true) (k:Ops P ops (ops.toList.drop t) n (Ad0 dn E) (Sym w0 M I0 I (L [])) Q):DrawD P ops n Q w0 M I0 E [] dn X pend [] I L:=
  ⟨rfl,t,G,fun x h=>by have:=List.all_eq_true.1 D x h; simpa [Nat.blt_eq] using this,J,k⟩
end
end Go.Fw
