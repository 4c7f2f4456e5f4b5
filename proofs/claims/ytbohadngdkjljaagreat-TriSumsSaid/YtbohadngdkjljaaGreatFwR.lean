/- The engine, part R: regions whose order is drawn. Some canonical order is walked; what is unordered with a step that turns memory is shown anew behind it. -/
import Derived.Test.YtbohadngdkjljaaGreatFwB
import Derived.OrdersIn
namespace Go.Fw
open Go Go.RowKit
variable {w0:World} {M:Nat→Prop} {I0:IH}
variable {P:Program} {n:FrK} {E:DH} {Q:Exit→Act→World→Prop} {ops:Array Oper}
abbrev HE:=List (Nat×Nat×Value)
def KA:List Nat→Nat→Bool
  | [],_=>false
  | x :: l,y=>bif Nat.beq x y then true else KA l y
theorem DX {l:List Nat} {y:Nat}:KA l y=true↔y∈l:=by
  induction l with
  | nil=>simp [KA]
  | cons x l ih=>
    simp only [KA,List.mem_cons]
    cases h:Nat.beq x y with
    | true=>simp [Nat.eq_of_beq_eq_true h]
    | false=>
      have:y≠x:=fun e=>by rw [e,Nat.beq_refl] at h; cases h
      simp [ih,this]
def lQ:List Edge→List Nat
  | []=>[]
  | e :: l=>bif Region.binds .any e then e.on :: lQ l else lQ l
def EU (o:Oper):List Nat:=lQ o.after.toList
theorem Y5 {l:List Edge} {j:Nat}:j∈lQ l↔∃ e∈l,Region.binds .any e=true∧e.on=j:=by
  induction l with
  | nil=>simp [lQ]
  | cons e l ih=>
    simp only [lQ]
    cases h:Region.binds .any e with
    | true => simp only [cond_true, List.mem_cons, ih]; constructor
              · rintro (rfl | ⟨e',h1,h2,h3⟩)
                · exact ⟨e,.inl rfl,h,rfl⟩
                · exact ⟨e',.inr h1,h2,h3⟩
              · rintro ⟨e',rfl | h1,h2,h3⟩
                · exact .inl h3.symm
                · exact .inr ⟨e',h1,h2,h3⟩
    | false => simp only [cond_false, List.mem_cons, ih]; constructor
               · rintro ⟨e',h1,h2,h3⟩; exact ⟨e',.inr h1,h2,h3⟩
               · rintro ⟨e',rfl | h1,h2,h3⟩
                 · rw [h] at h2; cases h2
                 · exact ⟨e',h1,h2,h3⟩
def IJ:HE→List Nat→DH→DH
  | [],_,E=>E
  | p :: r,js,E=>bif KA js p.1 then p.2 :: IJ r js E else IJ r js E
def AbD:HE→DH→DH
  | [],E=>E
  | p :: r,E=>p.2 :: AbD r E
def GQ:HE→Nat→Option (Nat×Value)
  | [],_=>none
  | p :: r,i=>bif Nat.beq p.1 i then some p.2 else GQ r i
def Fin (n:FrK) (S:World→Prop) (d:Nat) (v:Value):Exit→Act→World→Prop:=fun e a w=>e=.normal∧a.defers=n.defs∧a.tmps[d]? = some v∧S w
abbrev Sh:=List HA→List HA
def ShOk (L:Sh):Prop:=∀ X ex,(L (X :: ex)).Perm (X :: L ex)
theorem Del.perm {l m:List HA} {A:HA} (h:Del l A m):l.Perm (A :: m):=by
  induction h with
  | z=>exact .refl _
  | s _ ih=>exact (ih.cons _).trans (.swap ..)
theorem zQ {l l':List HA} {I:IH} (hp:l.Perm l'):∀ {h:IH},MQ l I h→MQ l' I h:=by
  induction hp with
  | nil=>exact fun h=>h
  | cons x _ ih=>exact fun ⟨h1,h2,a,b,c,d,e⟩=>⟨h1,h2,a,b,c,d,ih e⟩
  | swap x y l=>exact fun hs=>aL (.s .z) hs
  | trans _ _ ih1 ih2=>exact fun h=>ih2 (ih1 h)
theorem Sym.perm {I:IH} {l l':List HA} {w:World} (hp:l.Perm l') (h:Sym w0 M I0 I l w):Sym w0 M I0 I l' w:=by
  obtain ⟨hb,hi,hn,k,hs,hk,hd,hm⟩:=h
  exact ⟨hb,hi,hn,k,zQ hp hs,hk,hd,hm⟩
theorem ShOk.front {L:Sh} (h:ShOk L):∀ ex,(L ex).Perm (ex++L [])
  | []=>.refl _
  | X :: ex=>(h X ex).trans ((h.front ex).cons X)
theorem ShOk.app {L:Sh} (h:ShOk L) (pre:List HA):ShOk fun ex=>L (pre++ex):=fun X ex=>by
  refine (h.front _).trans (.trans ?_ ((h.front (pre++ex)).symm.cons X))
  simp only [List.append_assoc,List.cons_append]
  exact List.perm_middle
structure AS where
  i:Nat
  d:Nat
  env:DH
  val:Nat→Value
  atom:Nat→HA
def AfR (P:Program) (ops:Array Oper) (n:FrK) (w0:World) (M:Nat→Prop) (I0:IH) (s:AS):Prop:=
  ∃ o,ops[s.i]? = some o∧o.dst=some s.d∧∀ (I:IH) (L:Sh),ShOk L→∀ ex,Ops P ops [o] n s.env (Sym w0 M I0 I (L ex)) fun e a w=>e=.normal∧a.defers=n.defs∧∃ b,a.tmps[s.d]? = some (s.val b)∧Sym w0 M I0 I (L (s.atom b :: ex)) w
def ME:List AS→List Nat
  | []=>[]
  | s :: r=>s.i :: ME r
def barD:List AS→HE→Sh→(HE→Sh→Prop)→Prop
  | [],dn,L,K=>K dn L
  | s :: r,dn,L,K=>∀ b,barD r ((s.i,s.d,s.val b) :: dn) (fun ex=>L (s.atom b :: ex)) K
def avals (bs:Nat→Nat):List AS→HE→HE
  | [],dn=>dn
  | s :: r,dn=>avals bs r ((s.i,s.d,s.val (bs s.i)) :: dn)
def atoms (bs:Nat→Nat):List AS→List HA
  | []=>[]
  | s :: r=>s.atom (bs s.i) :: atoms bs r
theorem barD.get (bs:Nat→Nat):∀ {as:List AS} {dn:HE} {L:Sh} {K:HE→Sh→Prop},barD as dn L K→K (avals bs as dn) (fun ex=>L (atoms bs as++ex))
  | [],_,_,_,h=>h
  | s :: r,_,_,_,h=>barD.get bs (as:=r) (h (bs s.i))
def qJ (as X:List Nat):List Oper→Nat→Bool
  | [],_=>true
  | o :: r,i=>(KA X i || KA as i || !(EU o).all (fun p=>KA X p || KA as p) || as.all (KA (EU o))) && qJ as X r (i+1)
def PendL (P:Program) (ops:Array Oper) (n:FrK) (E:DH) (dn:HE) (S:List HA→World→Prop):List Nat→Prop
  | []=>True
  | f :: fs=>(∃ o d v,ops[f]? = some o∧o.dst=some d∧fresh E d=true∧GQ dn f=some (d,v)∧∀ ex,Ops P ops [o] n (IJ dn (EU o) E) (S ex) (Fin n (S ex) d v))∧PendL P ops n E dn S fs
def nP (ops:Array Oper):Nat→Nat→Nat→Bool
  | 0,_,_=>false
  | k+1,f,c=>match ops[c]? with
    | none=>false
    | some o=>KA (EU o) f || (EU o).any (nP ops k f)
def nQ (ops:Array Oper) (c:Nat) (pend' pend:List Nat):Prop:=∀ f∈pend,f∈pend'∨∃ k,nP ops k f c=true
def VY (ops:Array Oper) (c f:Nat):Bool:=match ops[c]? with
  | none=>false
  | some o=>KA (EU o) f
def nR (ops:Array Oper) (c:Nat):Nat→List Nat→Bool
  | f,[]=>VY ops c f
  | f,p :: r=>VY ops p f && nR ops c p r
def X2 (ops:Array Oper) (c:Nat) (pend':List Nat):List (List Nat)→List Nat→Bool
  | _,[]=>true
  | ps,f :: fs=>bif KA pend' f then X2 ops c pend' ps fs else match ps with
    | []=>false
    | p :: ps=>nR ops c f p && X2 ops c pend' ps fs
def qK (X:List Nat):List Nat→Bool
  | []=>true
  | p :: ps=>KA X p && qK X ps
def VZ (ops:List Oper) (X:List Nat) (c:Nat):Nat→Bool
  | i=>match ops with
    | []=>true
    | o :: r=>(KA X i || Nat.beq i c || !qK X (EU o)) && VZ r X c (i+1)
def PF (X:List Nat):Nat→Bool
  | 0=>true
  | k+1=>KA X k && PF X k
def Z3 (o:Oper) (c:Nat) (dn:HE) (a:Act) (dn':HE):Prop:=
  match o.dst with
  | some d=>∃ v,a.tmps[d]? = some v∧dn'=(c,d,v) :: dn
  | none=>dn'=dn
def aO (X:List Nat):Nat→Bool
  | 0=>true
  | k+1=>KA X k && aO X k
def US:List Oper→Nat→Bool
  | [],_=>true
  | o :: r,i=>aO (EU o) i && US r (i+1)
def rmE (d:Nat):DH→DH
  | []=>[]
  | p :: r=>bif Nat.beq p.1 d then rmE d r else p :: rmE d r
def RY (o:Oper) (E:DH):DH:=match o.dst with
  | none=>E
  | some d=>bif fresh E d then E else rmE d E
def DrawD (P:Program) (ops:Array Oper) (n:FrK) (Q:Exit→Act→World→Prop) (w0:World) (M:Nat→Prop) (I0:IH):DH→List (Option Nat)→HE→List Nat→List Nat→List AS→IH→Sh→Prop
  | E,[],dn,X,_,as,I,L=>as=[]∧∃ t,PF X t=true∧(∀ x∈X,x<t)∧US (ops.toList.drop t) t=true∧Ops P ops (ops.toList.drop t) n (AbD dn E) (Sym w0 M I0 I (L [])) Q
  | E,none :: cs,dn,X,pend,as,I,L=>qJ (ME as) X ops.toList 0=true∧barD as dn L fun dn' L'=>DrawD P ops n Q w0 M I0 E cs dn' (ME as++X) pend [] I L'
  | E,some c :: cs,dn,X,pend,as,I,L=>∃ o,ops[c]? = some o ∧
      ((∃ d v,o.dst=some d∧fresh E d=true∧(∀ ex,Ops P ops [o] n (IJ dn (EU o) E) (Sym w0 M I0 I (L ex)) (Fin n (Sym w0 M I0 I (L ex)) d v))∧DrawD P ops n Q w0 M I0 E cs ((c,d,v) :: dn) (c :: X) (c :: pend) as I L)
      ∨ (∃ d val atom,o.dst=some d∧fresh E d=true∧qK X (EU o)=true∧AfR P ops n w0 M I0 ⟨c,d,IJ dn (EU o) E,val,atom⟩∧DrawD P ops n Q w0 M I0 E cs dn X pend (⟨c,d,IJ dn (EU o) E,val,atom⟩ :: as) I L)
      ∨ (VZ ops.toList (ME as++X) c 0=true∧(as=[]∨RY o E=E)∧∃ pend',nQ ops c pend' pend∧∀ ex,Ops P ops [o] n (IJ dn (EU o) E) (Sym w0 M I0 I (L ex)) fun e a w=>e=.normal∧a.defers=n.defs ∧
          ∃ I' L' dn',Z3 o c dn a dn'∧ShOk L'∧Sym w0 M I0 I' (L' ex) w∧PendL P ops n (RY o E) dn' (fun ex=>Sym w0 M I0 I' (L' ex)) pend'∧DrawD P ops n Q w0 M I0 (RY o E) cs dn' (c :: X) pend' as I' L'))
def ZM (n:FrK):List Oper→List Nat→Bool
  | [],_=>true
  | o :: r,ds=>match o.dst with
    | none=>ZM n r ds
    | some d=>Nat.blt d n.sz && !KA ds d && ZM n r (d :: ds)
def ZN:List Oper→Nat→Bool
  | [],_=>true
  | o :: r,i=>(EU o).all (Nat.blt · i) && ZN r (i+1)
theorem Ag5 {o:Oper} {a:Act} {w:World} (ha:a.defers=n.defs) {K':Act→World→Prop} {Q':Exit→Act→World→Prop} (hQ:∀ e a w,Q' e a w→e=.normal) (hK:∀ a w,K' a w→a.defers=n.defs)
    (h:o.wpIn (RJ n) 0 P a w K' Q'):o.wpIn (RJ n) 0 P a w (fun a' w'=>K' a' w'∧∃ v,a'=a.put o.dst v) Q:=by
  have hp:∀ c a w,¬Q' (.panic c) a w:=fun c a w hq=>by cases hQ _ _ _ hq
  have hlo:¬LetsOut Q':=fun ⟨a,w,hq⟩=>by cases hQ _ _ _ hq
  unfold Oper.wpIn at *
  refine ⟨h.1,?_⟩
  replace h:=h.2
  generalize (o.semAt (RJ n).round a.eval).run P w=r at *
  cases r with
  | ok x w'=>
    cases x <;> simp only [Oper.uponIn] at h ⊢
    case value v=>exact ⟨h,v,rfl⟩
    case skip=>exact ⟨h,_,rfl⟩
    case defer d=>exact absurd (hK _ _ h) (by rw [←ha]; unfold Act.put; split <;> simp)
    case round=>refine ⟨h.1,RoundIn.mono h.2 fun e w'' he=>?_⟩; cases e with
      | returned v=>exact ⟨he,v,rfl⟩
      | panicked c=>exact (hp _ _ _ he).elim
      | outgrown=>exact (hlo he).elim
    case enter f args=>
      refine ⟨h.1,CallsIn.mono h.2 fun e w'' he=>?_⟩
      cases e with
      | returned v=>exact ⟨he,v,rfl⟩
      | panicked c=>exact (hp _ _ _ he).elim
      | outgrown=>exact (hlo he).elim
    case row=>exact ⟨h.1,RowsIn.mono h.2 fun v w'' he=>⟨he,v,rfl⟩⟩
  | halt x w'=>
    cases x <;> simp only [Oper.uponIn] at h ⊢
    exact (hp _ _ _ h).elim
theorem gZ {o:Oper} {i:Nat} {a:Act} {w:World} (ha:a.defers=n.defs) {Q':Exit→Act→World→Prop} {K:Act→World→Prop} (hi:ops[i]? = some o) (hQ:∀ e a w,Q' e a w→e=.normal∧a.defers=n.defs)
    (h:wpListIn (RJ n) 0 P ops Q' [o] a w) (hK:∀ a' w',Q' .normal a' w'→(∃ v,a'=a.put o.dst v)→K a' w'):wpOpIn (RJ n) 0 P ops Q i K a w:=by
  simp only [wpOpIn,hi]
  unfold wpListIn at h
  split
  · rename_i hw
    rw [if_pos hw] at h
    refine Oper.wpIn_mono (fun a' w' h'=>hK a' w' h'.1 h'.2) (Ag5 ha (K':=fun a w=>Q' .normal a w) (Q:=Q) (fun e a w h=>(hQ e a w h).1) (fun a w h=>(hQ _ _ _ h).2) ?_)
    exact h
  · rename_i hw
    rw [if_neg hw] at h
    exact ⟨h.1,hK _ _ h.2 ⟨undef,rfl⟩⟩
structure RI (P:Program) (ops:Array Oper) (n:FrK) (E:DH) (Q:Exit→Act→World→Prop) (w0:World) (M:Nat→Prop) (I0:IH) (listed:Array Bool) (a:Act) (w:World) (cs:List (Option Nat)) (dn:HE) (X pend:List Nat) (as:List AS) (I:IH) (L:Sh) (ad:List (AS×Nat)):Prop where
  draw:DrawD P ops n Q w0 M I0 E cs dn X pend as I L
  shape:ShOk L
  sat:Sym w0 M I0 I (L (ad.map fun p=>p.1.atom p.2)) w
  size:a.tmps.size=n.sz
  defers:a.defers=n.defs
  env:EnvOk E a
  lsize:listed.size=ops.size
  val:∀ i d v,(i,d,v)∈dn→listed.getD i false=true→a.tmps[d]? = some v
  have_:∀ i o d,ops[i]? = some o→o.dst=some d→i∈X→∃ v,(i,d,v)∈dn
  dnOk:∀ i d v,(i,d,v)∈dn→i∈X∧GQ dn i=some (d,v)∧∃ o,ops[i]? = some o∧o.dst=some d
  inX:∀ i,listed.getD i false=true→i∈ME as++X
  outX:∀ i,i∈X→listed.getD i false=false→i∈pend
  pendL:PendL P ops n E dn (fun ex=>Sym w0 M I0 I (L ex)) pend
  down:∀ i o,listed.getD i false=true→ops[i]? = some o→∀ p∈EU o,listed.getD p false=true
  asX:∀ c∈ME as,c ∉ X
  asNd:(ME as).Nodup
  asSp:∀ s∈as,AfR P ops n w0 M I0 s∧∀ o,ops[s.i]? = some o→(∀ p∈EU o,p∈X)∧IJ dn (EU o) E=s.env∧fresh E s.d=true
  adOk:∀ p∈ad,p.1∈as∧listed.getD p.1.i false=true∧a.tmps[p.1.d]? = some (p.1.val p.2)
  adAll:∀ s∈as,listed.getD s.i false=true→∃ b,(s,b)∈ad
  adNd:(ad.map fun p=>p.1.i).Nodup
theorem PendL.get {dn:HE} {S:List HA→World→Prop}:∀ {l:List Nat},PendL P ops n E dn S l→∀ f∈l,∃ o d v,ops[f]? = some o∧o.dst=some d∧fresh E d=true∧GQ dn f=some (d,v)∧∀ ex,Ops P ops [o] n (IJ dn (EU o) E) (S ex) (Fin n (S ex) d v)
  | f :: fs,⟨h,h'⟩,g,hg=>by
    cases hg with
    | head=>exact h
    | tail _ hg=>exact PendL.get h' g hg
theorem xJ {a:Act} {js:List Nat} (hE:EnvOk E a):∀ {dn:HE},(∀ i d v,(i,d,v)∈dn→i∈js→a.tmps[d]? = some v)→EnvOk (IJ dn js E) a
  | [],_=>hE
  | (i,d,v) :: dn,h=>by
    have ih:=xJ (js:=js) hE (dn:=dn) (fun i d v hm=>h i d v (List.mem_cons_of_mem _ hm))
    simp only [IJ]
    cases hm:KA js i with
    | true=>exact ⟨h i d v (by simp) (DX.1 hm),ih⟩
    | false=>exact ih
theorem xK {a:Act} (hE:EnvOk E a):∀ {dn:HE},(∀ i d v,(i,d,v)∈dn→a.tmps[d]? = some v)→EnvOk (AbD dn E) a
  | [],_=>hE
  | (i,d,v) :: dn,h=>⟨h i d v (by simp),xK hE fun i d v hm=>h i d v (List.mem_cons_of_mem _ hm)⟩
theorem hG {l:List Nat} {y:Nat} (h:KA l y=false):y ∉ l:=fun hm=>by rw [DX.2 hm] at h; cases h
theorem W0 {X:List Nat}:∀ {k i:Nat},PF X k=true→i<k→i∈X
  | k+1,i,h,hi=>by
    simp only [PF,Bool.and_eq_true] at h
    by_cases e:i=k
    · subst e; exact DX.1 h.1
    · exact W0 h.2 (by omega)
theorem xL {X:List Nat}:∀ {ps:List Nat},(∀ p∈ps,p∈X)→qK X ps=true
  | [],_=>rfl
  | p :: ps,h=>by simp only [qK,Bool.and_eq_true]; exact ⟨DX.2 (h p (by simp)),xL fun q hq=>h q (List.mem_cons_of_mem _ hq)⟩
theorem nS {X:List Nat} {c:Nat} {l:List Oper}:∀ (k:Nat),VZ l X c k=true→∀ (i:Nat) (o:Oper),l[i]? = some o→k+i∈X∨k+i=c∨¬(∀ p∈EU o,p∈X):=by
  induction l with
  | nil=>intro k _ i o hi; simp at hi
  | cons o' l ih=>
    intro k h i o hi
    simp only [VZ,Bool.and_eq_true,Bool.or_eq_true] at h
    cases i with
    | zero=>
      simp at hi; subst hi
      rcases h.1 with (h1 | h1) | h1
      · exact .inl (DX.1 h1)
      · exact .inr (.inl (Nat.eq_of_beq_eq_true h1))
      · refine .inr (.inr fun h2=>?_)
        rw [xL h2] at h1; cases h1
    | succ i=>
      have:=ih (k+1) h.2 i o (by simpa using hi)
      rwa [show k+1+i=k+(i+1) by omega] at this
theorem uX {listed:Array Bool} (hd:∀ (i:Nat) (o:Oper),listed.getD i false=true→ops[i]? = some o→∀ p∈EU o,listed.getD p false=true) (k:Nat) :
    ∀ (f c:Nat) (o:Oper),ops[c]? = some o→(∀ p∈EU o,listed.getD p false=true)→nP ops k f c=true→listed.getD f false=true:=by
  induction k with
  | zero=>intro f c o _ _ h; simp [nP] at h
  | succ k ih=>
    intro f c o hc hp h
    simp only [nP,hc,Bool.or_eq_true,List.any_eq_true] at h
    rcases h with h | ⟨p,hpm,h⟩
    · exact hp f (DX.1 h)
    · cases ho:ops[p]? with
      | none=>cases k <;> simp [nP,ho] at h
      | some o'=>exact ih f p o' ho (hd p o' (hp p hpm) ho) h
theorem hZ {f c:Nat} (h:VY ops c f=true):nP ops 1 f c=true:=by
  unfold VY at h
  unfold nP
  cases hc:ops[c]? with
  | none=>rw [hc] at h; cases h
  | some o=>rw [hc] at h; simp [h]
theorem qL {f p c:Nat} (h:VY ops p f=true):∀ {k:Nat},nP ops k p c=true→∃ k',nP ops k' f c=true:=by
  intro k
  induction k generalizing c with
  | zero=>intro h'; simp [nP] at h'
  | succ k ih=>
    intro h'
    unfold nP at h'
    cases hc:ops[c]? with
    | none=>rw [hc] at h'; cases h'
    | some o=>
      rw [hc] at h'
      simp only [Bool.or_eq_true,List.any_eq_true] at h'
      rcases h' with h' | ⟨q,hq,h'⟩
      · refine ⟨2,?_⟩
        unfold nP
        rw [hc]
        simp only [Bool.or_eq_true,List.any_eq_true]
        exact .inr ⟨p,DX.1 h',hZ h⟩
      · obtain ⟨k',hk⟩:=ih h'
        refine ⟨k'+1,?_⟩
        unfold nP
        rw [hc]
        simp only [Bool.or_eq_true,List.any_eq_true]
        exact .inr ⟨q,hq,hk⟩
theorem eT {c:Nat}:∀ {r:List Nat} {f:Nat},nR ops c f r=true→∃ k,nP ops k f c=true
  | [],_,h=>⟨1,hZ h⟩
  | p :: r,f,h=>by
    simp only [nR,Bool.and_eq_true] at h
    obtain ⟨k,hk⟩:=eT h.2
    exact qL h.1 hk
theorem UT {c:Nat} {pend':List Nat}:∀ {pend:List Nat} {ps:List (List Nat)},X2 ops c pend' ps pend=true→nQ ops c pend' pend
  | [],_,_,f,hf=>nomatch hf
  | g :: fs,ps,h,f,hf=>by
    unfold X2 at h
    cases hm:KA pend' g with
    | true=>
      rw [hm] at h
      cases hf with
      | head=>exact .inl (DX.1 hm)
      | tail _ hf=>exact UT (ps:=ps) h f hf
    | false=>
      rw [hm] at h
      cases ps with
      | nil=>cases h
      | cons p ps=>
        simp only [cond_false,Bool.and_eq_true] at h
        cases hf with
        | head=>exact .inr (eT h.1)
        | tail _ hf=>exact UT h.2 f hf
theorem qM {l:List Oper}:∀ (ds:List Nat),ZM n l ds=true→∀ (i:Nat) (o:Oper) (d:Nat),l[i]? = some o→o.dst=some d →
    Nat.blt d n.sz=true∧d ∉ ds∧∀ (j:Nat) (o':Oper),l[j]? = some o'→o'.dst=some d→j=i:=by
  induction l with
  | nil=>intro ds _ i o d hi; simp at hi
  | cons o' l ih=>
    intro ds h i o d hi ho
    simp only [ZM] at h
    cases hd:o'.dst with
    | none=>
      rw [hd] at h
      cases i with
      | zero=>simp at hi; subst hi; rw [hd] at ho; cases ho
      | succ i=>
        obtain ⟨h1,h3,h4⟩:=ih ds h i o d (by simpa using hi) ho
        refine ⟨h1,h3,fun j o'' hj hjd=>?_⟩
        cases j with
        | zero=>simp at hj; subst hj; rw [hd] at hjd; cases hjd
        | succ j=>rw [h4 j o'' (by simpa using hj) hjd]
    | some d'=>
      simp only [hd,Bool.and_eq_true,Bool.not_eq_true'] at h
      obtain ⟨⟨g1,g3⟩,g4⟩:=h
      cases i with
      | zero=>
        simp at hi; subst hi; rw [hd] at ho; cases ho
        refine ⟨g1,hG g3,fun j o'' hj hjd=>?_⟩
        cases j with
        | zero=>rfl
        | succ j=>
          have:=(ih (d :: ds) g4 j o'' d (by simpa using hj) hjd).2.1
          exact absurd (by simp) this
      | succ i=>
        obtain ⟨h1,h3,h4⟩:=ih (d' :: ds) g4 i o d (by simpa using hi) ho
        refine ⟨h1,fun hm=>h3 (List.mem_cons_of_mem _ hm),fun j o'' hj hjd=>?_⟩
        cases j with
        | zero=>simp at hj; subst hj; rw [hd] at hjd; cases hjd; exact absurd (by simp) h3
        | succ j=>rw [h4 j o'' (by simpa using hj) hjd]
theorem eU {l:List Oper}:∀ (k:Nat),ZN l k=true→∀ (i:Nat) (o:Oper),l[i]? = some o→∀ p∈EU o,p<k+i:=by
  induction l with
  | nil=>intro k _ i o hi; simp at hi
  | cons o' l ih=>
    intro k h i o hi p hp
    simp only [ZN,Bool.and_eq_true,List.all_eq_true] at h
    cases i with
    | zero=>simp at hi; subst hi; have:=h.1 p hp; simpa [Nat.blt_eq] using this
    | succ i=>have:=ih (k+1) h.2 i o (by simpa using hi) p hp; omega
theorem qN {ops:Array Oper} {i:Nat}:ops.toList[i]? = ops[i]?:=by simp
theorem GR {listed:Array Bool} {i j:Nat} (hi:i<listed.size):(listed.setIfInBounds i true).getD j false=true↔j=i∨listed.getD j false=true:=by
  simp only [Array.getD_eq_getD_getElem?,Array.getElem?_setIfInBounds]
  by_cases e:i=j
  · subst e; simp [hi]
  · simp [e,Ne.symm e]
theorem uY {as X:List Nat} {l:List Oper}:∀ (k:Nat),qJ as X l k=true→∀ (i:Nat) (o:Oper),l[i]? = some o→k+i∈as++X∨¬(∀ p∈EU o,p∈as++X)∨∀ c∈as,c∈EU o:=by
  induction l with
  | nil=>intro k _ i o hi; simp at hi
  | cons o' l ih=>
    intro k h i o hi
    simp only [qJ,Bool.and_eq_true,Bool.or_eq_true] at h
    cases i with
    | zero=>
      simp at hi; subst hi
      rcases h.1 with ((h1 | h1) | h1) | h1
      · exact .inl (List.mem_append.2 (.inr (DX.1 h1)))
      · exact .inl (List.mem_append.2 (.inl (DX.1 h1)))
      · refine .inr (.inl fun h2=>?_)
        have:(EU o').all (fun p=>KA X p || KA as p)=true:=List.all_eq_true.2 fun p hp=>by
          rcases List.mem_append.1 (h2 p hp) with h3 | h3
          · simp [DX.2 h3]
          · simp [DX.2 h3]
        rw [this] at h1; cases h1
      · exact .inr (.inr fun c hc=>DX.1 (List.all_eq_true.1 h1 c hc))
    | succ i=>
      have:=ih (k+1) h.2 i o (by simpa using hi)
      rwa [show k+1+i=k+(i+1) by omega] at this
def RK:List (Option Nat)→List Nat
  | []=>[]
  | none :: r=>RK r
  | some c :: r=>c :: RK r
theorem TZ {c:Nat}:∀ {as:List AS},c∈ME as↔∃ s∈as,s.i=c
  | []=>by simp [ME]
  | s :: r=>by
    simp only [ME,List.mem_cons,TZ (as:=r)]
    constructor
    · rintro (rfl | ⟨s',h1,h2⟩)
      · exact ⟨s,.inl rfl,rfl⟩
      · exact ⟨s',.inr h1,h2⟩
    · rintro ⟨s',rfl | h1,h2⟩
      · exact .inl h2.symm
      · exact .inr ⟨s',h1,h2⟩
theorem OV {α β:Type} {f:α→β}:∀ {l:List α},(l.map f).Nodup→∀ {x y:α},x∈l→y∈l→f x=f y→x=y
  | a :: l,h,x,y,hx,hy,e=>by
    simp only [List.map_cons,List.nodup_cons,List.mem_map,not_exists,not_and] at h
    rcases List.mem_cons.1 hx with h1 | h1 <;> rcases List.mem_cons.1 hy with h2 | h2
    · rw [h1,h2]
    · rw [h1] at e; exact absurd e.symm (h.1 y h2)
    · rw [h2] at e; exact absurd e (h.1 x h1)
    · exact OV h.2 h1 h2 e
theorem W2 {α β:Type} {f:α→β}:∀ {l:List α},(l.map f).Nodup→l.Nodup
  | [],_=>.nil
  | a :: l,h=>by
    simp only [List.map_cons,List.nodup_cons,List.mem_map,not_exists,not_and] at h
    exact List.nodup_cons.2 ⟨fun hm=>h.1 a hm rfl,W2 h.2⟩
theorem gJ:∀ {as:List AS},ME as=as.map (·.i)
  | []=>rfl
  | s :: r=>by simp [ME,gJ (as:=r)]
theorem lR {bs:Nat→Nat}:∀ {as:List AS},atoms bs as=(as.map fun s=>(s,bs s.i)).map fun p=>p.1.atom p.2
  | []=>rfl
  | s :: r=>by simp [atoms,lR (as:=r)]
theorem dI {bs:Nat→Nat} {i d:Nat} {v:Value}:∀ {as:List AS} {dn:HE},(i,d,v)∈avals bs as dn→(i,d,v)∈dn∨∃ s∈as,i=s.i∧d=s.d∧v=s.val (bs s.i)
  | [],_,h=>.inl h
  | s :: r,dn,h=>by
    rcases dI (as:=r) h with h1 | ⟨s',h1,h2⟩
    · rcases List.mem_cons.1 h1 with h1 | h1
      · cases h1; exact .inr ⟨s,by simp,rfl,rfl,rfl⟩
      · exact .inl h1
    · exact .inr ⟨s',List.mem_cons_of_mem _ h1,h2⟩
theorem ZO {bs:Nat→Nat}:∀ {as:List AS} {dn:HE},(∀ p∈dn,p∈avals bs as dn)∧∀ s∈as,(s.i,s.d,s.val (bs s.i))∈avals bs as dn
  | [],_=>⟨fun _ h=>h,by simp⟩
  | s :: r,dn=>by
    have ih:=ZO (bs:=bs) (as:=r) (dn:=(s.i,s.d,s.val (bs s.i)) :: dn)
    refine ⟨fun p hp=>ih.1 p (List.mem_cons_of_mem _ hp),fun s' hs'=>?_⟩
    rcases List.mem_cons.1 hs' with rfl | hs'
    · exact ih.1 _ (by simp)
    · exact ih.2 _ hs'
theorem iA {i c:Nat} (h:c≠i):Nat.beq c i=false:=by cases hb:Nat.beq c i with | false=>rfl | true=>exact absurd (Nat.eq_of_beq_eq_true hb) h
theorem X3 {bs:Nat→Nat} {i:Nat}:∀ {as:List AS} {dn:HE},i ∉ ME as→GQ (avals bs as dn) i=GQ dn i
  | [],_,_=>rfl
  | s :: r,dn,h=>by
    simp only [ME,List.mem_cons,not_or] at h
    rw [avals,X3 h.2]
    simp only [GQ,iA (Ne.symm h.1),cond_false]
theorem aP {bs:Nat→Nat}:∀ {as:List AS} {dn:HE},(ME as).Nodup→∀ s∈as,GQ (avals bs as dn) s.i=some (s.d,s.val (bs s.i))
  | s :: r,dn,h,s',hs'=>by
    simp only [ME,List.nodup_cons] at h
    rcases List.mem_cons.1 hs' with rfl | hs'
    · rw [avals,X3 h.1]; simp [GQ]
    · exact aP h.2 s' hs'
theorem lS {l:HE} {c:Nat} {x:Nat×Value} (hx:GQ l c=some x):(c,x)∈l:=by
  induction l with
  | nil=>simp [GQ] at hx
  | cons q l ihl=>
    simp only [GQ] at hx
    cases hb:Nat.beq q.1 c with
    | true=>rw [hb] at hx; simp at hx; have:=Nat.eq_of_beq_eq_true hb; subst hx; subst this; simp
    | false=>rw [hb] at hx; exact List.mem_cons_of_mem _ (ihl hx)
theorem iB {c d:Nat} {v:Value} {dn:HE} {js:List Nat} {a:Act} (he:EnvOk (IJ ((c,d,v) :: dn) js E) a):EnvOk (IJ dn js E) a:=by
  simp only [IJ] at he
  cases hm:KA js c with
  | false=>rw [hm] at he; exact he
  | true=>rw [hm] at he; exact he.2
theorem PendL.push {c d:Nat} {v:Value} {dn:HE} {S:List HA→World→Prop} (hc:∀ x,GQ dn c≠some x):∀ {l:List Nat},PendL P ops n E dn S l→PendL P ops n E ((c,d,v) :: dn) S l
  | [],_=>trivial
  | f :: fs,⟨⟨o',d',v',h1,h2,hfr,h3,h4⟩,h5⟩=>by
    refine ⟨⟨o',d',v',h1,h2,hfr,?_,fun ex a' w' hok hs'=>h4 ex a' w' ⟨hok.size,hok.defers,iB hok.env⟩ hs'⟩,PendL.push hc h5⟩
    have hne:c≠f:=fun e=>by subst e; exact hc _ h3
    simp only [GQ,iA hne,cond_false]; exact h3
theorem PendL.app {dn:HE} {S:List HA→World→Prop} (g:List HA→List HA):∀ {l:List Nat},PendL P ops n E dn S l→PendL P ops n E dn (fun ex=>S (g ex)) l
  | [],_=>trivial
  | _ :: _,⟨⟨o',d',v',h1,h2,hfr,h3,h4⟩,h5⟩=>⟨⟨o',d',v',h1,h2,hfr,h3,fun ex=>h4 (g ex)⟩,PendL.app g h5⟩
theorem PendL.avals {bs:Nat→Nat} {S:List HA→World→Prop} {l:List Nat}:∀ {as:List AS} {dn:HE},(ME as).Nodup→(∀ c∈ME as,∀ x,GQ dn c≠some x)→PendL P ops n E dn S l→PendL P ops n E (avals bs as dn) S l
  | [],_,_,_,h=>h
  | s :: r,dn,hn,hd,h=>by
    simp only [ME,List.nodup_cons] at hn
    refine PendL.avals (as:=r) hn.2 (fun c hc x=>?_) (h.push (hd s.i (by simp [ME])))
    have hne:s.i≠c:=fun e=>by subst e; exact hn.1 hc
    simp only [GQ,iA hne,cond_false]
    exact hd c (by simp [ME,hc]) x
theorem lT {X:List Nat}:∀ {ps:List Nat},qK X ps=true→∀ p∈ps,p∈X
  | q :: ps,h,p,hp=>by
    simp only [qK,Bool.and_eq_true] at h
    rcases List.mem_cons.1 hp with rfl | hp
    · exact DX.1 h.1
    · exact lT h.2 p hp
theorem RI.norm {listed:Array Bool} {a:Act} {w:World}:∀ {cs:List (Option Nat)} {dn:HE} {X pend:List Nat} {as:List AS} {I:IH} {L:Sh} {ad:List (AS×Nat)},RI P ops n E Q w0 M I0 listed a w cs dn X pend as I L ad →
    (∀ c∈RK cs,c ∉ ME as++X)→(RK cs).Nodup→∃ cs' dn' X' pend' as' L' ad',RI P ops n E Q w0 M I0 listed a w cs' dn' X' pend' as' I L' ad'∧(∀ c∈RK cs',c ∉ ME as'++X')∧(RK cs').Nodup∧(∀ c∈RK cs',c∈RK cs)∧(∀ c∈ME as'++X',c∈ME as++X∨c∈RK cs)∧(∀ i,(i∈ME as++X∨i∈RK cs)→(i∈ME as'++X'∨i∈RK cs')) ∧
      (cs'=[]∨(∃ r,cs'=none :: r∧∃ c∈ME as',listed.getD c false=false)∨∃ c r o,cs'=some c :: r∧ops[c]? = some o∧VZ ops.toList (ME as'++X') c 0=true∧(as'=[]∨RY o E=E)∧∃ p',nQ ops c p' pend'∧∀ ex,Ops P ops [o] n (IJ dn' (EU o) E) (Sym w0 M I0 I (L' ex)) fun e a w=>e=.normal∧a.defers=n.defs ∧
          ∃ I2 L2 dn2,Z3 o c dn' a dn2∧ShOk L2∧Sym w0 M I0 I2 (L2 ex) w∧PendL P ops n (RY o E) dn2 (fun ex=>Sym w0 M I0 I2 (L2 ex)) p'∧DrawD P ops n Q w0 M I0 (RY o E) r dn2 (c :: X') p' as' I2 L2):=by
  intro cs
  induction cs with
  | nil=>exact fun h _ _=>⟨_,_,_,_,_,_,_,h,by simp [RK],by simp [RK],by simp [RK],fun c hc=>.inl hc,fun _ h=>h,.inl rfl⟩
  | cons c? cs ih=>
    intro dn X pend as I L ad h hX hN
    cases c? with
    | none=>
      by_cases hall:∀ c∈ME as,listed.getD c false=true
      · -- the barrier falls
        have hd:=h.draw
        simp only [DrawD] at hd
        have hex:∀ i,∃ b,∀ s∈as,s.i=i→(s,b)∈ad:=fun i=>by
          by_cases hi:∃ s∈as,s.i=i
          · obtain ⟨s,hs,rfl⟩:=hi
            obtain ⟨b,hb⟩:=h.adAll s hs (hall _ (TZ.2 ⟨s,hs,rfl⟩))
            refine ⟨b,fun s' hs' e=>?_⟩
            have hnd:=h.asNd
            rw [gJ] at hnd
            rw [OV hnd hs' hs e]; exact hb
          · exact ⟨0,fun s hs e=>absurd ⟨s,hs,e⟩ hi⟩
        obtain ⟨bs,hbs⟩:∃ bs:Nat→Nat,∀ s∈as,(s,bs s.i)∈ad:=⟨fun i=>Classical.choose (hex i),fun s hs=>Classical.choose_spec (hex s.i) s hs rfl⟩
        have hperm:(ad.map fun p=>p.1.atom p.2).Perm (atoms bs as):=by
          rw [lR]
          refine List.Perm.map _ ?_
          have hnd2:(as.map fun s=>(s,bs s.i)).Nodup:=by
            have hnd:=h.asNd
            rw [gJ] at hnd
            refine W2 (f:=fun p=>p.1.i) ?_
            simpa [Function.comp_def] using hnd
          refine (List.perm_ext_iff_of_nodup (W2 h.adNd) hnd2).2 fun p=>⟨fun hp=>?_,fun hp=>?_⟩
          · have h1:=(h.adOk p hp).1
            have:=OV h.adNd hp (hbs p.1 h1) rfl
            exact List.mem_map.2 ⟨p.1,h1,this.symm⟩
          · obtain ⟨s,hs,rfl⟩:=List.mem_map.1 hp
            exact hbs s hs
        have hdl:∀ c∈ME as,∀ x,GQ dn c≠some x:=fun c hc x e=>h.asX c hc (h.dnOk c x.1 x.2 (lS e)).1
        have H:RI P ops n E Q w0 M I0 listed a w cs (Fw.avals bs as dn) (ME as++X) pend [] I (fun ex=>L (Fw.atoms bs as++ex)) []:=by
          refine ⟨hd.2.get bs,h.shape.app _,?_,h.size,h.defers,h.env,h.lsize,?_,?_,?_,h.inX,?_,?_,h.down,by simp [ME],by simp [ME],by simp,by simp,by simp,by simp⟩
          · refine h.sat.perm (((h.shape.front _).trans ?_).trans (h.shape.front _).symm)
            simp only [List.map_nil,List.append_nil]
            exact hperm.append_right _
          · intro i d v hm hl
            rcases dI hm with hm | ⟨s,hs,rfl,rfl,rfl⟩
            · exact h.val i d v hm hl
            · exact (h.adOk _ (hbs s hs)).2.2
          · intro i o d hi hd hm
            rcases List.mem_append.1 hm with hm | hm
            · obtain ⟨s,hs,rfl⟩:=TZ.1 hm
              obtain ⟨o',ho',hd',_⟩:=(h.asSp s hs).1
              rw [hi] at ho'; cases ho'; rw [hd] at hd'; cases hd'
              exact ⟨_,ZO.2 s hs⟩
            · obtain ⟨v,hv⟩:=h.have_ i o d hi hd hm
              exact ⟨v,ZO.1 _ hv⟩
          · intro i d v hm
            rcases dI hm with hm | ⟨s,hs,rfl,rfl,rfl⟩
            · obtain ⟨g1,g2,g3⟩:=h.dnOk i d v hm
              exact ⟨List.mem_append.2 (.inr g1),(X3 (fun hc=>h.asX i hc g1)).trans g2,g3⟩
            · obtain ⟨o',ho',hd',_⟩:=(h.asSp s hs).1
              exact ⟨List.mem_append.2 (.inl (TZ.2 ⟨s,hs,rfl⟩)),aP h.asNd s hs,o',ho',hd'⟩
          · intro i hi hl
            rcases List.mem_append.1 hi with hi | hi
            · rw [hall i hi] at hl; cases hl
            · exact h.outX i hi hl
          · exact (h.pendL.app (fun ex=>Fw.atoms bs as++ex)).avals h.asNd hdl
        have g:=ih H (by simpa [ME,RK] using hX) hN
        simp only [ME,List.nil_append] at g
        exact g
      · refine ⟨none :: cs,dn,X,pend,as,L,ad,h,hX,hN,fun c hc=>hc,fun c hc=>.inl hc,fun _ h=>h,.inr (.inl ⟨cs,rfl,?_⟩)⟩
        refine Classical.byContradiction fun hne=>hall fun c hc=>?_
        cases hl:listed.getD c false with
        | true=>rfl
        | false=>exact absurd ⟨c,hc,hl⟩ hne
    | some c=>
    have hd:=h.draw
    simp only [DrawD] at hd
    simp only [RK,List.nodup_cons] at hN
    have hcX:c ∉ ME as++X:=hX c (by simp [RK])
    have hnl:listed.getD c false=false:=by cases hl:listed.getD c false with | false=>rfl | true=>exact absurd (h.inX c hl) hcX
    obtain ⟨o,ho,hd | hd | hd⟩:=hd
    · obtain ⟨d,v,hod,hfr,hops,hdr⟩:=hd
      have hcX':c ∉ X:=fun hm=>hcX (List.mem_append.2 (.inr hm))
      have hcdn:∀ d v,(c,d,v) ∉ dn:=fun d v hm=>hcX' (h.dnOk c d v hm).1
      have hdl:∀ i d' v',(i,d',v')∈dn→GQ ((c,d,v) :: dn) i=some (d',v'):=fun i d' v' hm=>by
        have hne:c≠i:=fun e=>by subst e; exact hcdn _ _ hm
        simp only [GQ,iA hne,cond_false]; exact (h.dnOk i d' v' hm).2.1
      suffices H:RI P ops n E Q w0 M I0 listed a w cs ((c,d,v) :: dn) (c :: X) (c :: pend) as I L ad∧(∀ c'∈RK cs,c' ∉ ME as++c :: X) by
        obtain ⟨cs',dn',X',pend',as',L',ad',g1,g2,g3,g4,g5,g7,g6⟩:=ih H.1 H.2 hN.2
        refine ⟨cs',dn',X',pend',as',L',ad',g1,g2,g3,fun c' hc'=>List.mem_cons_of_mem _ (g4 c' hc'),fun c' hc'=>?_,fun i hi=>g7 i ?_,g6⟩
        · rcases g5 c' hc' with h1 | h1
          · simp only [List.mem_append,List.mem_cons,RK] at h1 ⊢
            rcases h1 with h1 | rfl | h1
            · exact .inl (.inl h1)
            · exact .inr (.inl rfl)
            · exact .inl (.inr h1)
          · exact .inr (List.mem_cons_of_mem _ h1)
        · simp only [List.mem_append,List.mem_cons,RK] at hi ⊢
          rcases hi with (h1 | h1) | h1 | h1
          · exact .inl (.inl h1)
          · exact .inl (.inr (.inr h1))
          · exact .inl (.inr (.inl h1))
          · exact .inr h1
      refine ⟨⟨hdr,h.shape,h.sat,h.size,h.defers,h.env,h.lsize,?_,?_,?_,fun i hi=>?_,?_,?_,h.down,?_,h.asNd,?_,h.adOk,h.adAll,h.adNd⟩,fun c' hc'=>?_⟩
      · intro i d' v' hm hl
        cases hm with
        | head=>rw [hnl] at hl; cases hl
        | tail _ hm=>exact h.val i d' v' hm hl
      · intro i o' d' hi hd' hm
        rcases List.mem_cons.1 hm with rfl | hm
        · rw [ho] at hi; cases hi; rw [hod] at hd'; cases hd'; exact ⟨v,by simp⟩
        · obtain ⟨v',hv'⟩:=h.have_ i o' d' hi hd' hm; exact ⟨v',List.mem_cons_of_mem _ hv'⟩
      · intro i d' v' hm
        cases hm with
        | head=>exact ⟨by simp,by simp [GQ],o,ho,hod⟩
        | tail _ hm=>exact ⟨List.mem_cons_of_mem _ (h.dnOk i d' v' hm).1,hdl i d' v' hm,(h.dnOk i d' v' hm).2.2⟩
      · have:=h.inX i hi
        simp only [List.mem_append,List.mem_cons] at this ⊢
        exact this.imp id .inr
      · intro i hi hl
        rcases List.mem_cons.1 hi with rfl | hi
        · simp
        · exact List.mem_cons_of_mem _ (h.outX i hi hl)
      · refine ⟨⟨o,d,v,ho,hod,hfr,by simp [GQ],fun ex a' w' hok hs'=>hops ex a' w' ⟨hok.size,hok.defers,iB hok.env⟩ hs'⟩,h.pendL.push fun x hx=>hcdn _ _ (lS hx)⟩
      · intro c' hc' hm
        rcases List.mem_cons.1 hm with rfl | hm
        · exact hcX (List.mem_append.2 (.inl hc'))
        · exact h.asX c' hc' hm
      · intro s hs
        obtain ⟨g1,g2⟩:=h.asSp s hs
        refine ⟨g1,fun o' ho'=>⟨fun p hp=>List.mem_cons_of_mem _ ((g2 o' ho').1 p hp),?_⟩⟩
        have hnm:KA (EU o') c=false:=by cases hm:KA (EU o') c with | false=>rfl | true=>exact absurd ((g2 o' ho').1 c (DX.1 hm)) hcX'
        simp only [IJ,hnm,cond_false]
        exact (g2 o' ho').2
      · intro hm
        simp only [List.mem_append,List.mem_cons] at hm
        rcases hm with hm | rfl | hm
        · exact hX c' (by simp [RK,hc']) (List.mem_append.2 (.inl hm))
        · exact hN.1 hc'
        · exact hX c' (by simp [RK,hc']) (List.mem_append.2 (.inr hm))
    · obtain ⟨d,val,atom,hod,hfr,hin,hsp,hdr⟩:=hd
      suffices H:RI P ops n E Q w0 M I0 listed a w cs dn X pend (⟨c,d,IJ dn (EU o) E,val,atom⟩ :: as) I L ad∧(∀ c'∈RK cs,c' ∉ ME (⟨c,d,IJ dn (EU o) E,val,atom⟩ :: as)++X) by
        obtain ⟨cs',dn',X',pend',as',L',ad',g1,g2,g3,g4,g5,g7,g6⟩:=ih H.1 H.2 hN.2
        refine ⟨cs',dn',X',pend',as',L',ad',g1,g2,g3,fun c' hc'=>List.mem_cons_of_mem _ (g4 c' hc'),fun c' hc'=>?_,fun i hi=>g7 i ?_,g6⟩
        · rcases g5 c' hc' with h1 | h1
          · simp only [ME,List.cons_append,List.mem_cons,RK] at h1 ⊢
            rcases h1 with rfl | h1
            · exact .inr (.inl rfl)
            · exact .inl h1
          · exact .inr (List.mem_cons_of_mem _ h1)
        · simp only [ME,List.cons_append,List.mem_cons,RK] at hi ⊢
          rcases hi with h1 | h1 | h1
          · exact .inl (.inr h1)
          · exact .inl (.inl h1)
          · exact .inr h1
      refine ⟨⟨hdr,h.shape,h.sat,h.size,h.defers,h.env,h.lsize,h.val,h.have_,h.dnOk,fun i hi=>List.mem_cons_of_mem _ (h.inX i hi),h.outX,h.pendL,h.down,?_,?_,?_,?_,?_,h.adNd⟩,fun c' hc'=>?_⟩
      · intro c' hc'
        rcases List.mem_cons.1 hc' with rfl | hc'
        · exact fun hm=>hcX (List.mem_append.2 (.inr hm))
        · exact h.asX c' hc'
      · exact List.nodup_cons.2 ⟨fun hm=>hcX (List.mem_append.2 (.inl hm)),h.asNd⟩
      · intro s hs
        rcases List.mem_cons.1 hs with rfl | hs
        · exact ⟨hsp,fun o' ho'=>by rw [ho] at ho'; cases ho'; exact ⟨lT hin,rfl,hfr⟩⟩
        · exact h.asSp s hs
      · intro p hp
        exact ⟨List.mem_cons_of_mem _ (h.adOk p hp).1,(h.adOk p hp).2⟩
      · intro s hs hl
        rcases List.mem_cons.1 hs with rfl | hs
        · rw [hnl] at hl; cases hl
        · exact h.adAll s hs hl
      · simp only [ME,List.cons_append,List.mem_cons,not_or]
        exact ⟨fun e=>hN.1 (e▸hc'),hX c' (by simp [RK,hc'])⟩
    · exact ⟨some c :: cs,dn,X,pend,as,L,ad,h,hX,List.nodup_cons.2 hN,fun c hc=>hc,fun c hc=>.inl hc,fun _ h=>h,.inr (.inr ⟨c,cs,o,rfl,ho,hd.1,hd.2.1,hd.2.2⟩)⟩
theorem aQ {X:List Nat}:∀ {k i:Nat},aO X k=true→i<k→i∈X
  | k+1,i,h,hi=>by
    simp only [aO,Bool.and_eq_true] at h
    by_cases e:i=k
    · subst e; exact DX.1 h.1
    · exact aQ h.2 (by omega)
theorem eV {l:List Oper}:∀ (k:Nat),US l k=true→∀ (i:Nat) (o:Oper),l[i]? = some o→∀ j,j<k+i→j∈EU o:=by
  induction l with
  | nil=>intro k _ i o hi; simp at hi
  | cons o' l ih=>
    intro k h i o hi j hj
    simp only [US,Bool.and_eq_true] at h
    cases i with
    | zero=>simp at hi; subst hi; exact aQ h.1 (by simpa using hj)
    | succ i=>exact ih (k+1) h.2 i o (by simpa using hi) j (by omega)
theorem zT {listed:Array Bool} {i:Nat} (hi:i∈Region.ready .any ops listed):i<ops.size∧listed.getD i true=false∧∃ o,ops[i]? = some o∧∀ p∈EU o,listed.getD p false=true:=by
  rw [mem_ready] at hi
  obtain ⟨h1,o,ho,hp⟩:=hi
  refine ⟨(Array.getElem?_eq_some_iff.1 ho).1,h1,o,ho,fun p hpm=>?_⟩
  obtain ⟨e,he,hb,rfl⟩:=Y5.1 hpm
  exact hp e (by simpa using he) hb
theorem AbE {t:Nat} (ht:US (ops.toList.drop t) t=true) (hback:ZN ops.toList 0=true):∀ (fuel k:Nat) {listed:Array Bool} {a:Act} {w:World},t≤k→k≤ops.size→listed.size=ops.size→(∀ i,listed.getD i false=true↔i<k)→ops.size≤fuel+k →
    wpListIn (RJ n) 0 P ops Q (ops.toList.drop k) a w→wpAnyIn (RJ n) 0 P .any ops Q fuel listed a w:=by
  have only:∀ {k:Nat} {listed:Array Bool} {i:Nat},t≤k→listed.size=ops.size→(∀ i,listed.getD i false=true↔i<k)→i∈Region.ready .any ops listed→i=k∧i<ops.size:=by
    intro k listed i htk hsz hl hi
    obtain ⟨h1,h2,o,ho,hp⟩:=zT hi
    refine ⟨?_,h1⟩
    have hik:¬i<k:=fun h=>by
      have:=(hl i).2 h
      have hlt:i<listed.size:=by omega
      simp only [Array.getD_eq_getD_getElem?,Array.getElem?_eq_getElem hlt,Option.getD_some] at this h2
      rw [this] at h2; cases h2
    rcases Nat.lt_or_ge k i with h3 | h3
    · have hm:k∈EU o:=eV t ht (i - t) o (by rw [List.getElem?_drop,show t+(i - t)=i by omega,qN]; exact ho) k (by omega)
      have:=(hl k).1 (hp k hm); omega
    · omega
  intro fuel
  induction fuel with
  | zero=>
    intro k listed a w htk hk hsz hl hf h
    have e:k=ops.size:=by omega
    refine ⟨?_,?_⟩
    · cases hr:Region.ready .any ops listed with
      | nil=>rfl
      | cons i r=>have:=only htk hsz hl (i:=i) (by rw [hr]; simp); omega
    · rw [e,List.drop_of_length_le (by simp)] at h; exact h
  | succ fuel ih=>
    intro k listed a w htk hk hsz hl hf h
    refine ⟨fun hr=>?_,fun i hi=>?_⟩
    · have e:k=ops.size:=by
        rcases Nat.lt_or_ge k ops.size with hlt | hge
        · exfalso
          have:k∈Region.ready .any ops listed:=by
            rw [mem_ready]
            have hlt2:k<listed.size:=by omega
            refine ⟨?_,ops[k],by simp [hlt],fun e he hb=>?_⟩
            · cases hv:listed.getD k true with
              | false=>rfl
              | true=>
                have:listed.getD k false=true:=by
                  simp only [Array.getD_eq_getD_getElem?,Array.getElem?_eq_getElem hlt2,Option.getD_some] at hv ⊢; exact hv
                have:=(hl k).1 this; omega
            · have hm:e.on∈EU ops[k]:=Y5.2 ⟨e,by simpa using he,hb,rfl⟩
              have:=eU 0 hback k ops[k] (by rw [qN]; simp [hlt]) e.on hm
              exact (hl e.on).2 (by omega)
          rw [hr] at this; cases this
        · omega
      rw [e,List.drop_of_length_le (by simp)] at h; exact h
    · obtain ⟨rfl,hlt⟩:=only htk hsz hl hi
      have hd:ops.toList.drop i=ops[i] :: ops.toList.drop (i+1):=by
        rw [List.drop_eq_getElem_cons (by simpa using hlt)]; simp
      rw [hd] at h
      have hi2:ops[i]? = some ops[i]:=by simp [hlt]
      have hset:∀ j,(listed.setIfInBounds i true).getD j false=true↔j<i+1:=fun j=>by
        rw [GR (by omega),hl j]; omega
      have step:∀ a w,wpListIn (RJ n) 0 P ops Q (ops.toList.drop (i+1)) a w→wpAnyIn (RJ n) 0 P .any ops Q fuel (listed.setIfInBounds i true) a w:=fun a w h'=>
        ih (i+1) (by omega) (by omega) (by simpa using hsz) hset (by omega) h'
      simp only [wpOpIn,hi2]
      unfold wpListIn at h
      split
      · rename_i hw
        rw [if_pos hw] at h
        exact Oper.wpIn_mono step h
      · rename_i hw
        rw [if_neg hw] at h
        exact ⟨h.1,step _ _ h.2⟩
theorem Y6 (d:Nat):∀ E:DH,fresh (rmE d E) d=true
  | []=>rfl
  | p :: r=>by
    simp only [rmE]
    cases h:Nat.beq p.1 d with
    | true=>simpa using Y6 d r
    | false=>simp [fresh,h,Y6 d r]
theorem iC {a:Act} (d:Nat):∀ {E:DH},EnvOk E a→EnvOk (rmE d E) a
  | [],_=>trivial
  | p :: r,h=>by
    simp only [rmE]
    cases hb:Nat.beq p.1 d with
    | true=>simpa using iC d h.2
    | false=>exact ⟨h.1,iC d h.2⟩
theorem qO {o:Oper} {d:Nat} (hd:o.dst=some d):fresh (RY o E) d=true:=by
  simp only [RY,hd]
  cases h:fresh E d with
  | true=>exact h
  | false=>exact Y6 d E
theorem AbF {o:Oper} {a:Act} (h:EnvOk E a):EnvOk (RY o E) a:=by
  simp only [RY]
  split
  · exact h
  · rename_i d _
    cases hb:fresh E d with
    | true=>exact h
    | false=>exact iC d h
theorem zU {t:Nat} (hdst:ZM n (ops.toList.take t) []=true) (hback:ZN ops.toList 0=true) (htail:US (ops.toList.drop t) t=true) (ht:t≤ops.size):∀ (fuel:Nat) {E:DH} {listed:Array Bool} {a:Act} {w:World} {cs:List (Option Nat)} {dn:HE} {X pend:List Nat} {as:List AS} {I:IH} {L:Sh} {ad:List (AS×Nat)},
    RI P ops n E Q w0 M I0 listed a w cs dn X pend as I L ad→(∀ c∈RK cs,c ∉ ME as++X)→(RK cs).Nodup→(∀ c∈RK cs,c<t)→(∀ c∈ME as++X,c<t)→(∀ i,i<t→i∈ME as++X∨i∈RK cs)→ops.size≤fuel+(listed.toList.filter id).length→wpAnyIn (RJ n) 0 P .any ops Q fuel listed a w:=by
  -- all of the first t have come: the tail
  have fin:∀ {fuel:Nat} {E:DH} {listed:Array Bool} {a:Act} {w:World} {cs:List (Option Nat)} {dn:HE} {X pend:List Nat} {as:List AS} {I:IH} {L:Sh} {ad:List (AS×Nat)},RI P ops n E Q w0 M I0 listed a w cs dn X pend as I L ad→(∀ c∈RK cs,c ∉ ME as++X)→(RK cs).Nodup→(∀ c∈RK cs,c<t)→(∀ c∈ME as++X,c<t) →
      (∀ i,i<t→listed.getD i false=true)→ops.size≤fuel+t→wpAnyIn (RJ n) 0 P .any ops Q fuel listed a w:=by
    intro fuel E listed a w cs dn X pend as I L ad h hX hN hct hXt hall hf
    obtain ⟨cs',dn',X',pend',as',L',ad',h',hX',hN',hsub,hXs,_,hcs⟩:=h.norm hX hN
    have hXt':∀ c∈ME as'++X',c<t:=fun c hc=>(hXs c hc).elim (hXt c) (hct c)
    rcases hcs with rfl | ⟨r,rfl,c,hc,hl⟩ | ⟨c,r,o,rfl,ho,_⟩
    · have hd:=h'.draw
      simp only [DrawD] at hd
      obtain ⟨rfl,t',hc',hlt',_,hops⟩:=hd
      have had:ad'=[]:=by
        cases ad' with
        | nil=>rfl
        | cons p r=>have:=(h'.adOk p (by simp)).1; cases this
      subst had
      simp only [ME,List.nil_append] at hXt'
      have hinX:∀ i,listed.getD i false=true→i∈X':=fun i hi=>by simpa [ME] using h'.inX i hi
      have e:t'=t:=by
        rcases Nat.lt_trichotomy t' t with h1 | h1 | h1
        · have:=hlt' t' (hinX t' (hall t' h1)); omega
        · exact h1
        · have:=hXt' t (W0 hc' h1); omega
      subst e
      refine AbE htail hback fuel t' (Nat.le_refl _) ht h'.lsize (fun i=>⟨fun hi=>hXt' i (hinX i hi),hall i⟩) hf (hops a w ⟨h'.size,h'.defers,xK h'.env fun i d v hm=>?_⟩ h'.sat)
      exact h'.val i d v hm (hall i (hXt' i (h'.dnOk i d v hm).1))
    · rw [hall c (hXt' c (List.mem_append.2 (.inl hc)))] at hl; cases hl
    · have:=hall c (hct c (hsub c (by simp [RK])))
      exact absurd (h'.inX c this) (hX' c (by simp [RK]))
  -- something is always left to do, where one of the first t has not come
  have some':∀ {listed:Array Bool},listed.size=ops.size→Region.ready .any ops listed=[]→∀ i,i<ops.size→listed.getD i false=true:=by
    intro listed hsz hr i
    induction i using Nat.strongRecOn with
    | _ i ih=>
      intro hi
      cases hl:listed.getD i false with
      | true=>rfl
      | false=>
        exfalso
        obtain ⟨o,ho⟩:∃ o,ops[i]? = some o:=⟨ops[i],by simp [hi]⟩
        have:i∈Region.ready .any ops listed:=by
          rw [mem_ready]
          refine ⟨?_,o,ho,fun e he hb=>?_⟩
          · have hlt:i<listed.size:=by rw [hsz]; exact hi
            simp only [Array.getD_eq_getD_getElem?,Array.getElem?_eq_getElem hlt,Option.getD_some] at hl ⊢; exact hl
          · have hm:e.on∈EU o:=Y5.2 ⟨e,by simpa using he,hb,rfl⟩
            have:=eU 0 hback i o (by rw [qN]; exact ho) e.on hm
            exact ih e.on (by omega) (by omega)
        rw [hr] at this; cases this
  have cnt:∀ {listed:Array Bool},(∀ i,listed.getD i false=true↔i<t)→listed.size=ops.size→(listed.toList.filter id).length=t:=by
    intro listed hl hsz
    have ht':=ht
    have e:listed.toList=List.replicate t true++List.replicate (ops.size - t) false:=by
      apply List.ext_getElem?
      intro i
      by_cases hi:i<ops.size
      · have hlt:i<listed.size:=by omega
        have hv:=hl i
        simp only [Array.getD_eq_getD_getElem?,Array.getElem?_eq_getElem hlt,Option.getD_some] at hv
        rw [show listed.toList[i]? = some listed[i] by simp [hlt]]
        by_cases h1:i<t
        · rw [List.getElem?_append_left (by simpa using h1)]; simp [h1,hv.2 h1]
        · rw [List.getElem?_append_right (by simpa using Nat.le_of_not_lt h1)]
          have:listed[i]=false:=by cases hb:listed[i] with | false=>rfl | true=>exact absurd (hv.1 hb) h1
          rw [this,List.length_replicate,List.getElem?_replicate,if_pos (by omega)]
      · rw [List.getElem?_eq_none (by simp; omega),List.getElem?_eq_none (by simp; omega)]
    rw [e]; simp
  intro fuel
  induction fuel with
  | zero=>
    intro E listed a w cs dn X pend as I L ad h hX hN hct hXt hcov hf
    have hall:∀ i,i<ops.size→listed.getD i false=true:=by
      intro i hi
      have hlen:(listed.toList.filter id).length=listed.toList.length:=by
        have h1:=List.length_filter_le id listed.toList
        have h2:=h.lsize
        simp only [Array.length_toList] at h1 ⊢
        omega
      have:=List.length_filter_eq_length_iff.1 hlen
      have hlt:i<listed.size:=by rw [h.lsize]; exact hi
      have hx:=this listed[i] (by simp)
      simpa [Array.getD_eq_getD_getElem?,Array.getElem?_eq_getElem hlt] using hx
    have e:t=ops.size:=by
      rcases Nat.lt_or_ge t ops.size with h1 | h1
      · have:=hXt t (h.inX t (hall t h1)); omega
      · omega
    exact fin h hX hN hct hXt (fun i hi=>hall i (by omega)) (by omega)
  | succ fuel ih=>
    intro E listed a w cs dn X pend as I L ad h hX hN hct hXt hcov hf
    by_cases hall:∀ i,i<t→listed.getD i false=true
    · have hiff:∀ i,listed.getD i false=true↔i<t:=fun i=>⟨fun hi=>hXt i (h.inX i hi),hall i⟩
      have:=cnt hiff h.lsize
      exact fin h hX hN hct hXt hall (by omega)
    refine ⟨fun hr=>absurd (fun i hi=>some' h.lsize hr i (by omega)) hall,fun i hi=>?_⟩
    rw [mem_ready] at hi
    obtain ⟨hil,o,ho,hpre⟩:=hi
    have hi:=(Array.getElem?_eq_some_iff.1 ho).1
    have hilt:i<listed.size:=by rw [h.lsize]; exact hi
    have hil':listed.getD i false=false:=by
      simp only [Array.getD_eq_getD_getElem?,Array.getElem?_eq_getElem hilt,Option.getD_some] at hil ⊢; exact hil
    have hpre':∀ p∈EU o,listed.getD p false=true:=fun p hp=>by
      obtain ⟨e,he,hb,rfl⟩:=Y5.1 hp
      exact hpre e (by simpa using he) hb
    have hit:i<t:=by
      rcases Nat.lt_or_ge i t with h1 | h1
      · exact h1
      · exact absurd (fun j hj=>hpre' j (eV t htail (i - t) o (by rw [List.getElem?_drop,show t+(i - t)=i by omega,qN]; exact ho) j (by omega))) hall
    have hcount:ops.size≤fuel+((listed.setIfInBounds i true).toList.filter id).length:=by
      have:((listed.setIfInBounds i true).toList.filter id).length=(listed.toList.filter id).length+1:=by
        rw [Array.toList_setIfInBounds]
        have hb:listed.toList[i]? = some false:=by
          simp only [Array.getD_eq_getD_getElem?,Array.getElem?_eq_getElem hilt,Option.getD_some] at hil'
          simp [hilt,hil']
        have key:∀ (l:List Bool) (i:Nat),l[i]? = some false→((l.set i true).filter id).length=(l.filter id).length+1:=by
          intro l
          induction l with
          | nil=>intro i h; simp at h
          | cons b l ihl=>
            intro i h
            cases i with
            | zero=>simp at h; subst h; simp
            | succ i=>
              have:=ihl i (by simpa using h)
              simp only [List.set_cons_succ,List.filter_cons]
              split <;> simp [this]
        exact key _ i hb
      omega
    obtain ⟨cs',dn',X',pend',as',L',ad',h',hX',hN',hsub,hXs,hcov',hcs⟩:=h.norm hX hN
    have hXt':∀ c∈ME as'++X',c<t:=fun c hc=>(hXs c hc).elim (hXt c) (hct c)
    have hct':∀ c∈RK cs',c<t:=fun c hc=>hct c (hsub c hc)
    have hcv:∀ i,i<t→i∈ME as'++X'∨i∈RK cs':=fun i hi=>hcov' i (hcov i hi)
    clear h hX hN
    have hdo:∀ d,o.dst=some d→Nat.blt d n.sz=true∧∀ j o',j<t→ops[j]? = some o'→o'.dst=some d→j=i:=fun d hd=>by
      obtain ⟨g1,_,g4⟩:=qM [] hdst i o d (by rw [List.getElem?_take,if_pos hit,qN]; exact ho) hd
      exact ⟨g1,fun j o' hjt hj=>g4 j o' (by rw [List.getElem?_take,if_pos hjt,qN]; exact hj)⟩
    have hother:∀ {a':Act} {v:Value} {j d':Nat} {v':Value} {o':Oper},a'=a.put o.dst v→j<t→j≠i→ops[j]? = some o'→o'.dst=some d'→a.tmps[d']? = some v'→a'.tmps[d']? = some v':=by
      intro a' v j d' v' o' ha' hjt hne ho' hd' hv
      subst ha'
      cases hd:o.dst with
      | none=>exact hv
      | some d=>
        have hdd:¬d=d':=fun e=>by subst e; exact hne ((hdo d hd).2 j o' hjt ho' hd')
        simp only [Act.put,Array.getElem?_setIfInBounds,if_neg hdd]
        exact hv
    have hput:∀ {a':Act} {v:Value},a'=a.put o.dst v→a'.tmps.size=n.sz∧(∀ E2:DH,(∀ d,o.dst=some d→fresh E2 d=true)→EnvOk E2 a→EnvOk E2 a')∧(∀ j d' v',(j,d',v')∈dn'→j≠i→listed.getD j false=true→a'.tmps[d']? = some v') ∧
        (∀ p∈ad',p.1.i≠i→a'.tmps[p.1.d]? = some (p.1.val p.2)):=by
      intro a' v ha'
      refine ⟨?_,fun E2 hfr hE=>?_,fun j d' v' hm hne hl=>?_,fun p hp hne=>?_⟩
      · subst ha'; cases hd:o.dst <;> simp [Act.put,h'.size]
      · subst ha'
        cases hd:o.dst with
        | none=>exact hE
        | some d=>exact hE.put (hfr d hd) v
      · obtain ⟨g1,_,o',ho',hd'⟩:=h'.dnOk j d' v' hm
        exact hother ha' (hXt' j (List.mem_append.2 (.inr g1))) hne ho' hd' (h'.val j d' v' hm hl)
      · obtain ⟨g1,g2,g3⟩:=h'.adOk p hp
        obtain ⟨o',ho',hd',_⟩:=(h'.asSp _ g1).1
        exact hother ha' (hXt' _ (List.mem_append.2 (.inl (TZ.2 ⟨_,g1,rfl⟩)))) hne ho' hd' g3
    have hselE:∀ {js:List Nat},(∀ p∈js,listed.getD p false=true)→Ok n (IJ dn' js E) a:=fun hj=>⟨h'.size,h'.defers,xJ h'.env fun j d v hm hjm=>h'.val j d v hm (hj j hjm)⟩
    have hsel:Ok n (IJ dn' (EU o) E) a:=hselE hpre'
    have hdown:∀ j o',(listed.setIfInBounds i true).getD j false=true→ops[j]? = some o'→∀ p∈EU o',(listed.setIfInBounds i true).getD p false=true:=by
      intro j o' hj ho' p hp
      rw [GR hilt] at hj ⊢
      rcases hj with rfl | hj
      · rw [ho] at ho'; cases ho'; exact .inr (hpre' p hp)
      · exact .inr (h'.down j o' hj ho' p hp)
    have hadI:∀ p∈ad',p.1.i≠i:=fun p hp e=>by
      have:=(h'.adOk p hp).2.1
      rw [e,hil'] at this; cases this
    have hadl:∀ {a':Act} {v:Value},a'=a.put o.dst v→∀ p∈ad',p.1∈as'∧(listed.setIfInBounds i true).getD p.1.i false=true∧a'.tmps[p.1.d]? = some (p.1.val p.2):=fun ha' p hp=>
      ⟨(h'.adOk p hp).1,(GR hilt).2 (.inr (h'.adOk p hp).2.1),(hput ha').2.2.2 p hp (hadI p hp)⟩
    by_cases hiX:i∈X'
    · -- a step that was shown already
      have hip:=h'.outX i hiX hil'
      obtain ⟨o2,d,v,h1,h2,hfr,h3,h4⟩:=h'.pendL.get i hip
      rw [ho] at h1; cases h1
      refine gZ h'.defers ho (fun e a w hq=>⟨hq.1,hq.2.1⟩) (h4 _ a w hsel h'.sat) fun a' w' hfin hp=>?_
      obtain ⟨v',hv'⟩:=hp
      obtain ⟨g1,g2,g3,_⟩:=hput hv'
      refine ih ⟨h'.draw,h'.shape,hfin.2.2.2,g1,hfin.2.1,g2 _ (fun d2 hd2=>by rw [h2] at hd2; cases hd2; exact hfr) h'.env,by simpa using h'.lsize,?_,h'.have_,h'.dnOk,?_,?_,h'.pendL,hdown,h'.asX,h'.asNd,h'.asSp,hadl hv',?_,h'.adNd⟩ hX' hN' hct' hXt' hcv hcount
      · intro j d' v2 hm hl
        by_cases e:j=i
        · subst e
          have hd2:=(h'.dnOk j d' v2 hm).2.1
          rw [h3] at hd2
          cases hd2
          exact hfin.2.2.1
        · exact g3 j d' v2 hm e (((GR hilt).1 hl).resolve_left e)
      · intro j hj
        rcases (GR hilt).1 hj with rfl | hj
        · exact List.mem_append.2 (.inr hiX)
        · exact h'.inX j hj
      · intro j hj hl
        refine h'.outX j hj ?_
        cases hl':listed.getD j false with
        | false=>rfl
        | true=>rw [(GR hilt).2 (.inr hl')] at hl; cases hl
      · intro s hs hl
        rcases (GR hilt).1 hl with e | hl
        · exact absurd hiX (h'.asX i (TZ.2 ⟨s,hs,e⟩))
        · exact h'.adAll s hs hl
    · by_cases hia:i∈ME as'
      · -- a step that makes a block
        obtain ⟨s,hs,rfl⟩:=TZ.1 hia
        obtain ⟨⟨o2,ho2,hd2,hsp⟩,hen⟩:=h'.asSp s hs
        rw [ho] at ho2; cases ho2
        obtain ⟨hhX,hse,hfr⟩:=hen o ho
        refine gZ h'.defers ho (fun e a w hq=>⟨hq.1,hq.2.1⟩) (hsp _ _ h'.shape _ a w (by rw [←hse]; exact hsel) h'.sat) fun a' w' hfin hp=>?_
        obtain ⟨v',hv'⟩:=hp
        obtain ⟨g1,g2,g3,_⟩:=hput hv'
        obtain ⟨_,hdf,b,hb,hsy⟩:=hfin
        refine ih (ad:=(s,b) :: ad') ⟨h'.draw,h'.shape,hsy,g1,hdf,g2 _ (fun d3 hd3=>by rw [hd2] at hd3; cases hd3; exact hfr) h'.env,by simpa using h'.lsize,?_,h'.have_,h'.dnOk,?_,?_,h'.pendL,hdown,h'.asX,h'.asNd,h'.asSp,?_,?_,?_⟩ hX' hN' hct' hXt' hcv hcount
        · intro j d' v2 hm hl
          have hne:j≠s.i:=fun e=>hiX (e▸(h'.dnOk j d' v2 hm).1)
          exact g3 j d' v2 hm hne (((GR hilt).1 hl).resolve_left hne)
        · intro j hj
          rcases (GR hilt).1 hj with rfl | hj
          · exact List.mem_append.2 (.inl hia)
          · exact h'.inX j hj
        · intro j hj hl
          refine h'.outX j hj ?_
          cases hl':listed.getD j false with
          | false=>rfl
          | true=>rw [(GR hilt).2 (.inr hl')] at hl; cases hl
        · intro p hp
          rcases List.mem_cons.1 hp with rfl | hp
          · exact ⟨hs,(GR hilt).2 (.inl rfl),hb⟩
          · exact hadl hv' p hp
        · intro s' hs' hl
          rcases (GR hilt).1 hl with e | hl
          · have hnd:=h'.asNd
            rw [gJ] at hnd
            rw [OV hnd hs' hs e]
            exact ⟨b,by simp⟩
          · obtain ⟨b',hb'⟩:=h'.adAll s' hs' hl
            exact ⟨b',List.mem_cons_of_mem _ hb'⟩
        · simp only [List.map_cons,List.nodup_cons,List.mem_map,not_exists,not_and]
          exact ⟨fun p hp=>hadI p hp,h'.adNd⟩
      have hi2:i ∉ ME as'++X':=fun hm=>(List.mem_append.1 hm).elim hia hiX
      -- the next step that turns memory
      rcases hcs with rfl | ⟨r,rfl,c,hc,hl⟩ | ⟨c,r,o2,rfl,ho2,hbl,hasE,p',hpo,hops⟩
      · exact absurd ((hcv i hit).resolve_right (by simp [RK])) hi2
      · have hd:=h'.draw
        simp only [DrawD] at hd
        rcases uY 0 hd.1 i o (by rw [qN]; exact ho) with hb | hb | hb
        · exact absurd (by simpa using hb) hi2
        · exact absurd (fun p hp=>h'.inX p (hpre' p hp)) hb
        · rw [hpre' c (hb c hc)] at hl; cases hl
      · have hic:i=c:=by
          rcases nS 0 hbl i o (by rw [qN]; exact ho) with hb | hb | hb
          · exact absurd (by simpa using hb) hi2
          · simpa using hb
          · exact absurd (fun p hp=>h'.inX p (hpre' p hp)) hb
        subst hic
        rw [ho] at ho2; cases ho2
        refine gZ h'.defers ho (fun e a w hq=>⟨hq.1,hq.2.1⟩) (hops _ a w hsel h'.sat) fun a' w' hfin hp=>?_
        obtain ⟨v',hv'⟩:=hp
        obtain ⟨g1,g2,g3,_⟩:=hput hv'
        obtain ⟨_,hdf,I2,L2,dn'',hdp,hsh,hS',hpl,hdr⟩:=hfin
        simp only [RK,List.nodup_cons] at hN'
        have hnot:∀ d v,(i,d,v) ∉ dn':=fun d v hm=>hiX (h'.dnOk i d v hm).1
        have hsub:∀ j d v,(j,d,v)∈dn''→(j,d,v)∈dn'∨(j=i∧o.dst=some d∧a'.tmps[d]? = some v):=by
          intro j d v hm
          unfold Z3 at hdp
          cases hod:o.dst with
          | none=>rw [hod] at hdp; subst hdp; exact .inl hm
          | some d2=>
            rw [hod] at hdp
            obtain ⟨v2,hv2,rfl⟩:=hdp
            cases hm with
            | head=>exact .inr ⟨rfl,rfl,hv2⟩
            | tail _ hm=>exact .inl hm
        have hsup:∀ j d v,(j,d,v)∈dn'→(j,d,v)∈dn''∧GQ dn'' j=GQ dn' j:=by
          intro j d v hm
          have hji:j≠i:=fun e=>by subst e; exact hnot _ _ hm
          unfold Z3 at hdp
          cases hod:o.dst with
          | none=>rw [hod] at hdp; subst hdp; exact ⟨hm,rfl⟩
          | some d2=>
            rw [hod] at hdp
            obtain ⟨v2,hv2,rfl⟩:=hdp
            exact ⟨List.mem_cons_of_mem _ hm,by simp only [GQ,iA (Ne.symm hji),cond_false]⟩
        have hselS:∀ {js:List Nat},i ∉ js→IJ dn'' js E=IJ dn' js E:=by
          intro js hj
          unfold Z3 at hdp
          cases hod:o.dst with
          | none=>rw [hod] at hdp; subst hdp; rfl
          | some d2=>
            rw [hod] at hdp
            obtain ⟨v2,hv2,rfl⟩:=hdp
            have hnm:KA js i=false:=by cases hm:KA js i with | false=>rfl | true=>exact absurd (DX.1 hm) hj
            simp only [IJ,hnm,cond_false]
        refine ih ⟨hdr,hsh,hS',g1,hdf,g2 _ (fun d3 hd3=>qO hd3) (AbF h'.env),by simpa using h'.lsize,?_,?_,?_,?_,?_,hpl,hdown,?_,h'.asNd,?_,hadl hv',?_,h'.adNd⟩ (fun c' hc' hm=>?_) hN'.2 (fun c hc=>hct' c (List.mem_cons_of_mem _ hc)) (fun c hc=>?_) (fun j hj=>?_) hcount
        · intro j d v hm hl
          rcases hsub j d v hm with hm | ⟨rfl,_,hv⟩
          · have hji:j≠i:=fun e=>by subst e; exact hnot _ _ hm
            exact g3 j d v hm hji (((GR hilt).1 hl).resolve_left hji)
          · exact hv
        · intro j o2 d hj hd hm
          rcases List.mem_cons.1 hm with rfl | hm
          · rw [ho] at hj; cases hj
            unfold Z3 at hdp
            rw [hd] at hdp
            obtain ⟨v2,_,rfl⟩:=hdp
            exact ⟨v2,by simp⟩
          · obtain ⟨v,hv⟩:=h'.have_ j o2 d hj hd hm
            exact ⟨v,(hsup j d v hv).1⟩
        · intro j d v hm
          rcases hsub j d v hm with hm' | ⟨rfl,hd,hv⟩
          · exact ⟨List.mem_cons_of_mem _ (h'.dnOk j d v hm').1,(hsup j d v hm').2.trans (h'.dnOk j d v hm').2.1,(h'.dnOk j d v hm').2.2⟩
          · refine ⟨by simp,?_,o,ho,hd⟩
            unfold Z3 at hdp
            rw [hd] at hdp
            obtain ⟨v2,hv2,rfl⟩:=hdp
            rw [hv] at hv2; cases hv2
            simp [GQ]
        · intro j hj
          simp only [List.mem_append,List.mem_cons]
          rcases (GR hilt).1 hj with rfl | hj
          · exact .inr (.inl rfl)
          · exact (List.mem_append.1 (h'.inX j hj)).imp id .inr
        · intro j hj hl
          have hjl:listed.getD j false=false:=by
            cases hl':listed.getD j false with
            | false=>rfl
            | true=>rw [(GR hilt).2 (.inr hl')] at hl; cases hl
          rcases List.mem_cons.1 hj with rfl | hj
          · rw [(GR hilt).2 (.inl rfl)] at hl; cases hl
          · rcases hpo j (h'.outX j hj hjl) with h1 | ⟨k,h1⟩
            · exact h1
            · rw [uX h'.down k j i o ho hpre' h1] at hjl; cases hjl
        · intro c hc hm
          rcases List.mem_cons.1 hm with rfl | hm
          · exact hia hc
          · exact h'.asX c hc hm
        · intro s hs
          obtain ⟨q1,q2⟩:=h'.asSp s hs
          have hEE:RY o E=E:=hasE.resolve_left fun e=>by subst e; cases hs
          refine ⟨q1,fun o' ho'=>⟨fun p hp=>List.mem_cons_of_mem _ ((q2 o' ho').1 p hp),?_⟩⟩
          rw [hEE,hselS fun hm=>hiX ((q2 o' ho').1 i hm)]
          exact (q2 o' ho').2
        · intro s hs hl
          rcases (GR hilt).1 hl with e | hl
          · exact absurd (TZ.2 ⟨s,hs,e⟩) hia
          · exact h'.adAll s hs hl
        · simp only [List.mem_append,List.mem_cons] at hm
          rcases hm with hm | rfl | hm
          · exact hX' c' (by simp [RK,hc']) (List.mem_append.2 (.inl hm))
          · exact hN'.1 hc'
          · exact hX' c' (by simp [RK,hc']) (List.mem_append.2 (.inr hm))
        · simp only [List.mem_append,List.mem_cons] at hc
          rcases hc with hc | rfl | hc
          · exact hXt' c (List.mem_append.2 (.inl hc))
          · exact hit
          · exact hXt' c (List.mem_append.2 (.inr hc))
        · have:=hcv j hj
          simp only [List.mem_append,List.mem_cons,RK] at this ⊢
          rcases this with (h1 | h1) | rfl | h1
          · exact .inl (.inl h1)
          · exact .inl (.inr (.inr h1))
          · exact .inl (.inr (.inl rfl))
          · exact .inr h1
def iD:List Nat→Bool
  | []=>true
  | x :: l=>!KA l x && iD l
theorem eW:∀ {l:List Nat},iD l=true→l.Nodup
  | [],_=>.nil
  | x :: l,h=>by
    simp only [iD,Bool.and_eq_true,Bool.not_eq_true'] at h
    exact List.nodup_cons.2 ⟨hG h.1,eW h.2⟩
theorem Cod.draw {id:Nat} {l:List Oper} {I:IH} {l0:List HA} (cs:List (Option Nat)) (t:Nat) (hm:P.follows .mixedOrders=true) (h1:ZM n (l.take t) []=true) (h2:ZN l 0=true)
    (h3:US (l.drop t) t=true) (h4:iD (RK cs)=true) (h5:Nat.ble t l.length=true) (h6:(RK cs).all (Nat.blt · t)=true) (h7:PF (RK cs) t=true) (L:Sh) (hL:∀ X ex,Del (L (X :: ex)) X (L ex)) (he:l0=L [])
    (h:DrawD P l.toArray n Q w0 M I0 E cs [] [] [] [] I L):Cod P (.region id l.toArray true) n E (Sym w0 M I0 I l0) Q:=by
  intro a w ho hs
  refine wpIn_region_any hm (zU (t:=t) (by simpa using h1) (by simpa using h2) (by simpa using h3) (by simpa using h5) _ (cs:=cs) (dn:=[]) (X:=[]) (pend:=[]) (as:=[]) (I:=I) (L:=L) (ad:=[])
    ⟨h,fun X ex=>(hL X ex).perm,by rw [he] at hs; exact hs.drew _ (Nat.le_succ _),ho.size,ho.defers,ho.env,by simp,by simp,by simp,by simp,?_,by simp,trivial,?_,by simp [ME],by simp [ME],by simp,by simp,by simp,by simp⟩ (by simp [ME]) (eW h4) (fun c hc=>by have:=List.all_eq_true.1 h6 c hc; simpa [Nat.blt_eq] using this) (by simp [ME]) (fun i hi=>.inr (W0 h7 hi)) (by simp))
  · intro i hi
    simp only [Array.getD_eq_getD_getElem?,Array.getElem?_replicate] at hi
    split at hi <;> simp at hi
  · intro i o hi
    simp only [Array.getD_eq_getD_getElem?,Array.getElem?_replicate] at hi
    split at hi <;> simp at hi
section
variable {cs:List (Option Nat)} {c d:Nat} {dn:HE} {X pend:List Nat} {as:List AS} {I:IH} {L:Sh} {o:Oper} {v:Value}
theorem DrawD.f (js:List Nat) (ho:ops[c]? = some o) (hj:EU o=js) (hd:o.dst=some d) (hfr:fresh E d=true)
    (h:∀ ex,Ops P ops [o] n (IJ dn js E) (Sym w0 M I0 I (L ex)) (Fin n (Sym w0 M I0 I (L ex)) d v)) (k:DrawD P ops n Q w0 M I0 E cs ((c,d,v) :: dn) (c :: X) (c :: pend) as I L):DrawD P ops n Q w0 M I0 E (some c :: cs) dn X pend as I L:=
  ⟨o,ho,.inl ⟨d,v,hd,hfr,by rw [hj]; exact h,k⟩⟩
theorem Fin.mk {S:World→Prop} {d:Nat} {v:Value} {E:DH}:Ops P ops [] n ((d,v) :: E) S (Fin n S d v):=fun _ _ ho hs=>⟨rfl,ho.defers,ho.env.1,hs⟩
def APost (n:FrK) (w0:World) (M:Nat→Prop) (I0 I:IH) (d:Nat) (val:Nat→Value) (atom:Nat→HA) (L:Sh) (ex:List HA):Exit→Act→World→Prop:=fun e a w=>e=.normal∧a.defers=n.defs∧∃ b,a.tmps[d]? = some (val b)∧Sym w0 M I0 I (L (atom b :: ex)) w
theorem APost.mk {val:Nat→Value} {atom:Nat→HA} {ex:List HA} (hL:ShOk L) (b:Nat) {E':DH}:Ops P ops [] n ((d,val b) :: E') (Sym w0 M I0 I (atom b :: L ex)) (APost n w0 M I0 I d val atom L ex):=
  fun _ _ ho hs=>⟨rfl,ho.defers,b,ho.env.1,hs.perm (hL _ _).symm⟩
theorem DrawD.a (val:Nat→Value) (atom:Nat→HA) (ho:ops[c]? = some o) (hd:o.dst=some d) (hfr:fresh E d=true) (hi:qK X (EU o)=true)
    (h:∀ (I:IH) (L:Sh),ShOk L→∀ ex,Ops P ops [o] n (IJ dn (EU o) E) (Sym w0 M I0 I (L ex)) (APost n w0 M I0 I d val atom L ex))
    (k:DrawD P ops n Q w0 M I0 E cs dn X pend (⟨c,d,IJ dn (EU o) E,val,atom⟩ :: as) I L):DrawD P ops n Q w0 M I0 E (some c :: cs) dn X pend as I L:=
  ⟨o,ho,.inr (.inl ⟨d,val,atom,hd,hfr,hi,⟨o,ho,hd,h⟩,k⟩)⟩
theorem DrawD.b (hb:qJ (ME as) X ops.toList 0=true) (k:barD as dn L fun dn' L'=>DrawD P ops n Q w0 M I0 E cs dn' (ME as++X) pend [] I L'):DrawD P ops n Q w0 M I0 E (none :: cs) dn X pend as I L:=⟨hb,k⟩
theorem DrawD.nop (h:DrawD P ops n Q w0 M I0 E cs dn X pend as I L):DrawD P ops n Q w0 M I0 E cs dn X pend as I L:=h
def WPost (P:Program) (ops:Array Oper) (n:FrK) (E:DH) (Q:Exit→Act→World→Prop) (w0:World) (M:Nat→Prop) (I0:IH) (o:Oper) (c:Nat) (cs:List (Option Nat)) (dn:HE) (X pend':List Nat) (as:List AS) (ex:List HA):Exit→Act→World→Prop:=
  fun e a w=>e=.normal∧a.defers=n.defs∧∃ I' L' dn',Z3 o c dn a dn'∧ShOk L'∧Sym w0 M I0 I' (L' ex) w∧PendL P ops n E dn' (fun ex=>Sym w0 M I0 I' (L' ex)) pend'∧DrawD P ops n Q w0 M I0 E cs dn' (c :: X) pend' as I' L'
theorem DrawD.w {E2:DH} (pend':List Nat) (ps:List (List Nat)) (js:List Nat) (ho:ops[c]? = some o) (hj:EU o=js) (hb:VZ ops.toList (ME as++X) c 0=true) (hp:X2 ops c pend' ps pend=true) (hE:RY o E=E2) (hasE:as=[]∨RY o E=E)
    (h:∀ ex,Ops P ops [o] n (IJ dn js E) (Sym w0 M I0 I (L ex)) (WPost P ops n E2 Q w0 M I0 o c cs dn X pend' as ex)):DrawD P ops n Q w0 M I0 E (some c :: cs) dn X pend as I L:=
  ⟨o,ho,.inr (.inr ⟨hb,hasE,pend',UT hp,by rw [hj,hE]; exact h⟩)⟩
theorem WPost.some {pend':List Nat} {E':DH} {ex:List HA} {l0:List HA} (L:Sh) (he:l0=L ex) (hL:∀ X ex,Del (L (X :: ex)) X (L ex)) (hd:o.dst=some d) (hp:PendL P ops n E ((c,d,v) :: dn) (fun ex=>Sym w0 M I0 I (L ex)) pend')
    (k:DrawD P ops n Q w0 M I0 E cs ((c,d,v) :: dn) (c :: X) pend' as I L):Ops P ops [] n ((d,v) :: E') (Sym w0 M I0 I l0) (WPost P ops n E Q w0 M I0 o c cs dn X pend' as ex):=
  fun a w ho hs=>⟨rfl,ho.defers,I,L,_,by unfold Z3; rw [hd]; exact ⟨v,ho.env.1,rfl⟩,fun X ex=>(hL X ex).perm,by rw [he] at hs; exact hs,hp,k⟩
theorem WPost.none {pend':List Nat} {E':DH} {ex:List HA} {l0:List HA} (L:Sh) (he:l0=L ex) (hL:∀ X ex,Del (L (X :: ex)) X (L ex)) (hd:o.dst=none) (hp:PendL P ops n E dn (fun ex=>Sym w0 M I0 I (L ex)) pend')
    (k:DrawD P ops n Q w0 M I0 E cs dn (c :: X) pend' as I L):Ops P ops [] n E' (Sym w0 M I0 I l0) (WPost P ops n E Q w0 M I0 o c cs dn X pend' as ex):=
  fun a w ho hs=>⟨rfl,ho.defers,I,L,_,by unfold Z3; rw [hd],fun X ex=>(hL X ex).perm,by rw [he] at hs; exact hs,hp,k⟩
theorem DrawD.e (t:Nat) (hc:PF X t=true) (hx:X.all (Nat.blt · t)=true) (ht:US (ops.toList.drop t) t=true) (k:Ops P ops (ops.toList.drop t) n (AbD dn E) (Sym w0 M I0 I (L [])) Q):DrawD P ops n Q w0 M I0 E [] dn X pend [] I L:=
  ⟨rfl,t,hc,fun x hxm=>by have:=List.all_eq_true.1 hx x hxm; simpa [Nat.blt_eq] using this,ht,k⟩
theorem PendL.cc {S:List HA→World→Prop} {f:Nat} {fs:List Nat} (js:List Nat) (ho:ops[f]? = some o) (hj:EU o=js) (hd:o.dst=some d) (hfr:fresh E d=true) (hl:GQ dn f=some (d,v)) (h:∀ ex,Ops P ops [o] n (IJ dn js E) (S ex) (Fin n (S ex) d v))
    (k:PendL P ops n E dn S fs):PendL P ops n E dn S (f :: fs):=⟨⟨o,d,v,ho,hd,hfr,hl,by rw [hj]; exact h⟩,k⟩
end
end Go.Fw
