/- The engine, part X: values by reckoning, drawn regions in short. -/
import Derived.Test.YtbohadngdkjljaaGreatFwZ
namespace Go.Fw
open Go Go.RowKit
variable {w0 w:World} {M:Nat→Prop} {I0 I:IH} {m m':List HA}
variable {P:Program} {n:FrK} {E:DY} {S:World→Prop} {Q:Exit→Act→World→Prop} {ops:Array Oper} {l:List Oper}
variable {d ty:Nat} {pos:String} {af:Array Edge}
/-! ### Values by reckoning -/
def AdC (P:Program) (T i o:Nat):Prop:=∃ (h:Array Field) (f:Field) (s:Nat),P.underlying T=some (.struct h)∧h[i]? = some f∧(∀ w,(sizeOf f.type).run P w=.ok (s+1) w)∧f.offset=o
def FOk (P:Program) (T:Nat):Nat→List Nat→Prop
  | _,[]=>True
  | i,o :: os=>AdC P T i o∧FOk P T (i+1) os
def AllOk (P:Program):List (Nat×List Nat)→Prop
  | []=>True
  | p :: r=>FOk P p.1 0 p.2∧AllOk P r
def tbL:List (Nat×List Nat)→Nat→Nat→Option Nat
  | [],_,_=>none
  | p :: r,T,i=>bif Nat.beq p.1 T then p.2[i]? else tbL r T i
theorem FOk.get {P:Program} {T:Nat}:∀ {D:List Nat} {k i o:Nat},FOk P T k D→D[i]? = some o→AdC P T (k+i) o
  | [],_,_,_,_,h=>by simp at h
  | _ :: _,k,0,_,h,e=>by simp only [List.getElem?_cons_zero,Option.some.injEq] at e; subst e; exact h.1
  | _ :: _,k,i+1,_,h,e=>by
    rw [List.getElem?_cons_succ] at e
    have:=FOk.get h.2 e
    rwa [show k+1+i=k+(i+1) by omega] at this
theorem AllOk.get {P:Program}:∀ {L:List (Nat×List Nat)} {T i o:Nat},AllOk P L→tbL L T i=some o→AdC P T i o
  | [],_,_,_,_,h=>by cases h
  | p :: r,T,i,o,h,e=>by
    simp only [tbL] at e
    cases hb:Nat.beq p.1 T with
    | true=>rw [hb] at e; have:=FOk.get h.1 e; rw [Nat.eq_of_beq_eq_true hb] at this; simpa using this
    | false=>rw [hb] at e; exact AllOk.get h.2 e
section
variable (tb:List (Nat×List Nat))
def pv2 (q:IntKind) (a b:Int):BinOp→Option Value
  | .add=>some (.int q (q.wrap (a+b)))
  | .sub=>some (.int q (q.wrap (a - b)))
  | .mul=>some (.int q (q.wrap (a*b)))
  | .and=>some (.int q (xR q a b))
  | .or=>some (.int q (bor q a b))
  | .xor=>some (.int q (AiZ q a b))
  | .andNot=>some (.int q (Ah8 q a b))
  | .eql=>some (.bool (a==b))
  | .neq=>some (.bool (a != b))
  | .lss=>some (.bool (decide (a<b)))
  | .leq=>some (.bool (decide (a≤b)))
  | .gtr=>some (.bool (decide (b<a)))
  | .geq=>some (.bool (decide (b≤a)))
  | _=>none
def pv (E:DY):Op→Option Value
  | .move x=>ev E x
  | .assign x=>ev E x
  | .pick c x y=>match ev E c with
    | some (.bool b)=>bif b then ev E x else ev E y
    | _=>none
  | .extract x i=>match ev E x with
    | some (.tuple vs)=>vs[i]?
    | _=>none
  | .binOp op _ x y _=>match ev E x with
    | some (.int q a)=>match ev E y with
      | some (.int q' b)=>if q=q' then pv2 q a b op else none
      | _=>none
    | _=>none
  | .unOp .not _ x=>match ev E x with
    | some (.bool b)=>some (.bool (!b))
    | _=>none
  | .nilCheck x=>match ev E x with
    | some (.pointer (some p))=>some (.pointer (some p))
    | _=>none
  | .fieldAddr T x i=>match tbL tb T i with
    | some o=>match ev E x with
      | some (.pointer (some ⟨b,off,none⟩))=>some (.pointer (some ⟨b,off+o,none⟩))
      | _=>none
    | none=>none
  | _=>none
end
theorem AhQ {tb:List (Nat×List Nat)} (W:AllOk P tb) {o:Oper} {v:Value} {a:Act} (h:pv tb E o.op=some v) (D:Ok n E a):(execOp a.eval o).run P w=.ok (.value v) w:=by
  obtain ⟨dst,J,ty,pos,af,g⟩:=o
  simp only at h
  cases J <;> simp only [pv] at h
  case move x=>simp [execOp,D.eval h]
  case assign x=>simp [execOp,D.eval h]
  case pick c x y=>
    split at h
    · rename_i b U
      cases b with
      | true=>simp only [cond_true] at h; simp [execOp,D.eval U,D.eval h,asBool]
      | false=>simp only [cond_false] at h; simp [execOp,D.eval U,D.eval h,asBool]
    · cases h
  case extract x i=>
    split at h
    · rename_i vs G; simp [execOp,D.eval G,Instr.extract,h]
    · cases h
  case binOp J T x y T'=>
    split at h
    · rename_i q a G
      split at h
      · rename_i q' b Y
        split at h
        · rename_i hq; subst hq
          have V:(eqGuard J T x y (.int q a) (.int q b)).run P w=.ok () w:=by unfold eqGuard; cases J <;> rfl
          have Z:(Go.binOp J T (.int q a) (.int q b)).run P w=.ok v w:=by cases J <;> simp only [pv2] at h <;> cases h <;> simp [Go.binOp,Op.intArith,Op.intBits,Op.intCmp,xR,bor,AiZ,Ah8]
          simp only [execOp,D.eval G,D.eval Y,Sem.run_bind,V,Result.andThen_ok,Z,Sem.run_pure]
        · cases h
      · cases h
    · cases h
  case nilCheck x=>
    split at h
    · rename_i p G; cases h; simp [execOp,D.eval G]
    · cases h
  case fieldAddr T x i=>
    split at h
    · rename_i o' O
      split at h
      · rename_i b off G
        cases h
        obtain ⟨fs,f,s,hT,hi,hs,rfl⟩:=W.get O
        have e:(⟨b,off,none⟩:Addr).add f.offset=⟨b,off+f.offset,none⟩:=by unfold Addr.add; split <;> simp_all
        simp [execOp,D.eval G,Instr.fieldAt,run_underlying hT,hi,Instr.sureAddr,fieldPlace,hs,e]
      · cases h
    · cases h
  case unOp J T x=>
    cases J <;> simp only at h
    case not=>
      split at h
      · rename_i b G; cases h; simp [execOp,D.eval G,Op.unary]
      · cases h
    all_goals cases h
  all_goals cases h
def rmS (d:Nat):DY→Option DY
  | []=>some []
  | p :: r=>match rmS d r with
    | some r'=>bif Nat.beq p.1 d then some r' else some (p :: r')
    | none=>none
theorem AdD:∀ {E E':DY},rmS d E=some E'→E'=rmE d E
  | [],_,h=>by cases h; rfl
  | p :: r,E',h=>by
    simp only [rmS] at h
    split at h
    · rename_i r' D
      have:=AdD D; subst this
      cases hb:Nat.beq p.1 d <;> rw [hb] at h <;> cases h <;> simp [rmE,hb]
    · cases h
def AbR (n:FrK) (d:Nat) (v:Value) (E:DY):Option DY:=
  bif Nat.blt d n.sz then (bif fresh E d then some ((d,v) :: E) else match rmS d E with
    | some E'=>some ((d,v) :: E')
    | none=>none) else none
theorem AaF {v:Value} {E':DY} {a:Act} (h:AbR n d v E=some E') (D:Ok n E a):Ok n E' (a.put (some d) v):=by
  unfold AbR at h
  cases hb:Nat.blt d n.sz with
  | false=>rw [hb] at h; cases h
  | true=>
    rw [hb] at h
    cases hf:fresh E d with
    | true=>rw [hf] at h; cases h; exact D.put hb hf v
    | false=>
      rw [hf] at h; simp only [cond_true,cond_false] at h
      split at h
      · rename_i E2 G
        cases h
        have:=AdD G; subst this
        exact Ok.put ⟨D.size,D.defers,qH d D.env⟩ hb (Z8 d E) v
      · cases h
def tU (tb:List (Nat×List Nat)) (ops:Array Oper) (n:FrK) (o:Oper) (E:DY):Option DY:=
  match AfQ ops E o.guard with
  | none=>none
  | some false=>match o.dst with
    | none=>some E
    | some d=>AbR n d undef E
  | some true=>match o.dst with
    | none=>none
    | some d=>match pv tb E o.op with
      | none=>none
      | some v=>AbR n d v E
theorem gS {o:Oper} {b:Bool} {a:Act} (h:AfQ ops E o.guard=some b) (U:Ok n E a):Region.wanted o (yielded ops a.tmps)=b:=by
  unfold AfQ at h
  unfold Region.wanted
  split at h
  · rename_i D; cases h; simp [D]
  · rename_i j b' D
    split at h
    · cases h
    · rename_i s O
      split at h
      · rename_i c G
        have J:=bE (ops:=ops) O (U.env.look G)
        cases h; simp only [D,J]; cases b' <;> cases c <;> rfl
      · rename_i t G
        have J:yielded ops a.tmps j=none:=by
          have h:=U.env.look G
          simp only [jS] at O
          simp [yielded,O,h]
        cases h; simp [D,J]
      · cases h
theorem kE {tb:List (Nat×List Nat)} (U:AllOk P tb) {o:Oper} {E':DY} (h:tU tb ops n o E=some E') (k:Ops P ops l n E' S Q):Ops P ops (o :: l) n E S Q:=by
  intro a w D O
  unfold tU at h
  unfold wpListIn
  split at h
  · cases h
  · rename_i J
    rw [gS J D,if_neg (by simp)]
    split at h
    · rename_i G; cases h
      refine ⟨fun _ _=>trivial,?_⟩
      simp only [G]
      exact k _ _ D O
    · rename_i d G
      refine ⟨fun _ _=>trivial,?_⟩
      simp only [G]
      exact k _ _ (AaF h D) O
  · rename_i J
    rw [gS J D,if_pos rfl]
    split at h
    · cases h
    · rename_i d G
      split at h
      · cases h
      · rename_i v V
        refine cG (AhQ U V D) (by simp) ?_
        simp only [Oper.uponIn,G]
        exact k _ _ (AaF h D) O
def kF (tb:List (Nat×List Nat)) (ops:Array Oper) (n:FrK):Nat→List Oper→DY→Option (List Oper×DY)
  | 0,l,E=>some (l,E)
  | _+1,[],_=>none
  | k+1,o :: l,E=>match tU tb ops n o E with | some E'=>kF tb ops n k l E' | none=>none
theorem Ops.ksT {tb:List (Nat×List Nat)} (J:AllOk P tb) {D:List Oper} {E':DY} (k:Nat) (h:kF tb ops n k l E=some (D,E')) (G:Ops P ops D n E' S Q):Ops P ops l n E S Q:=by
  induction k generalizing l E with
  | zero=>simp only [kF,Option.some.injEq,Prod.mk.injEq] at h; obtain ⟨rfl,rfl⟩:=h; exact G
  | succ k U=>
    cases l with
    | nil=>cases h
    | cons o l=>
      simp only [kF] at h
      split at h
      · rename_i E2 O; exact kE J O (U h)
      · cases h
theorem Cod.sr {id:Nat} {l:List Oper} {y:Code} (h:Ops P l.toArray l n E S (Exit.then (y.wpIn (UY n) 0 P Q) Q)):Cod P (.seq (.region id l.toArray false) y) n E S Q:=Cod.seq (Cod.region h)
def AaG (tb:List (Nat×List Nat)) (ops:Array Oper) (n:FrK) (E:DY) (o:Oper):Option (Nat×Value):=
  match o.dst with
  | none=>none
  | some d=>bif Nat.blt d n.sz && fresh E d then (match AfQ ops E o.guard with
    | none=>none
    | some false=>some (d,undef)
    | some true=>match pv tb E o.op with
      | none=>none
      | some v=>some (d,v)) else none
theorem cO {tb:List (Nat×List Nat)} (U:AllOk P tb) {o:Oper} {v:Value} (h:AaG tb ops n E o=some (d,v)):o.dst=some d∧Ops P ops [o] n E S (Fin n S d v):=by
  unfold AaG at h
  split at h
  · cases h
  · rename_i G J
    cases hb:(Nat.blt G n.sz && fresh E G) with
    | false=>rw [hb] at h; cases h
    | true=>
      rw [hb] at h
      rw [Bool.and_eq_true] at hb
      simp only [cond_true] at h
      have D:∀ u,AbR n G u E=some ((G,u) :: E):=fun u=>by simp [AbR,hb.1,hb.2]
      split at h
      · cases h
      · rename_i O; cases h
        exact ⟨J,kE U (by unfold tU; rw [O]; simp only [J]; exact D _) Fin.mk⟩
      · rename_i O
        split at h
        · cases h
        · rename_i v' V; cases h
          exact ⟨J,kE U (by unfold tU; rw [O]; simp only [J,V]; exact D _) Fin.mk⟩
def so:List Nat→List (Option Nat)
  | []=>[]
  | i :: r=>(bif Nat.beq i 999 then none else some i) :: so r
def cP:List HA→List HA→List HA
  | [],ex=>ex
  | A :: r,ex=>A :: cP r ex
theorem cQ {X:HA} {h:List HA}:∀ {r:List HA},Del (cP r (X :: h)) X (cP r h)
  | []=>.z
  | _ :: _=>.s cQ
theorem tV:∀ {r:List HA},r=cP r []
  | []=>rfl
  | A :: _=>congrArg (A :: ·) tV
def AhC (P:Program) (n:FrK) (l:List Oper) (cs:List (Option Nat)) (t:Nat):Bool:=
  P.follows .mixedOrders && (bF n (l.take t) [] && (bG l 0 && (VU (l.drop t) t && (kA (SM cs) && (Nat.ble t l.length && ((SM cs).all (Nat.blt · t) && QG (SM cs) t))))))
theorem Cod.dr {id:Nat} {l:List Oper} {G:List HA} (cs:List Nat) (t:Nat) (h:DrawD P l.toArray n Q w0 M I0 E (so cs) [] [] [] [] I (cP G))
    (D:AhC P n l (so cs) t=true:=by kernel_rfl):Cod P (.region id l.toArray true) n E (Sym w0 M I0 I G) Q:=by
  unfold AhC at D
  simp only [Bool.and_eq_true] at D
  obtain ⟨hm,V,Y,U,J,Z,W,O⟩:=D
  exact Cod.draw (so cs) t hm V Y U J Z W O (cP G) (fun _ _=>cQ) tV h
section
variable {cs:List (Option Nat)} {c:Nat} {dn:IQ} {X pend:List Nat} {as:List AS} {L:Sh} {o:Oper} {v:Value}
theorem DrawD.g (J:ops[c]? = some o) (O:o.dst=some d) (D:fresh E d=true) (h:∀ G,Ops P ops [o] n (LN dn (FT o) E) (Sym w0 M I0 I (L G)) (Fin n (Sym w0 M I0 I (L G)) d v))
    (k:DrawD P ops n Q w0 M I0 E cs ((c,d,v) :: dn) (c :: X) (c :: pend) as I L):DrawD P ops n Q w0 M I0 E (some c :: cs) dn X pend as I L:=DrawD.f (FT o) J rfl O D h k
def AdE (tb:List (Nat×List Nat)) (ops:Array Oper) (n:FrK) (E:DY):Nat→List (Option Nat)→IQ→List Nat→List Nat→Option (List (Option Nat)×IQ×List Nat×List Nat)
  | 0,cs,dn,X,pd=>some (cs,dn,X,pd)
  | k+1,some c :: cs,dn,X,pd=>match ops[c]? with
    | none=>none
    | some o=>match AaG tb ops n (LN dn (FT o) E) o with
      | none=>none
      | some (d,v)=>bif fresh E d then AdE tb ops n E k cs ((c,d,v) :: dn) (c :: X) (c :: pd) else none
  | _+1,_,_,_,_=>none
theorem DrawD.fkT {tb:List (Nat×List Nat)} (U:AllOk P tb) {D:List (Option Nat)} {G:IQ} {O J:List Nat} (k:Nat) (h:AdE tb ops n E k cs dn X pend=some (D,G,O,J)) (Z:DrawD P ops n Q w0 M I0 E D G O J as I L):DrawD P ops n Q w0 M I0 E cs dn X pend as I L:=by
  induction k generalizing cs dn X pend with
  | zero=>simp only [AdE,Option.some.injEq,Prod.mk.injEq] at h; obtain ⟨rfl,rfl,rfl,rfl⟩:=h; exact Z
  | succ k Y=>
    match cs,h with
    | some c :: cs,h=>
      simp only [AdE] at h
      split at h
      · cases h
      · rename_i o W
        split at h
        · cases h
        · rename_i d v V
          cases hb:fresh E d with
          | false=>rw [hb] at h; cases h
          | true=>
            rw [hb] at h
            exact DrawD.g W (cO (P:=P) (S:=fun _=>True) U V).1 hb (fun ex=>(cO U V).2) (Y h)
    | none :: _,h=>cases h
    | [],h=>cases h
def AfR (ops:Array Oper):Nat→List Nat→List Nat
  | 0,A=>A
  | i+1,A=>AfR ops i (bif LM A i then (match ops[i]? with | some o=>FT o++A | none=>A) else A)
def AhR (ops:Array Oper) (c:Nat):List Nat:=match ops[c]? with
  | some o=>AfR ops c (FT o)
  | none=>[]
theorem AaH {c:Nat}:∀ (i:Nat) {A:List Nat},(∀ f∈A,∃ k,tH ops k f c=true)→∀ f∈AfR ops i A,∃ k,tH ops k f c=true
  | 0,_,h=>h
  | i+1,A,h=>by
    unfold AfR
    refine AaH i ?_
    cases hm:LM A i with
    | false=>exact h
    | true=>
      simp only [cond_true]
      split
      · rename_i o G
        intro f D
        rcases List.mem_append.1 D with D | D
        · obtain ⟨k,hk⟩:=h i (EN.1 hm)
          exact Ad1 (p:=i) (by unfold cI; rw [G]; exact EN.2 D) hk
        · exact h f D
      · exact h
theorem AfS {c:Nat}:∀ f∈AhR ops c,∃ k,tH ops k f c=true:=by
  unfold AhR
  split
  · rename_i o D
    exact AaH _ fun f h=>⟨1,tN (by unfold cI; rw [D]; exact EN.2 h)⟩
  · intro f h; cases h
def AdF (A:List Nat):List Nat→List Nat
  | []=>[]
  | f :: r=>bif LM A f then AdF A r else f :: AdF A r
theorem qL {c:Nat} {A:List Nat} (D:∀ f∈A,∃ k,tH ops k f c=true):∀ {pend:List Nat},xY ops c (AdF A pend) pend
  | [],f,hf=>nomatch hf
  | g :: r,f,hf=>by
    unfold AdF
    cases hm:LM A g with
    | true=>
      cases hf with
      | head=>exact .inr (D _ (EN.1 hm))
      | tail _ hf=>simp only [cond_true]; exact qL D f hf
    | false=>
      simp only [cond_false]
      cases hf with
      | head=>exact .inl (by simp)
      | tail _ hf => rcases qL D f hf with h | h
                     · exact .inl (List.mem_cons_of_mem _ h)
                     · exact .inr h
def wB (ops:Array Oper) (as X:List Nat) (c:Nat) (o:Oper) (E:DY):Bool:=Z7 ops.toList (as++X) c 0 && (match o.dst with | none=>true | some d=>fresh E d)
theorem DrawD.ww (U:ops[c]? = some o) (h:∀ O,Ops P ops [o] n (LN dn (FT o) E) (Sym w0 M I0 I (L O)) (WPost P ops n E Q w0 M I0 o c cs dn X (AdF (AhR ops c) pend) as O))
    (G:wB ops (NG as) X c o E=true:=by kernel_rfl):DrawD P ops n Q w0 M I0 E (some c :: cs) dn X pend as I L:=by
  unfold wB at G
  simp only [Bool.and_eq_true] at G
  have D:W7 o E=E:=by
    unfold W7
    have J:=G.2
    split at J
    · rename_i D; rw [D]
    · rename_i d D; simp [D,J]
  exact ⟨o,U,.inr (.inr ⟨G.1,.inr D,_,qL AfS,by rw [D]; exact h⟩)⟩
def tkL:Nat→List HA→Option (List HA)
  | 0,_=>some []
  | _+1,[]=>none
  | k+1,A :: l=>match tkL k l with
    | some r=>some (A :: r)
    | none=>none
theorem WPost.so {h:List Nat} {E':DY} {D G pre:List HA} (O:Nat) (U:tkL O G=.some pre) (he:cP pre D=G) (J:o.dst=.some d) (hp:PendL P ops n E ((c,d,v) :: dn) (fun D=>Sym w0 M I0 I (cP pre D)) h)
    (k:DrawD P ops n Q w0 M I0 E cs ((c,d,v) :: dn) (c :: X) h as I (cP pre)):Ops P ops [] n ((d,v) :: E') (Sym w0 M I0 I G) (WPost P ops n E Q w0 M I0 o c cs dn X h as D):=
  WPost.some (cP pre) he.symm (fun _ _=>cQ) J hp k
theorem WPost.sn {h:List Nat} {E':DY} {D G pre:List HA} (O:Nat) (U:tkL O G=.some pre) (he:cP pre D=G) (J:o.dst=.none) (hp:PendL P ops n E dn (fun D=>Sym w0 M I0 I (cP pre D)) h)
    (k:DrawD P ops n Q w0 M I0 E cs dn (c :: X) h as I (cP pre)):Ops P ops [] n E' (Sym w0 M I0 I G) (WPost P ops n E Q w0 M I0 o c cs dn X h as D):=
  WPost.none (cP pre) he.symm (fun _ _=>cQ) J hp k
theorem DrawD.e2 (t:Nat) (k:Ops P ops (ops.toList.drop t) n (Ad0 dn E) (Sym w0 M I0 I (L [])) Q) (h:(QG X t && (X.all (Nat.blt · t) && VU (ops.toList.drop t) t))=true:=by kernel_rfl):DrawD P ops n Q w0 M I0 E [] dn X pend [] I L:=by
  simp only [Bool.and_eq_true] at h
  exact DrawD.e t h.1 h.2.1 h.2.2 k
theorem PendL.cg {S:List HA→World→Prop} {f:Nat} {G:List Nat} (O:ops[f]? = some o) (U:o.dst=some d) (D:fresh E d=true) (V:HP dn f=some (d,v)) (h:∀ J,Ops P ops [o] n (LN dn (FT o) E) (S J) (Fin n (S J) d v))
    (k:PendL P ops n E dn S G):PendL P ops n E dn S (f :: G):=⟨⟨o,d,v,O,U,D,V,h⟩,k⟩
def AdG (tb:List (Nat×List Nat)) (ops:Array Oper) (n:FrK) (E:DY) (dn:IQ):Nat→List Nat→Option (List Nat×List (Option (Nat×Value))×List (Option (Nat×Value)))
  | 0,fs=>some (fs,[],[])
  | k+1,f :: fs=>match ops[f]? with
    | none=>none
    | some o=>match AaG tb ops n (LN dn (FT o) E) o with
      | none=>none
      | some dv => bif fresh E dv.1 then (match AdG tb ops n E dn k fs with
            | none=>none
            | some (g,A,B)=>some (g,HP dn f :: A,some dv :: B)) else none
  | _+1,[]=>none
theorem PendL.ckT {tb:List (Nat×List Nat)} (J:AllOk P tb) {S:List HA→World→Prop} {g:List Nat} {A B:List (Option (Nat×Value))} (k:Nat) {G:List Nat} (h:AdG tb ops n E dn k G=some (g,A,B)) (D:A=B) (Y:PendL P ops n E dn S g):PendL P ops n E dn S G:=by
  induction k generalizing G A B with
  | zero=>simp only [AdG,Option.some.injEq,Prod.mk.injEq] at h; obtain ⟨rfl,rfl,rfl⟩:=h; exact Y
  | succ k W=>
    cases G with
    | nil=>cases h
    | cons f G=>
      simp only [AdG] at h
      split at h
      · cases h
      · rename_i o U
        split at h
        · cases h
        · rename_i Z O
          obtain ⟨d,v⟩:=Z
          cases hb:fresh E d with
          | false=>rw [hb] at h; cases h
          | true=>
            rw [hb] at h
            simp only [cond_true] at h
            split at h
            · cases h
            · rename_i g' A' B' V
              simp only [Option.some.injEq,Prod.mk.injEq] at h
              obtain ⟨rfl,rfl,rfl⟩:=h
              simp only [List.cons.injEq] at D
              exact PendL.cg U (cO (P:=P) (S:=fun _=>True) J O).1 hb D.1 (fun ex=>(cO J O).2) (W V D.2)
end
end Go.Fw
