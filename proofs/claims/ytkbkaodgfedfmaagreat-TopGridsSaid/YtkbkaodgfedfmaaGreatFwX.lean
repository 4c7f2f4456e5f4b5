/- The engine. -/
import Derived.Test.YtkbkaodgfedfmaaGreatFwZ
namespace Go.Fw
open Go Go.RowKit
variable {w0 w:World} {M:Nat→Prop} {I0 I:IH} {m m':List HA}
variable {P:Program} {n:FrK} {E:CZ} {S:World→Prop} {Q:Exit→Act→World→Prop} {ops:Array Oper} {l:List Oper}
variable {d ty:Nat} {pos:String} {af:Array Edge}
/-! ### Values by reckoning -/
variable {ex l0:List HA}
def AgN (P:Program) (T i o:Nat):Prop:=∃ (h:Array Field) (f:Field) (s:Nat),P.underlying T=some (.struct h)∧h[i]? = some f∧(∀ w,(sizeOf f.type).run P w=.ok (s+1) w)∧f.offset=o
def FOk (P:Program) (T:Nat):Nat->List Nat->Prop
 | _,[]=>True
 | i,o :: os=>AgN P T i o∧FOk P T (i+1) os
def AllOk (P:Program):List (Nat×List Nat)->Prop
 | []=>True
 | p :: r=>FOk P p.1 0 p.2∧AllOk P r
def tbL:List (Nat×List Nat)->Nat->Nat->Option Nat
 | [],_,_=>none
 | p :: r,T,i=>bif Nat.beq p.1 T then p.2[i]? else tbL r T i
theorem FOk.get {P:Program} {T:Nat}:∀ {D:List Nat} {k i o:Nat},FOk P T k D->D[i]? = some o->AgN P T (k+i) o
 | [],_,_,_,_,h=>by simp at h
 | _ :: _,k,0,_,h,e=>by simp only[List.getElem?_cons_zero,Option.some.injEq] at e; subst e; exact h.1
 | _ :: _,k,i+1,_,h,e=>by
  rw[List.getElem?_cons_succ] at e;have:=FOk.get h.2 e
  rwa [show k+1+i=k+(i+1) by omega] at this
theorem AllOk.get {P:Program}:∀ {L:List (Nat×List Nat)} {T i o:Nat},AllOk P L->tbL L T i=some o->AgN P T i o
 | [],_,_,_,_,h=>by cases h
 | p :: r,T,i,o,h,e=>by
  simp only[tbL] at e
  cases hb:Nat.beq p.1 T with
  | true=>rw[hb] at e; have:=FOk.get h.1 e; rw[Nat.eq_of_beq_eq_true hb] at this; simpa using this
  | false=>rw[hb] at e; exact AllOk.get h.2 e
section
variable (tb:List (Nat×List Nat))
def pv2 (q:IntKind) (a b:Int):BinOp->Option Value
 | .add=>some (.int q (q.wrap (a+b)))
 | .sub=>some (.int q (q.wrap (a - b)))
 | .mul=>some (.int q (q.wrap (a*b)))
 | .and=>some (.int q (XQ q a b))
 | .or=>some (.int q (bor q a b))
 | .xor=>some (.int q (AmT q a b))
 | .andNot=>some (.int q (Al1 q a b))
 | .eql=>some (.bool (a==b))
 | .neq=>some (.bool (a != b))
 | .lss=>some (.bool (decide (a<b)))
 | .leq=>some (.bool (decide (a<=b)))
 | .gtr=>some (.bool (decide (b<a)))
 | .geq=>some (.bool (decide (b<=a)))
 | _=>none
def pv (E:CZ):Op->Option Value
 | .move x=>ev E x
 | .assign x=>ev E x
 | .pick c x y=>match ev E c with
  | some (.bool b)=>bif b then ev E x else ev E y
  | _=>none
 | .extract x i=>match ev E x with
  | some (.tuple vs)=>vs[i]?
  | _=>none
 | .binOp op _ x y _=>match ev E x with
  | some (.int q a)=>match ev E y with
   | some (.int q' b)=>if q=q' then pv2 q a b op else none
   | _=>none
  | _=>none
 | .unOp .not _ x=>match ev E x with
  | some (.bool b)=>some (.bool (!b))
  | _=>none
 | .nilCheck x=>match ev E x with
  | some (.pointer (some p))=>some (.pointer (some p))
  | _=>none
 | .fieldAddr T x i=>match tbL tb T i with
  | some o=>match ev E x with
   | some (.pointer (some ⟨b,off,none⟩))=>some (.pointer (some ⟨b,off+o,none⟩))
   | _=>none
  | none=>none
 | _=>none
end
theorem AlJ {tb:List (Nat×List Nat)} (ht:AllOk P tb) {o:Oper} {v:Value} {a:Act} (h:pv tb E o.op=some v) (D:Ok n E a):(execOp a.eval o).run P w=.ok (.value v) w:=by
 obtain⟨dst,K,ty,pos,af,g⟩:=o;simp only at h;cases K <;> simp only[pv] at h
 case move x=>simp[execOp,D.eval h]
 case assign x=>simp[execOp,D.eval h]
 case pick c x y=>
  split at h
  . rename_i b U
    cases b with
    | true=>simp only[cond_true] at h; simp[execOp,D.eval U,D.eval h,asBool]
    | false=>simp only[cond_false] at h; simp[execOp,D.eval U,D.eval h,asBool]
  . cases h
 case extract x i=>
  split at h
  . rename_i vs J; simp[execOp,D.eval J,Instr.extract,h]
  . cases h
 case binOp K T x y T'=>
  split at h
  . rename_i q a J;split at h
    . rename_i q' b W;split at h
      . rename_i Z; subst Z;have hg:(eqGuard K T x y (.int q a) (.int q b)).run P w=.ok () w:=by unfold eqGuard; cases K <;> rfl
        have hr:(Go.binOp K T (.int q a) (.int q b)).run P w=.ok v w:=by cases K <;> simp only[pv2] at h <;> cases h <;> simp[Go.binOp,Op.intArith,Op.intBits,Op.intCmp,XQ,bor,AmT,Al1]
        simp only[execOp,D.eval J,D.eval W,Sem.run_bind,hg,Result.andThen_ok,hr,Sem.run_pure]
      . cases h
    . cases h
  . cases h
 case nilCheck x=>
  split at h
  . rename_i p J; cases h; simp[execOp,D.eval J]
  . cases h
 case fieldAddr T x i=>
  split at h
  . rename_i o' O;split at h
    . rename_i b off J;cases h;obtain⟨fs,f,s,V,hi,hs,rfl⟩:=ht.get O;have e:(⟨b,off,none⟩:Addr).add f.offset=⟨b,off+f.offset,none⟩:=by unfold Addr.add; split <;> simp_all
      simp[execOp,D.eval J,Instr.fieldAt,run_underlying V,hi,Instr.sureAddr,fieldPlace,hs,e]
    . cases h
  . cases h
 case unOp K T x=>
  cases K <;> simp only at h
  case not=>
    split at h
    . rename_i b J; cases h; simp[execOp,D.eval J,Op.unary]
    . cases h
  all_goals cases h
 all_goals cases h
def rmS (d:Nat):CZ->Option CZ
 | []=>some []
 | p :: r=>match rmS d r with
  | some r'=>bif Nat.beq p.1 d then some r' else some (p :: r')
  | none=>none
theorem AgO:∀ {E E':CZ},rmS d E=some E'->E'=rmE d E
 | [],_,h=>by cases h; rfl
 | p :: r,E',h=>by
  simp only[rmS] at h;split at h
  . rename_i r' D;have:=AgO D; subst this;cases hb:Nat.beq p.1 d <;> rw[hb] at h <;> cases h <;> simp[rmE,hb]
  . cases h
def AeS (n:FrK) (d:Nat) (v:Value) (E:CZ):Option CZ:=
 bif Nat.blt d n.sz then (bif fresh E d then some ((d,v) :: E) else match rmS d E with
  | some E'=>some ((d,v) :: E')
  | none=>none) else none
theorem AcV {v:Value} {E':CZ} {a:Act} (h:AeS n d v E=some E') (D:Ok n E a):Ok n E' (a.put (some d) v):=by
 unfold AeS at h
 cases hb:Nat.blt d n.sz with
 | false=>rw[hb] at h; cases h
 | true=>
  rw[hb] at h
  cases hf:fresh E d with
  | true=>rw[hf] at h; cases h; exact D.put hb hf v
  | false=>
   rw[hf] at h; simp only[cond_true,cond_false] at h;split at h
   . rename_i E2 J;cases h;have:=AgO J; subst this;exact Ok.put ⟨D.size,D.defers,uH d D.env⟩ hb (ZW d E) v
   . cases h
def stepX (tb:List (Nat×List Nat)) (ops:Array Oper) (n:FrK) (o:Oper) (E:CZ):Option CZ:=
 match AjJ ops E o.guard with
 | none=>none
 | some false=>match o.dst with
  | none=>some E
  | some d=>AeS n d undef E
 | some true=>match o.dst with
  | none=>none
  | some d=>match pv tb E o.op with
   | none=>none
   | some v=>AeS n d v E
theorem lC {o:Oper} {b:Bool} {a:Act} (h:AjJ ops E o.guard=some b) (U:Ok n E a):Region.wanted o (yielded ops a.tmps)=b:=by
 unfold AjJ at h;unfold Region.wanted;split at h
 . rename_i D; cases h; simp[D]
 . rename_i j V D;split at h
   . cases h
   . rename_i s J;split at h
     . rename_i c K;have O:=cV (ops:=ops) J (U.env.look K);cases h; simp only[D,O]; cases V <;> cases c <;> rfl
     . rename_i t K
       have O:yielded ops a.tmps j=none:=by have h:=U.env.look K;simp only[kU] at J;simp[yielded,J,h]
       cases h; simp[D,O]
     . cases h
theorem nN {tb:List (Nat×List Nat)} (U:AllOk P tb) {o:Oper} {E':CZ} (h:stepX tb ops n o E=some E') (k:Ops P ops l n E' S Q):Ops P ops (o :: l) n E S Q:=by
 intro a w D K;unfold stepX at h;unfold wpListIn;split at h
 . cases h
 . rename_i O;rw[lC O D,if_neg (by simp)];split at h
   . rename_i J; cases h;refine⟨λ_ _=>trivial,?_⟩;simp only[J];exact k _ _ D K
   . rename_i d J;refine⟨λ_ _=>trivial,?_⟩;simp only[J];exact k _ _ (AcV h D) K
 . rename_i O;rw[lC O D,if_pos rfl];split at h
   . cases h
   . rename_i d J;split at h
     . cases h
     . rename_i v V;refine eV (AlJ U V D) (by simp) ?_;simp only[Oper.uponIn,J];exact k _ _ (AcV h D) K
def nO (tb:List (Nat×List Nat)) (ops:Array Oper) (n:FrK):Nat->List Oper->CZ->Option (List Oper×CZ)
 | 0,l,E=>some (l,E)
 | _+1,[],_=>none
 | k+1,o :: l,E=>match stepX tb ops n o E with | some E'=>nO tb ops n k l E' | none=>none
theorem Ops.ksT {tb:List (Nat×List Nat)} (J:AllOk P tb) {D:List Oper} {E':CZ} (k:Nat) (h:nO tb ops n k l E=some (D,E')) (U:Ops P ops D n E' S Q):Ops P ops l n E S Q:=by
 induction k generalizing l E with
 | zero=>simp only[nO,Option.some.injEq,Prod.mk.injEq] at h; obtain⟨rfl,rfl⟩:=h; exact U
 | succ k K=>
  cases l with
  | nil=>cases h
  | cons o l=>
   simp only[nO] at h;split at h
   . rename_i E2 O; exact nN J O (K h)
   . cases h
theorem Cod.sr {id:Nat} {l:List Oper} {y:Code} (h:Ops P l.toArray l n E S (Exit.then (y.wpIn (UT n) 0 P Q) Q)):Cod P (.seq (.region id l.toArray false) y) n E S Q:=Cod.seq (Cod.region h)
def AcW (tb:List (Nat×List Nat)) (ops:Array Oper) (n:FrK) (E:CZ) (o:Oper):Option (Nat×Value):=
 match o.dst with
 | none=>none
 | some d=>bif Nat.blt d n.sz && fresh E d then (match AjJ ops E o.guard with
  | none=>none
  | some false=>some (d,undef)
  | some true=>match pv tb E o.op with
   | none=>none
   | some v=>some (d,v)) else none
theorem fG {tb:List (Nat×List Nat)} (U:AllOk P tb) {o:Oper} {v:Value} (h:AcW tb ops n E o=some (d,v)):o.dst=some d∧Ops P ops [o] n E S (Fin n S d v):=by
 unfold AcW at h;split at h
 . cases h
 . rename_i J K
   cases hb:(Nat.blt J n.sz && fresh E J) with
   | false=>rw[hb] at h; cases h
   | true=>
    rw[hb] at h;rw[Bool.and_eq_true] at hb;simp only[cond_true] at h;have D:∀ u,AeS n J u E=some ((J,u) :: E):=λu=>by simp[AeS,hb.1,hb.2]
    split at h
    . cases h
    . rename_i O; cases h;exact⟨K,nN U (by unfold stepX; rw[O]; simp only[K]; exact D _) Fin.mk⟩
    . rename_i O;split at h
      . cases h
      . rename_i v' V; cases h;exact⟨K,nN U (by unfold stepX; rw[O]; simp only[K,V]; exact D _) Fin.mk⟩
def so:List Nat->List (Option Nat)
 | []=>[]
 | i :: r=>(bif Nat.beq i 999 then none else some i) :: so r
def fH:List HA->List HA->List HA
 | [],ex=>ex
 | A :: r,ex=>A :: fH r ex
theorem fI {X:HA} :∀ {r:List HA},Del (fH r (X :: ex)) X (fH r ex)
 | []=>.z
 | _ :: _=>.s fI
theorem xV:∀ {r:List HA},r=fH r []
 | []=>rfl
 | A :: _=>congrArg (A :: ·) xV
def Al5 (P:Program) (n:FrK) (l:List Oper) (cs:List (Option Nat)) (t:Nat):Bool:=
 P.follows .mixedOrders && (cW n (l.take t) [] && (cX l 0 && (UU (l.drop t) t && (nJ (RW cs) && (Nat.ble t l.length && ((RW cs).all (Nat.blt · t) && PP (RW cs) t))))))
theorem Cod.dr {id:Nat} {l:List Oper} (cs:List Nat) (t:Nat) (h:DrawD P l.toArray n Q w0 M I0 E (so cs) [] [] [] [] I (fH l0))
  (D:Al5 P n l (so cs) t=true:=by kernel_rfl):Cod P (.region id l.toArray true) n E (Sym w0 M I0 I l0) Q:=by
 unfold Al5 at D;simp only[Bool.and_eq_true] at D;obtain⟨V,h1,W,O,K,U,J,Z⟩:=D;exact Cod.draw (so cs) t V h1 W O K U J Z (fH l0) (λ_ _=>fI) xV h
section
variable {cs:List (Option Nat)} {c:Nat} {dn:HC} {X pend:List Nat} {as:List AS} {L:Sh} {o:Oper} {v:Value}
theorem DrawD.g (J:ops[c]? = some o) (K:o.dst=some d) (D:fresh E d=true) (h:∀ ex,Ops P ops [o] n (IA dn (EC o) E) (Sym w0 M I0 I (L ex)) (Fin n (Sym w0 M I0 I (L ex)) d v))
 (k:DrawD P ops n Q w0 M I0 E cs ((c,d,v) :: dn) (c :: X) (c :: pend) as I L):DrawD P ops n Q w0 M I0 E (some c :: cs) dn X pend as I L:=DrawD.f (EC o) J rfl K D h k
def AgP (tb:List (Nat×List Nat)) (ops:Array Oper) (n:FrK) (E:CZ):Nat->List (Option Nat)->HC->List Nat->List Nat->Option (List (Option Nat)×HC×List Nat×List Nat)
 | 0,cs,dn,X,pd=>some (cs,dn,X,pd)
 | k+1,some c :: cs,dn,X,pd=>match ops[c]? with
  | none=>none
  | some o=>match AcW tb ops n (IA dn (EC o) E) o with
   | none=>none
   | some (d,v)=>bif fresh E d then AgP tb ops n E k cs ((c,d,v) :: dn) (c :: X) (c :: pd) else none
 | _+1,_,_,_,_=>none
theorem DrawD.fkT {tb:List (Nat×List Nat)} (O:AllOk P tb) {D:List (Option Nat)} {K:HC} {U J:List Nat} (k:Nat) (h:AgP tb ops n E k cs dn X pend=some (D,K,U,J)) (kk:DrawD P ops n Q w0 M I0 E D K U J as I L):DrawD P ops n Q w0 M I0 E cs dn X pend as I L:=by
 induction k generalizing cs dn X pend with
 | zero=>simp only[AgP,Option.some.injEq,Prod.mk.injEq] at h; obtain⟨rfl,rfl,rfl,rfl⟩:=h; exact kk
 | succ k W=>
  match cs,h with
  | some c :: cs,h=>
   simp only[AgP] at h;split at h
   . cases h
   . rename_i o Z;split at h
     . cases h
     . rename_i d v V
       cases hb:fresh E d with
       | false=>rw[hb] at h; cases h
       | true=>
        rw[hb] at h;exact DrawD.g Z (fG (P:=P) (S:=λ_=>True) O V).1 hb (λex=>(fG O V).2) (W h)
  | none :: _,h=>cases h
  | [],h=>cases h
def AjK (ops:Array Oper):Nat->List Nat->List Nat
 | 0,A=>A
 | i+1,A=>AjK ops i (bif JZ A i then (match ops[i]? with | some o=>EC o++A | none=>A) else A)
def AlK (ops:Array Oper) (c:Nat):List Nat:=match ops[c]? with
 | some o=>AjK ops c (EC o)
 | none=>[]
theorem AcX {c:Nat}:∀ (i:Nat) {A:List Nat},(∀ f∈A,∃ k,xF ops k f c=true)->∀ f∈AjK ops i A,∃ k,xF ops k f c=true
 | 0,_,h=>h
 | i+1,A,h=>by
  unfold AjK;refine AcX i ?_
  cases hm:JZ A i with
  | false=>exact h
  | true=>
   simp only[cond_true];split
   . rename_i o J;intro f D;rcases List.mem_append.1 D with D | D
     . obtain⟨k,hk⟩:=h i (E4.1 hm);exact AgC (p:=i) (by unfold eX; rw[J]; exact E4.2 D) hk
     . exact h f D
   . exact h
theorem AjL {c:Nat}:∀ f∈AlK ops c,∃ k,xF ops k f c=true:=by
 unfold AlK;split
 . rename_i o D;exact AcX _ λf h=>⟨1,xK (by unfold eX; rw[D]; exact E4.2 h)⟩
 . intro f h; cases h
def AgQ (A:List Nat):List Nat->List Nat
 | []=>[]
 | f :: r=>bif JZ A f then AgQ A r else f :: AgQ A r
theorem uL {c:Nat} {A:List Nat} (hA:∀ f∈A,∃ k,xF ops k f c=true):∀ {pend:List Nat},Ab1 ops c (AgQ A pend) pend
  | [],f,hf=>nomatch hf
  | g :: r,f,hf=>by
    unfold AgQ
    cases hm:JZ A g with
    | true=>
      cases hf with
      | head=>exact .inr (hA _ (E4.1 hm))
      | tail _ hf=>simp only[cond_true]; exact uL hA f hf
    | false=>
      simp only[cond_false]
      cases hf with
      | head=>exact .inl (by simp)
      | tail _ hf =>
        rcases uL hA f hf with h | h
        . exact .inl (List.mem_cons_of_mem _ h)
        . exact .inr h
def wB (ops:Array Oper) (as X:List Nat) (c:Nat) (o:Oper) (E:CZ):Bool:=ZV ops.toList (as++X) c 0 && (match o.dst with | none=>true | some d=>fresh E d)
theorem DrawD.ww (O:ops[c]? = some o) (h:∀ {ex},Ops P ops [o] n (IA dn (EC o) E) (Sym w0 M I0 I (L ex)) (WPost P ops n E Q w0 M I0 o c cs dn X (AgQ (AlK ops c) pend) as ex))
  (J:wB ops (MY as) X c o E=true:=by kernel_rfl):DrawD P ops n Q w0 M I0 E (some c :: cs) dn X pend as I L:=by
 unfold wB at J;simp only[Bool.and_eq_true] at J
 have D:VJ o E=E:=by
  unfold VJ;have K:=J.2;split at K
  . rename_i D; rw[D]
  . rename_i d D; simp[D,K]
 exact⟨o,O,.inr (.inr ⟨J.1,.inr D,_,uL AjL,by rw[D]; exact λ_=>h⟩)⟩
def tkL:Nat->List HA->Option (List HA)
 | 0,_=>some []
 | _+1,[]=>none
 | k+1,A :: l=>match tkL k l with
  | some r=>some (A :: r)
  | none=>none
theorem WPost.so {h:List Nat} {E':CZ} {D:List HA} (J:Nat) (U:tkL J l0=.some D) (K:fH D ex=l0) (O:o.dst=.some d) (hp:PendL P ops n E ((c,d,v) :: dn) (λex=>Sym w0 M I0 I (fH D ex)) h)
  (k:DrawD P ops n Q w0 M I0 E cs ((c,d,v) :: dn) (c :: X) h as I (fH D)):Ops P ops [] n ((d,v) :: E') (Sym w0 M I0 I l0) (WPost P ops n E Q w0 M I0 o c cs dn X h as ex):=
 WPost.some (fH D) K.symm (λ_ _=>fI) O hp k
theorem WPost.sn {h:List Nat} {E':CZ} {D:List HA} (J:Nat) (U:tkL J l0=.some D) (K:fH D ex=l0) (O:o.dst=.none) (hp:PendL P ops n E dn (λex=>Sym w0 M I0 I (fH D ex)) h)
  (k:DrawD P ops n Q w0 M I0 E cs dn (c :: X) h as I (fH D)):Ops P ops [] n E' (Sym w0 M I0 I l0) (WPost P ops n E Q w0 M I0 o c cs dn X h as ex):=
 WPost.none (fH D) K.symm (λ_ _=>fI) O hp k
theorem DrawD.e2 (t:Nat) (k:Ops P ops (ops.toList.drop t) n (AgB dn E) (Sym w0 M I0 I (L [])) Q) (h:(PP X t && (X.all (Nat.blt · t) && UU (ops.toList.drop t) t))=true:=by kernel_rfl):DrawD P ops n Q w0 M I0 E [] dn X pend [] I L:=by simp only[Bool.and_eq_true] at h;exact DrawD.e t h.1 h.2.1 h.2.2 k
theorem PendL.cg {S:List HA->World->Prop} {f:Nat} {J:List Nat} (U:ops[f]? = some o) (K:o.dst=some d) (D:fresh E d=true) (O:H9 dn f=some (d,v)) (h:∀ ex,Ops P ops [o] n (IA dn (EC o) E) (S ex) (Fin n (S ex) d v))
 (k:PendL P ops n E dn S J):PendL P ops n E dn S (f :: J):=⟨⟨o,d,v,U,K,D,O,h⟩,k⟩
def AgR (tb:List (Nat×List Nat)) (ops:Array Oper) (n:FrK) (E:CZ) (dn:HC):Nat->List Nat->Option (List Nat×List (Option (Nat×Value))×List (Option (Nat×Value)))
 | 0,fs=>some (fs,[],[])
 | k+1,f :: fs=>match ops[f]? with
  | none=>none
  | some o=>match AcW tb ops n (IA dn (EC o) E) o with
   | none=>none
   | some dv => bif fresh E dv.1 then (match AgR tb ops n E dn k fs with
    | none=>none
    | some (g,A,B)=>some (g,H9 dn f :: A,some dv :: B)) else none
 | _+1,[]=>none
theorem PendL.ckT {tb:List (Nat×List Nat)} (K:AllOk P tb) {S:List HA->World->Prop} {g:List Nat} {A B:List (Option (Nat×Value))} (k:Nat) {J:List Nat} (h:AgR tb ops n E dn k J=some (g,A,B)) (D:A=B) (Z:PendL P ops n E dn S g):PendL P ops n E dn S J:=by
 induction k generalizing J A B with
 | zero=>simp only[AgR,Option.some.injEq,Prod.mk.injEq] at h; obtain⟨rfl,rfl,rfl⟩:=h; exact Z
 | succ k V=>
  cases J with
  | nil=>cases h
  | cons f J=>
   simp only[AgR] at h;split at h
   . cases h
   . rename_i o W;split at h
     . cases h
     . rename_i dv O;obtain⟨d,v⟩:=dv
       cases hb:fresh E d with
       | false=>rw[hb] at h; cases h
       | true=>
        rw[hb] at h;simp only[cond_true] at h;split at h
        . cases h
        . rename_i g' A' B' U;simp only[Option.some.injEq,Prod.mk.injEq] at h;obtain⟨rfl,rfl,rfl⟩:=h;simp only[List.cons.injEq] at D;exact PendL.cg W (fG (P:=P) (S:=λ_=>True) K O).1 hb D.1 (λex=>(fG K O).2) (V U D.2)
end
end Go.Fw
