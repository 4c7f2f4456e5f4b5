/- The engine. -/
import Derived.Test.YtbohadngdkjljaaGreatFwZ
namespace Go.Fw
open Go Go.RowKit
variable {w0 w:World} {M:Nat→Prop} {I0 I:IH} {m m':List HA}
variable {P:Program} {n:FrK} {E:D7} {S:World→Prop} {Q:Exit→Act→World→Prop} {ops:Array Oper} {l:List Oper}
variable {d ty:Nat} {pos:String} {af:Array Edge}
/-! ### Values by reckoning -/
variable {ex l0:List HA}
def xD (P:Program) (T i o:Nat):Prop:=∃ (h:Array Field) (f:Field) (s:Nat),P.underlying T=some (.struct h)∧h[i]? = some f∧(∀ w,(sizeOf f.type).run P w=.ok (s+1) w)∧f.offset=o
def FOk (P:Program) (T:Nat):Nat→List Nat→Prop
 | _,[]=>True
 | i,o :: os=>xD P T i o∧FOk P T (i+1) os
def AllOk (P:Program):List (Nat×List Nat)→Prop
 | []=>True
 | p :: r=>FOk P p.1 0 p.2∧AllOk P r
def tbL:List (Nat×List Nat)→Nat→Nat→Option Nat
 | [],_,_=>none
 | p :: r,T,i=>bif Nat.beq p.1 T then p.2[i]? else tbL r T i
theorem FOk.get {P:Program} {T:Nat}:∀ {D:List Nat} {k i o:Nat},FOk P T k D→D[i]? = some o→xD P T (k+i) o
 | [],_,_,_,_,h=>by simp at h
 | _ :: _,k,0,_,h,e=>by simp only [List.getElem?_cons_zero,Option.some.injEq] at e; subst e; exact h.1
 | _ :: _,k,i+1,_,h,e=>by
  rw [List.getElem?_cons_succ] at e
  have:=FOk.get h.2 e
  rwa [show k+1+i=k+(i+1) by omega] at this
theorem AllOk.get {P:Program}:∀ {L:List (Nat×List Nat)} {T i o:Nat},AllOk P L→tbL L T i=some o→xD P T i o
 | [],_,_,_,_,h=>by cases h
 | p :: r,T,i,o,h,e=>by
  simp only [tbL] at e
  cases hb:Nat.beq p.1 T with
  | true=>rw [hb] at e; have:=FOk.get h.1 e; rw [Nat.eq_of_beq_eq_true hb] at this; simpa using this
  | false=>rw [hb] at e; exact AllOk.get h.2 e
section
variable (tb:List (Nat×List Nat))
def pv2 (q:IntKind) (a b:Int):BinOp→Option Value
 | .add=>some (.int q (q.wrap (a+b)))
 | .sub=>some (.int q (q.wrap (a - b)))
 | .mul=>some (.int q (q.wrap (a*b)))
 | .and=>some (.int q (nC q a b))
 | .or=>some (.int q (bor q a b))
 | .xor=>some (.int q (Z4 q a b))
 | .andNot=>some (.int q (AbZ q a b))
 | .eql=>some (.bool (a==b))
 | .neq=>some (.bool (a != b))
 | .lss=>some (.bool (decide (a<b)))
 | .leq=>some (.bool (decide (a≤b)))
 | .gtr=>some (.bool (decide (b<a)))
 | .geq=>some (.bool (decide (b≤a)))
 | _=>none
def pv (E:D7):Op→Option Value
 | .move x=>ev E x
 | .assign x=>ev E x
 | .pick c x y=>match ev E c with
  | some (.bool b)=>bif b then ev E x else ev E y
  | _=>none
 | .extract x i=>match ev E x with
  | some (.tuple vs)=>vs[i]?
  | _=>none
 | .binOp op _ x y _=>match ev E x with
  | some (.int q a)=>match ev E y with
   | some (.int q' b)=>if q=q' then pv2 q a b op else none
   | _=>none
  | _=>none
 | .unOp .not _ x=>match ev E x with
  | some (.bool b)=>some (.bool (!b))
  | _=>none
 | .nilCheck x=>match ev E x with
  | some (.pointer (some p))=>some (.pointer (some p))
  | _=>none
 | .fieldAddr T x i=>match tbL tb T i with
  | some o=>match ev E x with
   | some (.pointer (some ⟨b,off,none⟩))=>some (.pointer (some ⟨b,off+o,none⟩))
   | _=>none
  | none=>none
 | _=>none
end
theorem AcJ {tb:List (Nat×List Nat)} (ht:AllOk P tb) {o:Oper} {v:Value} {a:Act} (h:pv tb E o.op=some v) (D:Ok n E a):(execOp a.eval o).run P w=.ok (.value v) w:=by
 obtain ⟨Y,J,ty,pos,af,g⟩:=o
 simp only at h
 cases J <;> simp only [pv] at h
 case move x=>simp [execOp,D.eval h]
 case assign x=>simp [execOp,D.eval h]
 case pick c x y=>
  split at h
  · rename_i b U
    cases b with
    | true=>simp only [cond_true] at h; simp [execOp,D.eval U,D.eval h,asBool]
    | false=>simp only [cond_false] at h; simp [execOp,D.eval U,D.eval h,asBool]
  · cases h
 case extract x i=>
  split at h
  · rename_i vs G; simp [execOp,D.eval G,Instr.extract,h]
  · cases h
 case binOp J T x y T'=>
  split at h
  · rename_i q a G
    split at h
    · rename_i q' b V
      split at h
      · rename_i W; subst W
        have hg:(eqGuard J T x y (.int q a) (.int q b)).run P w=.ok () w:=by unfold eqGuard; cases J <;> rfl
        have Z:(Go.binOp J T (.int q a) (.int q b)).run P w=.ok v w:=by cases J <;> simp only [pv2] at h <;> cases h <;> simp [Go.binOp,Op.intArith,Op.intBits,Op.intCmp,nC,bor,Z4,AbZ]
        simp only [execOp,D.eval G,D.eval V,Sem.run_bind,hg,Result.andThen_ok,Z,Sem.run_pure]
      · cases h
    · cases h
  · cases h
 case nilCheck x=>
  split at h
  · rename_i p G; cases h; simp [execOp,D.eval G]
  · cases h
 case fieldAddr T x i=>
  split at h
  · rename_i o' O
    split at h
    · rename_i b off G
      cases h
      obtain ⟨fs,f,s,hT,hi,hs,rfl⟩:=ht.get O
      have e:(⟨b,off,none⟩:Addr).add f.offset=⟨b,off+f.offset,none⟩:=by unfold Addr.add; split <;> simp_all
      simp [execOp,D.eval G,Instr.fieldAt,run_underlying hT,hi,Instr.sureAddr,fieldPlace,hs,e]
    · cases h
  · cases h
 case unOp J T x=>
  cases J <;> simp only at h
  case not=>
    split at h
    · rename_i b G; cases h; simp [execOp,D.eval G,Op.unary]
    · cases h
  all_goals cases h
 all_goals cases h
def rmS (d:Nat):D7→Option D7
 | []=>some []
 | p :: r=>match rmS d r with
  | some r'=>bif Nat.beq p.1 d then some r' else some (p :: r')
  | none=>none
theorem xE:∀ {E E':D7},rmS d E=some E'→E'=rmE d E
 | [],_,h=>by cases h; rfl
 | p :: r,E',h=>by
  simp only [rmS] at h
  split at h
  · rename_i r' D
    have:=xE D; subst this
    cases hb:Nat.beq p.1 d <;> rw [hb] at h <;> cases h <;> simp [rmE,hb]
  · cases h
def uR (n:FrK) (d:Nat) (v:Value) (E:D7):Option D7:=
 bif Nat.blt d n.sz then (bif fresh E d then some ((d,v) :: E) else match rmS d E with
  | some E'=>some ((d,v) :: E')
  | none=>none) else none
theorem sR {v:Value} {E':D7} {a:Act} (h:uR n d v E=some E') (D:Ok n E a):Ok n E' (a.put (some d) v):=by
 unfold uR at h
 cases hb:Nat.blt d n.sz with
 | false=>rw [hb] at h; cases h
 | true=>
  rw [hb] at h
  cases hf:fresh E d with
  | true=>rw [hf] at h; cases h; exact D.put hb hf v
  | false=>
   rw [hf] at h; simp only [cond_true,cond_false] at h
   split at h
   · rename_i E2 G
     cases h
     have:=xE G; subst this
     exact Ok.put ⟨D.size,D.defers,kO d D.env⟩ hb (WN d E) v
   · cases h
def nS (tb:List (Nat×List Nat)) (ops:Array Oper) (n:FrK) (o:Oper) (E:D7):Option D7:=
 match AaF ops E o.guard with
 | none=>none
 | some false=>match o.dst with
  | none=>some E
  | some d=>uR n d undef E
 | some true=>match o.dst with
  | none=>none
  | some d=>match pv tb E o.op with
   | none=>none
   | some v=>uR n d v E
theorem cW {o:Oper} {b:Bool} {a:Act} (h:AaF ops E o.guard=some b) (U:Ok n E a):Region.wanted o (yielded ops a.tmps)=b:=by
 unfold AaF at h
 unfold Region.wanted
 split at h
 · rename_i D; cases h; simp [D]
 · rename_i j b' D
   split at h
   · cases h
   · rename_i s O
     split at h
     · rename_i c J
       have G:=YA (ops:=ops) O (U.env.look J)
       cases h; simp only [D,G]; cases b' <;> cases c <;> rfl
     · rename_i t J
       have G:yielded ops a.tmps j=none:=by
        have h:=U.env.look J
        simp only [eQ] at O
        simp [yielded,O,h]
       cases h; simp [D,G]
     · cases h
theorem eZ {tb:List (Nat×List Nat)} (U:AllOk P tb) {o:Oper} {E':D7} (h:nS tb ops n o E=some E') (k:Ops P ops l n E' S Q):Ops P ops (o :: l) n E S Q:=by
 intro a w D O
 unfold nS at h
 unfold wpListIn
 split at h
 · cases h
 · rename_i J
   rw [cW J D,if_neg (by simp)]
   split at h
   · rename_i G; cases h
     refine ⟨fun _ _=>trivial,?_⟩
     simp only [G]
     exact k _ _ D O
   · rename_i d G
     refine ⟨fun _ _=>trivial,?_⟩
     simp only [G]
     exact k _ _ (sR h D) O
 · rename_i J
   rw [cW J D,if_pos rfl]
   split at h
   · cases h
   · rename_i d G
     split at h
     · cases h
     · rename_i v V
       refine Z3 (AcJ U V D) (by simp) ?_
       simp only [Oper.uponIn,G]
       exact k _ _ (sR h D) O
def fA (tb:List (Nat×List Nat)) (ops:Array Oper) (n:FrK):Nat→List Oper→D7→Option (List Oper×D7)
 | 0,l,E=>some (l,E)
 | _+1,[],_=>none
 | k+1,o :: l,E=>match nS tb ops n o E with | some E'=>fA tb ops n k l E' | none=>none
theorem Ops.ksT {tb:List (Nat×List Nat)} (G:AllOk P tb) {D:List Oper} {E':D7} (k:Nat) (h:fA tb ops n k l E=some (D,E')) (J:Ops P ops D n E' S Q):Ops P ops l n E S Q:=by
 induction k generalizing l E with
 | zero=>simp only [fA,Option.some.injEq,Prod.mk.injEq] at h; obtain ⟨rfl,rfl⟩:=h; exact J
 | succ k U=>
  cases l with
  | nil=>cases h
  | cons o l=>
   simp only [fA] at h
   split at h
   · rename_i E2 O; exact eZ G O (U h)
   · cases h
theorem Cod.sr {id:Nat} {l:List Oper} {y:Code} (h:Ops P l.toArray l n E S (Exit.then (y.wpIn (SP n) 0 P Q) Q)):Cod P (.seq (.region id l.toArray false) y) n E S Q:=Cod.seq (Cod.region h)
def sS (tb:List (Nat×List Nat)) (ops:Array Oper) (n:FrK) (E:D7) (o:Oper):Option (Nat×Value):=
 match o.dst with
 | none=>none
 | some d=>bif Nat.blt d n.sz && fresh E d then (match AaF ops E o.guard with
  | none=>none
  | some false=>some (d,undef)
  | some true=>match pv tb E o.op with
   | none=>none
   | some v=>some (d,v)) else none
theorem ZE {tb:List (Nat×List Nat)} (U:AllOk P tb) {o:Oper} {v:Value} (h:sS tb ops n E o=some (d,v)):o.dst=some d∧Ops P ops [o] n E S (Fin n S d v):=by
 unfold sS at h
 split at h
 · cases h
 · rename_i J G
   cases hb:(Nat.blt J n.sz && fresh E J) with
   | false=>rw [hb] at h; cases h
   | true=>
    rw [hb] at h
    rw [Bool.and_eq_true] at hb
    simp only [cond_true] at h
    have D:∀ u,uR n J u E=some ((J,u) :: E):=fun u=>by simp [uR,hb.1,hb.2]
    split at h
    · cases h
    · rename_i O; cases h
      exact ⟨G,eZ U (by unfold nS; rw [O]; simp only [G]; exact D _) Fin.mk⟩
    · rename_i O
      split at h
      · cases h
      · rename_i v' V; cases h
        exact ⟨G,eZ U (by unfold nS; rw [O]; simp only [G,V]; exact D _) Fin.mk⟩
def so:List Nat→List (Option Nat)
 | []=>[]
 | i :: r=>(bif Nat.beq i 999 then none else some i) :: so r
def ZF:List HA→List HA→List HA
 | [],ex=>ex
 | A :: r,ex=>A :: ZF r ex
theorem ZG {X:HA} :∀ {r:List HA},Del (ZF r (X :: ex)) X (ZF r ex)
 | []=>.z
 | _ :: _=>.s ZG
theorem nT:∀ {r:List HA},r=ZF r []
 | []=>rfl
 | A :: _=>congrArg (A :: ·) nT
def Ac3 (P:Program) (n:FrK) (l:List Oper) (cs:List (Option Nat)) (t:Nat):Bool:=
 P.follows .mixedOrders && (YB n (l.take t) [] && (YC l 0 && (S8 (l.drop t) t && (eX (PO cs) && (Nat.ble t l.length && ((PO cs).all (Nat.blt · t) && O8 (PO cs) t))))))
theorem Cod.dr {id:Nat} {l:List Oper} (cs:List Nat) (t:Nat) (h:DrawD P l.toArray n Q w0 M I0 E (so cs) [] [] [] [] I (ZF l0))
  (D:Ac3 P n l (so cs) t=true:=by kernel_rfl):Cod P (.region id l.toArray true) n E (Sym w0 M I0 I l0) Q:=by
 unfold Ac3 at D
 simp only [Bool.and_eq_true] at D
 obtain ⟨Y,W,Z,V,J,O,U,G⟩:=D
 exact Cod.draw (so cs) t Y W Z V J O U G (ZF l0) (fun _ _=>ZG) nT h
section
variable {cs:List (Option Nat)} {c:Nat} {dn:HM} {X pend:List Nat} {as:List AS} {L:Sh} {o:Oper} {v:Value}
theorem DrawD.g (G:ops[c]? = some o) (J:o.dst=some d) (D:fresh E d=true) (h:∀ ex,Ops P ops [o] n (JK dn (EO o) E) (Sym w0 M I0 I (L ex)) (Fin n (Sym w0 M I0 I (L ex)) d v))
 (k:DrawD P ops n Q w0 M I0 E cs ((c,d,v) :: dn) (c :: X) (c :: pend) as I L):DrawD P ops n Q w0 M I0 E (some c :: cs) dn X pend as I L:=DrawD.f (EO o) G rfl J D h k
def xF (tb:List (Nat×List Nat)) (ops:Array Oper) (n:FrK) (E:D7):Nat→List (Option Nat)→HM→List Nat→List Nat→Option (List (Option Nat)×HM×List Nat×List Nat)
 | 0,cs,dn,X,pd=>some (cs,dn,X,pd)
 | k+1,some c :: cs,dn,X,pd=>match ops[c]? with
  | none=>none
  | some o=>match sS tb ops n (JK dn (EO o) E) o with
   | none=>none
   | some (d,v)=>bif fresh E d then xF tb ops n E k cs ((c,d,v) :: dn) (c :: X) (c :: pd) else none
 | _+1,_,_,_,_=>none
theorem DrawD.fkT {tb:List (Nat×List Nat)} (O:AllOk P tb) {J:List (Option Nat)} {G:HM} {U D:List Nat} (k:Nat) (h:xF tb ops n E k cs dn X pend=some (J,G,U,D)) (W:DrawD P ops n Q w0 M I0 E J G U D as I L):DrawD P ops n Q w0 M I0 E cs dn X pend as I L:=by
 induction k generalizing cs dn X pend with
 | zero=>simp only [xF,Option.some.injEq,Prod.mk.injEq] at h; obtain ⟨rfl,rfl,rfl,rfl⟩:=h; exact W
 | succ k Z=>
  match cs,h with
  | some c :: cs,h=>
   simp only [xF] at h
   split at h
   · cases h
   · rename_i o Y
     split at h
     · cases h
     · rename_i d v V
       cases hb:fresh E d with
       | false=>rw [hb] at h; cases h
       | true=>
        rw [hb] at h
        exact DrawD.g Y (ZE (P:=P) (S:=fun _=>True) O V).1 hb (fun ex=>(ZE O V).2) (Z h)
  | none :: _,h=>cases h
  | [],h=>cases h
def AaG (ops:Array Oper):Nat→List Nat→List Nat
 | 0,A=>A
 | i+1,A=>AaG ops i (bif JJ A i then (match ops[i]? with | some o=>EO o++A | none=>A) else A)
def AcK (ops:Array Oper) (c:Nat):List Nat:=match ops[c]? with
 | some o=>AaG ops c (EO o)
 | none=>[]
theorem sU {c:Nat}:∀ (i:Nat) {A:List Nat},(∀ f∈A,∃ k,nD ops k f c=true)→∀ f∈AaG ops i A,∃ k,nD ops k f c=true
 | 0,_,h=>h
 | i+1,A,h=>by
  unfold AaG
  refine sU i ?_
  cases hm:JJ A i with
  | false=>exact h
  | true=>
   simp only [cond_true]
   split
   · rename_i o G
     intro f D
     rcases List.mem_append.1 D with D | D
     · obtain ⟨k,hk⟩:=h i (E3.1 hm)
       exact wQ (p:=i) (by unfold Z6; rw [G]; exact E3.2 D) hk
     · exact h f D
   · exact h
theorem AaH {c:Nat}:∀ f∈AcK ops c,∃ k,nD ops k f c=true:=by
 unfold AcK
 split
 · rename_i o D
   exact sU _ fun f h=>⟨1,nJ (by unfold Z6; rw [D]; exact E3.2 h)⟩
 · intro f h; cases h
def xG (A:List Nat):List Nat→List Nat
 | []=>[]
 | f :: r=>bif JJ A f then xG A r else f :: xG A r
theorem kS {c:Nat} {A:List Nat} (hA:∀ f∈A,∃ k,nD ops k f c=true):∀ {pend:List Nat},qN ops c (xG A pend) pend
  | [],f,hf=>nomatch hf
  | g :: r,f,hf=>by
    unfold xG
    cases hm:JJ A g with
    | true=>
      cases hf with
      | head=>exact .inr (hA _ (E3.1 hm))
      | tail _ hf=>simp only [cond_true]; exact kS hA f hf
    | false=>
      simp only [cond_false]
      cases hf with
      | head=>exact .inl (by simp)
      | tail _ hf => rcases kS hA f hf with h | h
                     · exact .inl (List.mem_cons_of_mem _ h)
                     · exact .inr h
def wB (ops:Array Oper) (as X:List Nat) (c:Nat) (o:Oper) (E:D7):Bool:=WM ops.toList (as++X) c 0 && (match o.dst with | none=>true | some d=>fresh E d)
theorem DrawD.ww (O:ops[c]? = some o) (h:∀ ex,Ops P ops [o] n (JK dn (EO o) E) (Sym w0 M I0 I (L ex)) (WPost P ops n E Q w0 M I0 o c cs dn X (xG (AcK ops c) pend) as ex))
  (G:wB ops (M8 as) X c o E=true:=by kernel_rfl):DrawD P ops n Q w0 M I0 E (some c :: cs) dn X pend as I L:=by
 unfold wB at G
 simp only [Bool.and_eq_true] at G
 have D:ST o E=E:=by
  unfold ST
  have J:=G.2
  split at J
  · rename_i D; rw [D]
  · rename_i d D; simp [D,J]
 exact ⟨o,O,.inr (.inr ⟨G.1,.inr D,_,kS AaH,by rw [D]; exact h⟩)⟩
def tkL:Nat→List HA→Option (List HA)
 | 0,_=>some []
 | _+1,[]=>none
 | k+1,A :: l=>match tkL k l with
  | some r=>some (A :: r)
  | none=>none
theorem WPost.so {h:List Nat} {E':D7} {pre:List HA} (D:Nat) (J:tkL D l0=.some pre) (he:ZF pre ex=l0) (G:o.dst=.some d) (hp:PendL P ops n E ((c,d,v) :: dn) (fun ex=>Sym w0 M I0 I (ZF pre ex)) h)
  (k:DrawD P ops n Q w0 M I0 E cs ((c,d,v) :: dn) (c :: X) h as I (ZF pre)):Ops P ops [] n ((d,v) :: E') (Sym w0 M I0 I l0) (WPost P ops n E Q w0 M I0 o c cs dn X h as ex):=
 WPost.some (ZF pre) he.symm (fun _ _=>ZG) G hp k
theorem WPost.sn {h:List Nat} {E':D7} {pre:List HA} (D:Nat) (J:tkL D l0=.some pre) (he:ZF pre ex=l0) (G:o.dst=.none) (hp:PendL P ops n E dn (fun ex=>Sym w0 M I0 I (ZF pre ex)) h)
  (k:DrawD P ops n Q w0 M I0 E cs dn (c :: X) h as I (ZF pre)):Ops P ops [] n E' (Sym w0 M I0 I l0) (WPost P ops n E Q w0 M I0 o c cs dn X h as ex):=
 WPost.none (ZF pre) he.symm (fun _ _=>ZG) G hp k
theorem DrawD.e2 (t:Nat) (k:Ops P ops (ops.toList.drop t) n (wP dn E) (Sym w0 M I0 I (L [])) Q) (h:(O8 X t && (X.all (Nat.blt · t) && S8 (ops.toList.drop t) t))=true:=by kernel_rfl):DrawD P ops n Q w0 M I0 E [] dn X pend [] I L:=by
 simp only [Bool.and_eq_true] at h
 exact DrawD.e t h.1 h.2.1 h.2.2 k
theorem PendL.cg {S:List HA→World→Prop} {f:Nat} {G:List Nat} (J:ops[f]? = some o) (O:o.dst=some d) (D:fresh E d=true) (U:H0 dn f=some (d,v)) (h:∀ ex,Ops P ops [o] n (JK dn (EO o) E) (S ex) (Fin n (S ex) d v))
 (k:PendL P ops n E dn S G):PendL P ops n E dn S (f :: G):=⟨⟨o,d,v,J,O,D,U,h⟩,k⟩
def xH (tb:List (Nat×List Nat)) (ops:Array Oper) (n:FrK) (E:D7) (dn:HM):Nat→List Nat→Option (List Nat×List (Option (Nat×Value))×List (Option (Nat×Value)))
 | 0,fs=>some (fs,[],[])
 | k+1,f :: fs=>match ops[f]? with
  | none=>none
  | some o=>match sS tb ops n (JK dn (EO o) E) o with
   | none=>none
   | some dv => bif fresh E dv.1 then (match xH tb ops n E dn k fs with
    | none=>none
    | some (g,A,B)=>some (g,H0 dn f :: A,some dv :: B)) else none
 | _+1,[]=>none
theorem PendL.ckT {tb:List (Nat×List Nat)} (J:AllOk P tb) {S:List HA→World→Prop} {g:List Nat} {A B:List (Option (Nat×Value))} (k:Nat) {G:List Nat} (h:xH tb ops n E dn k G=some (g,A,B)) (D:A=B) (U:PendL P ops n E dn S g):PendL P ops n E dn S G:=by
 induction k generalizing G A B with
 | zero=>simp only [xH,Option.some.injEq,Prod.mk.injEq] at h; obtain ⟨rfl,rfl,rfl⟩:=h; exact U
 | succ k Y=>
  cases G with
  | nil=>cases h
  | cons f G=>
   simp only [xH] at h
   split at h
   · cases h
   · rename_i o V
     split at h
     · cases h
     · rename_i Z O
       obtain ⟨d,v⟩:=Z
       cases hb:fresh E d with
       | false=>rw [hb] at h; cases h
       | true=>
        rw [hb] at h
        simp only [cond_true] at h
        split at h
        · cases h
        · rename_i g' A' B' W
          simp only [Option.some.injEq,Prod.mk.injEq] at h
          obtain ⟨rfl,rfl,rfl⟩:=h
          simp only [List.cons.injEq] at D
          exact PendL.cg V (ZE (P:=P) (S:=fun _=>True) J O).1 hb D.1 (fun ex=>(ZE J O).2) (Y W D.2)
end
end Go.Fw
