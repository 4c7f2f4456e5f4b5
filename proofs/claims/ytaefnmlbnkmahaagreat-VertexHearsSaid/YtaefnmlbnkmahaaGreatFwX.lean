/- The engine, part X: values by reckoning, drawn regions in short. -/
import Derived.Test.YtaefnmlbnkmahaaGreatFwZ
namespace Go.Fw
open Go Go.RowKit
variable {w0 w:World} {M:Nat→Prop} {I0 I:IH} {m m':List HA}
variable {P:Program} {n:FrK} {E:Env} {S:World→Prop} {Q:Exit→Act→World→Prop} {ops:Array Oper} {l:List Oper}
variable {d ty:Nat} {pos:String} {af:Array Edge}
/-! ### Values by reckoning -/
def pv2 (q:IntKind) (a b:Int):BinOp→Option Value
  | .add=>some (.int q (q.wrap (a+b)))
  | .sub=>some (.int q (q.wrap (a - b)))
  | .mul=>some (.int q (q.wrap (a*b)))
  | .and=>some (.int q (bnd q a b))
  | .or=>some (.int q (bor q a b))
  | .xor=>some (.int q (bxor q a b))
  | .andNot=>some (.int q (bandn q a b))
  | .eql=>some (.bool (a==b))
  | .neq=>some (.bool (a != b))
  | .lss=>some (.bool (decide (a<b)))
  | .leq=>some (.bool (decide (a≤b)))
  | .gtr=>some (.bool (decide (b<a)))
  | .geq=>some (.bool (decide (b≤a)))
  | _=>none
def pv (E:Env):Op→Option Value
  | .move x=>ev E x
  | .assign x=>ev E x
  | .pick c x y=>match ev E c with
    | some (.bool b)=>bif b then ev E x else ev E y
    | _=>none
  | .extract x i=>match ev E x with
    | some (.tuple vs)=>vs[i]?
    | _=>none
  | .binOp op _ x y _=>match ev E x with
    | some (.int q a)=>match ev E y with
      | some (.int q' b)=>if q=q' then pv2 q a b op else none
      | _=>none
    | _=>none
  | .unOp .not _ x=>match ev E x with
    | some (.bool b)=>some (.bool (!b))
    | _=>none
  | _=>none
theorem pv_run {o:Oper} {v:Value} {a:Act} (h:pv E o.op=some v) (ho:Ok n E a):(execOp a.eval o).run P w=.ok (.value v) w:=by
  obtain ⟨dst,op,ty,pos,af,g⟩:=o
  simp only at h
  cases op <;> simp only [pv] at h
  case move x=>simp [execOp,ho.eval h]
  case assign x=>simp [execOp,ho.eval h]
  case pick c x y=>
    split at h
    · rename_i b hc
      cases b with
      | true=>simp only [cond_true] at h; simp [execOp,ho.eval hc,ho.eval h,asBool]
      | false=>simp only [cond_false] at h; simp [execOp,ho.eval hc,ho.eval h,asBool]
    · cases h
  case extract x i=>
    split at h
    · rename_i vs hx; simp [execOp,ho.eval hx,Instr.extract,h]
    · cases h
  case binOp op T x y T'=>
    split at h
    · rename_i q a hx
      split at h
      · rename_i q' b hy
        split at h
        · rename_i hq; subst hq
          have hg:(eqGuard op T x y (.int q a) (.int q b)).run P w=.ok () w:=by unfold eqGuard; cases op <;> rfl
          have hr:(Go.binOp op T (.int q a) (.int q b)).run P w=.ok v w:=by cases op <;> simp only [pv2] at h <;> cases h <;> simp [Go.binOp,Op.intArith,Op.intBits,Op.intCmp,bnd,bor,bxor,bandn]
          simp only [execOp,ho.eval hx,ho.eval hy,Sem.run_bind,hg,Result.andThen_ok,hr,Sem.run_pure]
        · cases h
      · cases h
    · cases h
  case unOp op T x=>
    cases op <;> simp only at h
    case not=>
      split at h
      · rename_i b hx; cases h; simp [execOp,ho.eval hx,Op.unary]
      · cases h
    all_goals cases h
  all_goals cases h
def rmS (d:Nat):Env→Option Env
  | []=>some []
  | p :: r=>match rmS d r with
    | some r'=>bif Nat.beq p.1 d then some r' else some (p :: r')
    | none=>none
theorem rmS_eq:∀ {E E':Env},rmS d E=some E'→E'=rmE d E
  | [],_,h=>by cases h; rfl
  | p :: r,E',h=>by
    simp only [rmS] at h
    split at h
    · rename_i r' hr
      have:=rmS_eq hr; subst this
      cases hb:Nat.beq p.1 d <;> rw [hb] at h <;> cases h <;> simp [rmE,hb]
    · cases h
def putX (n:FrK) (d:Nat) (v:Value) (E:Env):Option Env:=
  bif Nat.blt d n.sz then (bif fresh E d then some ((d,v) :: E) else match rmS d E with
    | some E'=>some ((d,v) :: E')
    | none=>none) else none
theorem putX_ok {v:Value} {E':Env} {a:Act} (h:putX n d v E=some E') (ho:Ok n E a):Ok n E' (a.put (some d) v):=by
  unfold putX at h
  cases hb:Nat.blt d n.sz with
  | false=>rw [hb] at h; cases h
  | true=>
    rw [hb] at h
    cases hf:fresh E d with
    | true=>rw [hf] at h; cases h; exact ho.put hb hf v
    | false=>
      rw [hf] at h; simp only [cond_true,cond_false] at h
      split at h
      · rename_i E2 h2
        cases h
        have:=rmS_eq h2; subst this
        exact Ok.put ⟨ho.size,ho.defers,rmE_ok d ho.env⟩ hb (rmE_fresh d E) v
      · cases h
def stepX (ops:Array Oper) (n:FrK) (o:Oper) (E:Env):Option Env:=
  match actB ops E o.guard with
  | none=>none
  | some false=>match o.dst with
    | none=>some E
    | some d=>putX n d undef E
  | some true=>match o.dst with
    | none=>none
    | some d=>match pv E o.op with
      | none=>none
      | some v=>putX n d v E
theorem actB_wanted {o:Oper} {b:Bool} {a:Act} (h:actB ops E o.guard=some b) (ho:Ok n E a):Region.wanted o (yielded ops a.tmps)=b:=by
  unfold actB at h
  unfold Region.wanted
  split at h
  · rename_i hg; cases h; simp [hg]
  · rename_i j b' hg
    split at h
    · cases h
    · rename_i s hs
      split at h
      · rename_i c hc
        have hy:=yielded_of (ops:=ops) hs (ho.env.look hc)
        cases h; simp only [hg,hy]; cases b' <;> cases c <;> rfl
      · rename_i t hc
        have hy:yielded ops a.tmps j=none:=by
          have h:=ho.env.look hc
          simp only [gslot] at hs
          simp [yielded,hs,h]
        cases h; simp [hg,hy]
      · cases h
theorem stepX_ok {o:Oper} {E':Env} (h:stepX ops n o E=some E') (k:Ops P ops l n E' S Q):Ops P ops (o :: l) n E S Q:=by
  intro a w ho hs
  unfold stepX at h
  unfold wpListIn
  split at h
  · cases h
  · rename_i hg
    rw [actB_wanted hg ho,if_neg (by simp)]
    split at h
    · rename_i hd; cases h
      refine ⟨fun _ _=>trivial,?_⟩
      simp only [hd]
      exact k _ _ ho hs
    · rename_i d hd
      refine ⟨fun _ _=>trivial,?_⟩
      simp only [hd]
      exact k _ _ (putX_ok h ho) hs
  · rename_i hg
    rw [actB_wanted hg ho,if_pos rfl]
    split at h
    · cases h
    · rename_i d hd
      split at h
      · cases h
      · rename_i v hv
        refine opIn (pv_run hv ho) (by simp) ?_
        simp only [Oper.uponIn,hd]
        exact k _ _ (putX_ok h ho) hs
def runX (ops:Array Oper) (n:FrK):Nat→List Oper→Env→Option (List Oper×Env)
  | 0,l,E=>some (l,E)
  | _+1,[],_=>none
  | k+1,o :: l,E=>match stepX ops n o E with | some E'=>runX ops n k l E' | none=>none
theorem Ops.ks {l':List Oper} {E':Env} (k:Nat) (h:runX ops n k l E=some (l',E')) (h':Ops P ops l' n E' S Q):Ops P ops l n E S Q:=by
  induction k generalizing l E with
  | zero=>simp only [runX,Option.some.injEq,Prod.mk.injEq] at h; obtain ⟨rfl,rfl⟩:=h; exact h'
  | succ k ih=>
    cases l with
    | nil=>cases h
    | cons o l=>
      simp only [runX] at h
      split at h
      · rename_i E2 h2; exact stepX_ok h2 (ih h)
      · cases h
theorem Cod.sr {id:Nat} {l:List Oper} {y:Code} (h:Ops P l.toArray l n E S (Exit.then (y.wpIn (fen n) 0 P Q) Q)):Cod P (.seq (.region id l.toArray false) y) n E S Q:=Cod.seq (Cod.region h)
def pvVal (ops:Array Oper) (n:FrK) (E:Env) (o:Oper):Option (Nat×Value):=
  match o.dst with
  | none=>none
  | some d=>bif Nat.blt d n.sz && fresh E d then (match actB ops E o.guard with
    | none=>none
    | some false=>some (d,undef)
    | some true=>match pv E o.op with
      | none=>none
      | some v=>some (d,v)) else none
theorem pvVal_ok {o:Oper} {v:Value} (h:pvVal ops n E o=some (d,v)):o.dst=some d∧Ops P ops [o] n E S (Fin n S d v):=by
  unfold pvVal at h
  split at h
  · cases h
  · rename_i d' hd
    cases hb:(Nat.blt d' n.sz && fresh E d') with
    | false=>rw [hb] at h; cases h
    | true=>
      rw [hb] at h
      rw [Bool.and_eq_true] at hb
      simp only [cond_true] at h
      have hput:∀ u,putX n d' u E=some ((d',u) :: E):=fun u=>by simp [putX,hb.1,hb.2]
      split at h
      · cases h
      · rename_i hg; cases h
        exact ⟨hd,stepX_ok (by unfold stepX; rw [hg]; simp only [hd]; exact hput _) Fin.mk⟩
      · rename_i hg
        split at h
        · cases h
        · rename_i v' hv; cases h
          exact ⟨hd,stepX_ok (by unfold stepX; rw [hg]; simp only [hd,hv]; exact hput _) Fin.mk⟩
def so:List Nat→List (Option Nat)
  | []=>[]
  | i :: r=>(bif Nat.beq i 999 then none else some i) :: so r
def appL:List HA→List HA→List HA
  | [],ex=>ex
  | A :: r,ex=>A :: appL r ex
theorem appL_del {X:HA} {ex:List HA}:∀ {r:List HA},Del (appL r (X :: ex)) X (appL r ex)
  | []=>.z
  | _ :: _=>.s appL_del
theorem appL_nil:∀ {r:List HA},r=appL r []
  | []=>rfl
  | A :: _=>congrArg (A :: ·) appL_nil
def drawB (P:Program) (n:FrK) (l:List Oper) (cs:List (Option Nat)) (t:Nat):Bool:=
  P.follows .mixedOrders && (dstsOk n (l.take t) [] && (backOk l 0 && (tailOk (l.drop t) t && (nodupN (csI cs) && (Nat.ble t l.length && ((csI cs).all (Nat.blt · t) && complete (csI cs) t))))))
theorem Cod.dr {id:Nat} {l:List Oper} {l0:List HA} (cs:List Nat) (t:Nat) (h:DrawD P l.toArray n Q w0 M I0 E (so cs) [] [] [] [] I (appL l0))
    (hb:drawB P n l (so cs) t=true:=by kernel_rfl):Cod P (.region id l.toArray true) n E (Sym w0 M I0 I l0) Q:=by
  unfold drawB at hb
  simp only [Bool.and_eq_true] at hb
  obtain ⟨hm,h1,h2,h3,h4,h5,h6,h7⟩:=hb
  exact Cod.draw (so cs) t hm h1 h2 h3 h4 h5 h6 h7 (appL l0) (fun _ _=>appL_del) appL_nil h
section
variable {cs:List (Option Nat)} {c:Nat} {dn:Done} {X pend:List Nat} {as:List AS} {L:Sh} {o:Oper} {v:Value}
theorem DrawD.g (ho:ops[c]? = some o) (hd:o.dst=some d) (hfr:fresh E d=true) (h:∀ ex,Ops P ops [o] n (selE dn (hard o) E) (Sym w0 M I0 I (L ex)) (Fin n (Sym w0 M I0 I (L ex)) d v))
    (k:DrawD P ops n Q w0 M I0 E cs ((c,d,v) :: dn) (c :: X) (c :: pend) as I L):DrawD P ops n Q w0 M I0 E (some c :: cs) dn X pend as I L:=DrawD.f (hard o) ho rfl hd hfr h k
def dskX (ops:Array Oper) (n:FrK) (E:Env):Nat→List (Option Nat)→Done→List Nat→List Nat→Option (List (Option Nat)×Done×List Nat×List Nat)
  | 0,cs,dn,X,pd=>some (cs,dn,X,pd)
  | k+1,some c :: cs,dn,X,pd=>match ops[c]? with
    | none=>none
    | some o=>match pvVal ops n (selE dn (hard o) E) o with
      | none=>none
      | some (d,v)=>bif fresh E d then dskX ops n E k cs ((c,d,v) :: dn) (c :: X) (c :: pd) else none
  | _+1,_,_,_,_=>none
theorem DrawD.fk {cs':List (Option Nat)} {dn':Done} {X' pd':List Nat} (k:Nat) (h:dskX ops n E k cs dn X pend=some (cs',dn',X',pd')) (kk:DrawD P ops n Q w0 M I0 E cs' dn' X' pd' as I L):DrawD P ops n Q w0 M I0 E cs dn X pend as I L:=by
  induction k generalizing cs dn X pend with
  | zero=>simp only [dskX,Option.some.injEq,Prod.mk.injEq] at h; obtain ⟨rfl,rfl,rfl,rfl⟩:=h; exact kk
  | succ k ih=>
    match cs,h with
    | some c :: cs,h=>
      simp only [dskX] at h
      split at h
      · cases h
      · rename_i o ho
        split at h
        · cases h
        · rename_i d v hv
          cases hb:fresh E d with
          | false=>rw [hb] at h; cases h
          | true=>
            rw [hb] at h
            exact DrawD.g ho (pvVal_ok (P:=P) (S:=fun _=>True) hv).1 hb (fun ex=>(pvVal_ok hv).2) (ih h)
    | none :: _,h=>cases h
    | [],h=>cases h
def ancG (ops:Array Oper):Nat→List Nat→List Nat
  | 0,A=>A
  | i+1,A=>ancG ops i (bif memN A i then (match ops[i]? with | some o=>hard o++A | none=>A) else A)
def ancL (ops:Array Oper) (c:Nat):List Nat:=match ops[c]? with
  | some o=>ancG ops c (hard o)
  | none=>[]
theorem ancG_ok {c:Nat}:∀ (i:Nat) {A:List Nat},(∀ f∈A,∃ k,anc ops k f c=true)→∀ f∈ancG ops i A,∃ k,anc ops k f c=true
  | 0,_,h=>h
  | i+1,A,h=>by
    unfold ancG
    refine ancG_ok i ?_
    cases hm:memN A i with
    | false=>exact h
    | true=>
      simp only [cond_true]
      split
      · rename_i o ho
        intro f hf
        rcases List.mem_append.1 hf with hf | hf
        · obtain ⟨k,hk⟩:=h i (memN_iff.1 hm)
          exact anc_step (p:=i) (by unfold memHard; rw [ho]; exact memN_iff.2 hf) hk
        · exact h f hf
      · exact h
theorem ancL_ok {c:Nat}:∀ f∈ancL ops c,∃ k,anc ops k f c=true:=by
  unfold ancL
  split
  · rename_i o ho
    exact ancG_ok _ fun f hf=>⟨1,anc_hard (by unfold memHard; rw [ho]; exact memN_iff.2 hf)⟩
  · intro f hf; cases hf
def outL (A:List Nat):List Nat→List Nat
  | []=>[]
  | f :: r=>bif memN A f then outL A r else f :: outL A r
theorem outL_ok {c:Nat} {A:List Nat} (hA:∀ f∈A,∃ k,anc ops k f c=true):∀ {pend:List Nat},PendOk ops c (outL A pend) pend
  | [],f,hf=>nomatch hf
  | g :: r,f,hf=>by
    unfold outL
    cases hm:memN A g with
    | true=>
      cases hf with
      | head=>exact .inr (hA _ (memN_iff.1 hm))
      | tail _ hf=>simp only [cond_true]; exact outL_ok hA f hf
    | false=>
      simp only [cond_false]
      cases hf with
      | head=>exact .inl (by simp)
      | tail _ hf => rcases outL_ok hA f hf with h | h
                     · exact .inl (List.mem_cons_of_mem _ h)
                     · exact .inr h
def wB (ops:Array Oper) (as X:List Nat) (c:Nat) (o:Oper) (E:Env):Bool:=blocked ops.toList (as++X) c 0 && (match o.dst with | none=>true | some d=>fresh E d)
theorem DrawD.ww (ho:ops[c]? = some o) (h:∀ ex,Ops P ops [o] n (selE dn (hard o) E) (Sym w0 M I0 I (L ex)) (WPost P ops n E Q w0 M I0 o c cs dn X (outL (ancL ops c) pend) as ex))
    (hb:wB ops (asI as) X c o E=true:=by kernel_rfl):DrawD P ops n Q w0 M I0 E (some c :: cs) dn X pend as I L:=by
  unfold wB at hb
  simp only [Bool.and_eq_true] at hb
  have hd:dropE o E=E:=by
    unfold dropE
    have h2:=hb.2
    split at h2
    · rename_i hd; rw [hd]
    · rename_i d hd; simp [hd,h2]
  exact ⟨o,ho,.inr (.inr ⟨hb.1,.inr hd,_,outL_ok ancL_ok,by rw [hd]; exact h⟩)⟩
def tkL:Nat→List HA→Option (List HA)
  | 0,_=>some []
  | _+1,[]=>none
  | k+1,A :: l=>match tkL k l with
    | some r=>some (A :: r)
    | none=>none
theorem WPost.so {pend':List Nat} {E':Env} {ex l0 pre:List HA} (k':Nat) (_ht:tkL k' l0=.some pre) (he:appL pre ex=l0) (hd:o.dst=.some d) (hp:PendL P ops n E ((c,d,v) :: dn) (fun ex=>Sym w0 M I0 I (appL pre ex)) pend')
    (k:DrawD P ops n Q w0 M I0 E cs ((c,d,v) :: dn) (c :: X) pend' as I (appL pre)):Ops P ops [] n ((d,v) :: E') (Sym w0 M I0 I l0) (WPost P ops n E Q w0 M I0 o c cs dn X pend' as ex):=
  WPost.some (appL pre) he.symm (fun _ _=>appL_del) hd hp k
theorem WPost.sn {pend':List Nat} {E':Env} {ex l0 pre:List HA} (k':Nat) (_ht:tkL k' l0=.some pre) (he:appL pre ex=l0) (hd:o.dst=.none) (hp:PendL P ops n E dn (fun ex=>Sym w0 M I0 I (appL pre ex)) pend')
    (k:DrawD P ops n Q w0 M I0 E cs dn (c :: X) pend' as I (appL pre)):Ops P ops [] n E' (Sym w0 M I0 I l0) (WPost P ops n E Q w0 M I0 o c cs dn X pend' as ex):=
  WPost.none (appL pre) he.symm (fun _ _=>appL_del) hd hp k
theorem DrawD.e2 (t:Nat) (k:Ops P ops (ops.toList.drop t) n (allE dn E) (Sym w0 M I0 I (L [])) Q) (hb:(complete X t && (X.all (Nat.blt · t) && tailOk (ops.toList.drop t) t))=true:=by kernel_rfl):DrawD P ops n Q w0 M I0 E [] dn X pend [] I L:=by
  simp only [Bool.and_eq_true] at hb
  exact DrawD.e t hb.1 hb.2.1 hb.2.2 k
theorem PendL.cg {S:List HA→World→Prop} {f:Nat} {fs:List Nat} (ho:ops[f]? = some o) (hd:o.dst=some d) (hfr:fresh E d=true) (hl:dlook dn f=some (d,v)) (h:∀ ex,Ops P ops [o] n (selE dn (hard o) E) (S ex) (Fin n (S ex) d v))
    (k:PendL P ops n E dn S fs):PendL P ops n E dn S (f :: fs):=⟨⟨o,d,v,ho,hd,hfr,hl,h⟩,k⟩
def cskX (ops:Array Oper) (n:FrK) (E:Env) (dn:Done):Nat→List Nat→Option (List Nat×List (Option (Nat×Value))×List (Option (Nat×Value)))
  | 0,fs=>some (fs,[],[])
  | k+1,f :: fs=>match ops[f]? with
    | none=>none
    | some o=>match pvVal ops n (selE dn (hard o) E) o with
      | none=>none
      | some dv => bif fresh E dv.1 then (match cskX ops n E dn k fs with
            | none=>none
            | some (g,A,B)=>some (g,dlook dn f :: A,some dv :: B)) else none
  | _+1,[]=>none
theorem PendL.ck {S:List HA→World→Prop} {g:List Nat} {A B:List (Option (Nat×Value))} (k:Nat) {fs:List Nat} (h:cskX ops n E dn k fs=some (g,A,B)) (hAB:A=B) (kk:PendL P ops n E dn S g):PendL P ops n E dn S fs:=by
  induction k generalizing fs A B with
  | zero=>simp only [cskX,Option.some.injEq,Prod.mk.injEq] at h; obtain ⟨rfl,rfl,rfl⟩:=h; exact kk
  | succ k ih=>
    cases fs with
    | nil=>cases h
    | cons f fs=>
      simp only [cskX] at h
      split at h
      · cases h
      · rename_i o ho
        split at h
        · cases h
        · rename_i dv hv
          obtain ⟨d,v⟩:=dv
          cases hb:fresh E d with
          | false=>rw [hb] at h; cases h
          | true=>
            rw [hb] at h
            simp only [cond_true] at h
            split at h
            · cases h
            · rename_i g' A' B' hc
              simp only [Option.some.injEq,Prod.mk.injEq] at h
              obtain ⟨rfl,rfl,rfl⟩:=h
              simp only [List.cons.injEq] at hAB
              exact PendL.cg ho (pvVal_ok (P:=P) (S:=fun _=>True) hv).1 hb hAB.1 (fun ex=>(pvVal_ok hv).2) (ih hc hAB.2)
end
end Go.Fw
