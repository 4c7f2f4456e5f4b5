/- The engine, part X: values by reckoning, drawn regions in short. -/
import Derived.Test.YtbohadngdkjljaaGreatFwZ
namespace Go.Fw
open Go Go.RowKit
variable {w0 w:World} {M:Nat→Prop} {I0 I:IH} {m m':List HA}
variable {P:Program} {n:FrK} {E:DH} {S:World→Prop} {Q:Exit→Act→World→Prop} {ops:Array Oper} {l:List Oper}
variable {d ty:Nat} {pos:String} {af:Array Edge}
/-! ### Values by reckoning -/
def AbP (P:Program) (T i o:Nat):Prop:=∃ (fs:Array Field) (f:Field) (s:Nat),P.underlying T=some (.struct fs)∧fs[i]? = some f∧(∀ w,(sizeOf f.type).run P w=.ok (s+1) w)∧f.offset=o
def FOk (P:Program) (T:Nat):Nat→List Nat→Prop
  | _,[]=>True
  | i,o :: os=>AbP P T i o∧FOk P T (i+1) os
def AllOk (P:Program):List (Nat×List Nat)→Prop
  | []=>True
  | p :: r=>FOk P p.1 0 p.2∧AllOk P r
def tbL:List (Nat×List Nat)→Nat→Nat→Option Nat
  | [],_,_=>none
  | p :: r,T,i=>bif Nat.beq p.1 T then p.2[i]? else tbL r T i
theorem FOk.get {P:Program} {T:Nat}:∀ {os:List Nat} {k i o:Nat},FOk P T k os→os[i]? = some o→AbP P T (k+i) o
  | [],_,_,_,_,h=>by simp at h
  | _ :: _,k,0,_,h,e=>by simp only [List.getElem?_cons_zero,Option.some.injEq] at e; subst e; exact h.1
  | _ :: _,k,i+1,_,h,e=>by
    rw [List.getElem?_cons_succ] at e
    have:=FOk.get h.2 e
    rwa [show k+1+i=k+(i+1) by omega] at this
theorem AllOk.get {P:Program}:∀ {L:List (Nat×List Nat)} {T i o:Nat},AllOk P L→tbL L T i=some o→AbP P T i o
  | [],_,_,_,_,h=>by cases h
  | p :: r,T,i,o,h,e=>by
    simp only [tbL] at e
    cases hb:Nat.beq p.1 T with
    | true=>rw [hb] at e; have:=FOk.get h.1 e; rw [Nat.eq_of_beq_eq_true hb] at this; simpa using this
    | false=>rw [hb] at e; exact AllOk.get h.2 e
section
variable (tb:List (Nat×List Nat))
def pv2 (q:IntKind) (a b:Int):BinOp→Option Value
  | .add=>some (.int q (q.wrap (a+b)))
  | .sub=>some (.int q (q.wrap (a - b)))
  | .mul=>some (.int q (q.wrap (a*b)))
  | .and=>some (.int q (fU q a b))
  | .or=>some (.int q (bor q a b))
  | .xor=>some (.int q (Ae2 q a b))
  | .andNot=>some (.int q (xH q a b))
  | .eql=>some (.bool (a==b))
  | .neq=>some (.bool (a != b))
  | .lss=>some (.bool (decide (a<b)))
  | .leq=>some (.bool (decide (a≤b)))
  | .gtr=>some (.bool (decide (b<a)))
  | .geq=>some (.bool (decide (b≤a)))
  | _=>none
def pv (E:DH):Op→Option Value
  | .move x=>ev E x
  | .assign x=>ev E x
  | .pick c x y=>match ev E c with
    | some (.bool b)=>bif b then ev E x else ev E y
    | _=>none
  | .extract x i=>match ev E x with
    | some (.tuple vs)=>vs[i]?
    | _=>none
  | .binOp op _ x y _=>match ev E x with
    | some (.int q a)=>match ev E y with
      | some (.int q' b)=>if q=q' then pv2 q a b op else none
      | _=>none
    | _=>none
  | .unOp .not _ x=>match ev E x with
    | some (.bool b)=>some (.bool (!b))
    | _=>none
  | .nilCheck x=>match ev E x with
    | some (.pointer (some p))=>some (.pointer (some p))
    | _=>none
  | .fieldAddr T x i=>match tbL tb T i with
    | some o=>match ev E x with
      | some (.pointer (some ⟨b,off,none⟩))=>some (.pointer (some ⟨b,off+o,none⟩))
      | _=>none
    | none=>none
  | _=>none
end
theorem Ag6 {tb:List (Nat×List Nat)} (ht:AllOk P tb) {o:Oper} {v:Value} {a:Act} (h:pv tb E o.op=some v) (ho:Ok n E a):(execOp a.eval o).run P w=.ok (.value v) w:=by
  obtain ⟨dst,op,ty,pos,af,g⟩:=o
  simp only at h
  cases op <;> simp only [pv] at h
  case move x=>simp [execOp,ho.eval h]
  case assign x=>simp [execOp,ho.eval h]
  case pick c x y=>
    split at h
    · rename_i b hc
      cases b with
      | true=>simp only [cond_true] at h; simp [execOp,ho.eval hc,ho.eval h,asBool]
      | false=>simp only [cond_false] at h; simp [execOp,ho.eval hc,ho.eval h,asBool]
    · cases h
  case extract x i=>
    split at h
    · rename_i vs hx; simp [execOp,ho.eval hx,Instr.extract,h]
    · cases h
  case binOp op T x y T'=>
    split at h
    · rename_i q a hx
      split at h
      · rename_i q' b hy
        split at h
        · rename_i hq; subst hq
          have hg:(eqGuard op T x y (.int q a) (.int q b)).run P w=.ok () w:=by unfold eqGuard; cases op <;> rfl
          have hr:(Go.binOp op T (.int q a) (.int q b)).run P w=.ok v w:=by cases op <;> simp only [pv2] at h <;> cases h <;> simp [Go.binOp,Op.intArith,Op.intBits,Op.intCmp,fU,bor,Ae2,xH]
          simp only [execOp,ho.eval hx,ho.eval hy,Sem.run_bind,hg,Result.andThen_ok,hr,Sem.run_pure]
        · cases h
      · cases h
    · cases h
  case nilCheck x=>
    split at h
    · rename_i p hx; cases h; simp [execOp,ho.eval hx]
    · cases h
  case fieldAddr T x i=>
    split at h
    · rename_i o' hto
      split at h
      · rename_i b off hx
        cases h
        obtain ⟨fs,f,s,hT,hi,hs,rfl⟩:=ht.get hto
        have e:(⟨b,off,none⟩:Addr).add f.offset=⟨b,off+f.offset,none⟩:=by unfold Addr.add; split <;> simp_all
        simp [execOp,ho.eval hx,Instr.fieldAt,run_underlying hT,hi,Instr.sureAddr,fieldPlace,hs,e]
      · cases h
    · cases h
  case unOp op T x=>
    cases op <;> simp only at h
    case not=>
      split at h
      · rename_i b hx; cases h; simp [execOp,ho.eval hx,Op.unary]
      · cases h
    all_goals cases h
  all_goals cases h
def rmS (d:Nat):DH→Option DH
  | []=>some []
  | p :: r=>match rmS d r with
    | some r'=>bif Nat.beq p.1 d then some r' else some (p :: r')
    | none=>none
theorem vF:∀ {E E':DH},rmS d E=some E'→E'=rmE d E
  | [],_,h=>by cases h; rfl
  | p :: r,E',h=>by
    simp only [rmS] at h
    split at h
    · rename_i r' hr
      have:=vF hr; subst this
      cases hb:Nat.beq p.1 d <;> rw [hb] at h <;> cases h <;> simp [rmE,hb]
    · cases h
def Aa0 (n:FrK) (d:Nat) (v:Value) (E:DH):Option DH:=
  bif Nat.blt d n.sz then (bif fresh E d then some ((d,v) :: E) else match rmS d E with
    | some E'=>some ((d,v) :: E')
    | none=>none) else none
theorem xS {v:Value} {E':DH} {a:Act} (h:Aa0 n d v E=some E') (ho:Ok n E a):Ok n E' (a.put (some d) v):=by
  unfold Aa0 at h
  cases hb:Nat.blt d n.sz with
  | false=>rw [hb] at h; cases h
  | true=>
    rw [hb] at h
    cases hf:fresh E d with
    | true=>rw [hf] at h; cases h; exact ho.put hb hf v
    | false=>
      rw [hf] at h; simp only [cond_true,cond_false] at h
      split at h
      · rename_i E2 h2
        cases h
        have:=vF h2; subst this
        exact Ok.put ⟨ho.size,ho.defers,iC d ho.env⟩ hb (Y6 d E) v
      · cases h
def qT (tb:List (Nat×List Nat)) (ops:Array Oper) (n:FrK) (o:Oper) (E:DH):Option DH:=
  match nW ops E o.guard with
  | none=>none
  | some false=>match o.dst with
    | none=>some E
    | some d=>Aa0 n d undef E
  | some true=>match o.dst with
    | none=>none
    | some d=>match pv tb E o.op with
      | none=>none
      | some v=>Aa0 n d v E
theorem eY {o:Oper} {b:Bool} {a:Act} (h:nW ops E o.guard=some b) (ho:Ok n E a):Region.wanted o (yielded ops a.tmps)=b:=by
  unfold nW at h
  unfold Region.wanted
  split at h
  · rename_i hg; cases h; simp [hg]
  · rename_i j b' hg
    split at h
    · cases h
    · rename_i s hs
      split at h
      · rename_i c hc
        have hy:=ZL (ops:=ops) hs (ho.env.look hc)
        cases h; simp only [hg,hy]; cases b' <;> cases c <;> rfl
      · rename_i t hc
        have hy:yielded ops a.tmps j=none:=by
          have h:=ho.env.look hc
          simp only [Z2] at hs
          simp [yielded,hs,h]
        cases h; simp [hg,hy]
      · cases h
theorem iG {tb:List (Nat×List Nat)} (ht:AllOk P tb) {o:Oper} {E':DH} (h:qT tb ops n o E=some E') (k:Ops P ops l n E' S Q):Ops P ops (o :: l) n E S Q:=by
  intro a w ho hs
  unfold qT at h
  unfold wpListIn
  split at h
  · cases h
  · rename_i hg
    rw [eY hg ho,if_neg (by simp)]
    split at h
    · rename_i hd; cases h
      refine ⟨fun _ _=>trivial,?_⟩
      simp only [hd]
      exact k _ _ ho hs
    · rename_i d hd
      refine ⟨fun _ _=>trivial,?_⟩
      simp only [hd]
      exact k _ _ (xS h ho) hs
  · rename_i hg
    rw [eY hg ho,if_pos rfl]
    split at h
    · cases h
    · rename_i d hd
      split at h
      · cases h
      · rename_i v hv
        refine aM (Ag6 ht hv ho) (by simp) ?_
        simp only [Oper.uponIn,hd]
        exact k _ _ (xS h ho) hs
def iH (tb:List (Nat×List Nat)) (ops:Array Oper) (n:FrK):Nat→List Oper→DH→Option (List Oper×DH)
  | 0,l,E=>some (l,E)
  | _+1,[],_=>none
  | k+1,o :: l,E=>match qT tb ops n o E with | some E'=>iH tb ops n k l E' | none=>none
theorem Ops.ksT {tb:List (Nat×List Nat)} (ht:AllOk P tb) {l':List Oper} {E':DH} (k:Nat) (h:iH tb ops n k l E=some (l',E')) (h':Ops P ops l' n E' S Q):Ops P ops l n E S Q:=by
  induction k generalizing l E with
  | zero=>simp only [iH,Option.some.injEq,Prod.mk.injEq] at h; obtain ⟨rfl,rfl⟩:=h; exact h'
  | succ k ih=>
    cases l with
    | nil=>cases h
    | cons o l=>
      simp only [iH] at h
      split at h
      · rename_i E2 h2; exact iG ht h2 (ih h)
      · cases h
def AbQ:List Nat→DH→Option DH
  | [],E=>some E
  | d :: ds,E=>match rmS d E with
    | some E'=>AbQ ds E'
    | none=>none
theorem nX:∀ {ds:List Nat} {E E':DH} {a:Act},AbQ ds E=some E'→Ok n E a→Ok n E' a
  | [],_,_,_,h,ho=>by cases h; exact ho
  | d :: ds,E,E',a,h,ho=>by
    simp only [AbQ] at h
    split at h
    · rename_i E2 h2
      have:=vF h2; subst this
      exact nX h ⟨ho.size,ho.defers,iC d ho.env⟩
    · cases h
theorem Ops.rm {E':DH} (ds:List Nat) (h:AbQ ds E=some E') (k:Ops P ops l n E' S Q):Ops P ops l n E S Q:=fun a w ho hs=>k a w (nX h ho) hs
theorem Cod.rm {c:Code} {E':DH} (ds:List Nat) (h:AbQ ds E=some E') (k:Cod P c n E' S Q):Cod P c n E S Q:=fun a w ho hs=>k a w (nX h ho) hs
theorem Cod.sr {id:Nat} {l:List Oper} {y:Code} (h:Ops P l.toArray l n E S (Exit.then (y.wpIn (RJ n) 0 P Q) Q)):Cod P (.seq (.region id l.toArray false) y) n E S Q:=Cod.seq (Cod.region h)
def xT (tb:List (Nat×List Nat)) (ops:Array Oper) (n:FrK) (E:DH) (o:Oper):Option (Nat×Value):=
  match o.dst with
  | none=>none
  | some d=>bif Nat.blt d n.sz && fresh E d then (match nW ops E o.guard with
    | none=>none
    | some false=>some (d,undef)
    | some true=>match pv tb E o.op with
      | none=>none
      | some v=>some (d,v)) else none
theorem aS {tb:List (Nat×List Nat)} (ht:AllOk P tb) {o:Oper} {v:Value} (h:xT tb ops n E o=some (d,v)):o.dst=some d∧Ops P ops [o] n E S (Fin n S d v):=by
  unfold xT at h
  split at h
  · cases h
  · rename_i d' hd
    cases hb:(Nat.blt d' n.sz && fresh E d') with
    | false=>rw [hb] at h; cases h
    | true=>
      rw [hb] at h
      rw [Bool.and_eq_true] at hb
      simp only [cond_true] at h
      have hput:∀ u,Aa0 n d' u E=some ((d',u) :: E):=fun u=>by simp [Aa0,hb.1,hb.2]
      split at h
      · cases h
      · rename_i hg; cases h
        exact ⟨hd,iG ht (by unfold qT; rw [hg]; simp only [hd]; exact hput _) Fin.mk⟩
      · rename_i hg
        split at h
        · cases h
        · rename_i v' hv; cases h
          exact ⟨hd,iG ht (by unfold qT; rw [hg]; simp only [hd,hv]; exact hput _) Fin.mk⟩
def so:List Nat→List (Option Nat)
  | []=>[]
  | i :: r=>(bif Nat.beq i 999 then none else some i) :: so r
def aU:List HA→List HA→List HA
  | [],ex=>ex
  | A :: r,ex=>A :: aU r ex
theorem aV {X:HA} {ex:List HA}:∀ {r:List HA},Del (aU r (X :: ex)) X (aU r ex)
  | []=>.z
  | _ :: _=>.s aV
theorem qU:∀ {r:List HA},r=aU r []
  | []=>rfl
  | A :: _=>congrArg (A :: ·) qU
def AfU (P:Program) (n:FrK) (l:List Oper) (cs:List (Option Nat)) (t:Nat):Bool:=
  P.follows .mixedOrders && (ZM n (l.take t) [] && (ZN l 0 && (US (l.drop t) t && (iD (RK cs) && (Nat.ble t l.length && ((RK cs).all (Nat.blt · t) && PF (RK cs) t))))))
theorem Cod.dr {id:Nat} {l:List Oper} {l0:List HA} (cs:List Nat) (t:Nat) (h:DrawD P l.toArray n Q w0 M I0 E (so cs) [] [] [] [] I (aU l0))
    (hb:AfU P n l (so cs) t=true:=by kernel_rfl):Cod P (.region id l.toArray true) n E (Sym w0 M I0 I l0) Q:=by
  unfold AfU at hb
  simp only [Bool.and_eq_true] at hb
  obtain ⟨hm,h1,h2,h3,h4,h5,h6,h7⟩:=hb
  exact Cod.draw (so cs) t hm h1 h2 h3 h4 h5 h6 h7 (aU l0) (fun _ _=>aV) qU h
section
variable {cs:List (Option Nat)} {c:Nat} {dn:HE} {X pend:List Nat} {as:List AS} {L:Sh} {o:Oper} {v:Value}
theorem DrawD.g (ho:ops[c]? = some o) (hd:o.dst=some d) (hfr:fresh E d=true) (h:∀ ex,Ops P ops [o] n (IJ dn (EU o) E) (Sym w0 M I0 I (L ex)) (Fin n (Sym w0 M I0 I (L ex)) d v))
    (k:DrawD P ops n Q w0 M I0 E cs ((c,d,v) :: dn) (c :: X) (c :: pend) as I L):DrawD P ops n Q w0 M I0 E (some c :: cs) dn X pend as I L:=DrawD.f (EU o) ho rfl hd hfr h k
def AbR (tb:List (Nat×List Nat)) (ops:Array Oper) (n:FrK) (E:DH):Nat→List (Option Nat)→HE→List Nat→List Nat→Option (List (Option Nat)×HE×List Nat×List Nat)
  | 0,cs,dn,X,pd=>some (cs,dn,X,pd)
  | k+1,some c :: cs,dn,X,pd=>match ops[c]? with
    | none=>none
    | some o=>match xT tb ops n (IJ dn (EU o) E) o with
      | none=>none
      | some (d,v)=>bif fresh E d then AbR tb ops n E k cs ((c,d,v) :: dn) (c :: X) (c :: pd) else none
  | _+1,_,_,_,_=>none
theorem DrawD.fkT {tb:List (Nat×List Nat)} (ht:AllOk P tb) {cs':List (Option Nat)} {dn':HE} {X' pd':List Nat} (k:Nat) (h:AbR tb ops n E k cs dn X pend=some (cs',dn',X',pd')) (kk:DrawD P ops n Q w0 M I0 E cs' dn' X' pd' as I L):DrawD P ops n Q w0 M I0 E cs dn X pend as I L:=by
  induction k generalizing cs dn X pend with
  | zero=>simp only [AbR,Option.some.injEq,Prod.mk.injEq] at h; obtain ⟨rfl,rfl,rfl,rfl⟩:=h; exact kk
  | succ k ih=>
    match cs,h with
    | some c :: cs,h=>
      simp only [AbR] at h
      split at h
      · cases h
      · rename_i o ho
        split at h
        · cases h
        · rename_i d v hv
          cases hb:fresh E d with
          | false=>rw [hb] at h; cases h
          | true=>
            rw [hb] at h
            exact DrawD.g ho (aS (P:=P) (S:=fun _=>True) ht hv).1 hb (fun ex=>(aS ht hv).2) (ih h)
    | none :: _,h=>cases h
    | [],h=>cases h
def Ae9 (ops:Array Oper):Nat→List Nat→List Nat
  | 0,A=>A
  | i+1,A=>Ae9 ops i (bif KA A i then (match ops[i]? with | some o=>EU o++A | none=>A) else A)
def Ag7 (ops:Array Oper) (c:Nat):List Nat:=match ops[c]? with
  | some o=>Ae9 ops c (EU o)
  | none=>[]
theorem xU {c:Nat}:∀ (i:Nat) {A:List Nat},(∀ f∈A,∃ k,nP ops k f c=true)→∀ f∈Ae9 ops i A,∃ k,nP ops k f c=true
  | 0,_,h=>h
  | i+1,A,h=>by
    unfold Ae9
    refine xU i ?_
    cases hm:KA A i with
    | false=>exact h
    | true=>
      simp only [cond_true]
      split
      · rename_i o ho
        intro f hf
        rcases List.mem_append.1 hf with hf | hf
        · obtain ⟨k,hk⟩:=h i (DX.1 hm)
          exact qL (p:=i) (by unfold VY; rw [ho]; exact DX.2 hf) hk
        · exact h f hf
      · exact h
theorem AeA {c:Nat}:∀ f∈Ag7 ops c,∃ k,nP ops k f c=true:=by
  unfold Ag7
  split
  · rename_i o ho
    exact xU _ fun f hf=>⟨1,hZ (by unfold VY; rw [ho]; exact DX.2 hf)⟩
  · intro f hf; cases hf
def AbS (A:List Nat):List Nat→List Nat
  | []=>[]
  | f :: r=>bif KA A f then AbS A r else f :: AbS A r
theorem nY {c:Nat} {A:List Nat} (hA:∀ f∈A,∃ k,nP ops k f c=true):∀ {pend:List Nat},nQ ops c (AbS A pend) pend
  | [],f,hf=>nomatch hf
  | g :: r,f,hf=>by
    unfold AbS
    cases hm:KA A g with
    | true=>
      cases hf with
      | head=>exact .inr (hA _ (DX.1 hm))
      | tail _ hf=>simp only [cond_true]; exact nY hA f hf
    | false=>
      simp only [cond_false]
      cases hf with
      | head=>exact .inl (by simp)
      | tail _ hf => rcases nY hA f hf with h | h
                     · exact .inl (List.mem_cons_of_mem _ h)
                     · exact .inr h
def wB (ops:Array Oper) (as X:List Nat) (c:Nat) (o:Oper) (E:DH):Bool:=VZ ops.toList (as++X) c 0 && (match o.dst with | none=>true | some d=>fresh E d)
theorem DrawD.ww (ho:ops[c]? = some o) (h:∀ ex,Ops P ops [o] n (IJ dn (EU o) E) (Sym w0 M I0 I (L ex)) (WPost P ops n E Q w0 M I0 o c cs dn X (AbS (Ag7 ops c) pend) as ex))
    (hb:wB ops (ME as) X c o E=true:=by kernel_rfl):DrawD P ops n Q w0 M I0 E (some c :: cs) dn X pend as I L:=by
  unfold wB at hb
  simp only [Bool.and_eq_true] at hb
  have hd:RY o E=E:=by
    unfold RY
    have h2:=hb.2
    split at h2
    · rename_i hd; rw [hd]
    · rename_i d hd; simp [hd,h2]
  exact ⟨o,ho,.inr (.inr ⟨hb.1,.inr hd,_,nY AeA,by rw [hd]; exact h⟩)⟩
def tkL:Nat→List HA→Option (List HA)
  | 0,_=>some []
  | _+1,[]=>none
  | k+1,A :: l=>match tkL k l with
    | some r=>some (A :: r)
    | none=>none
theorem WPost.so {pend':List Nat} {E':DH} {ex l0 pre:List HA} (k':Nat) (_ht:tkL k' l0=.some pre) (he:aU pre ex=l0) (hd:o.dst=.some d) (hp:PendL P ops n E ((c,d,v) :: dn) (fun ex=>Sym w0 M I0 I (aU pre ex)) pend')
    (k:DrawD P ops n Q w0 M I0 E cs ((c,d,v) :: dn) (c :: X) pend' as I (aU pre)):Ops P ops [] n ((d,v) :: E') (Sym w0 M I0 I l0) (WPost P ops n E Q w0 M I0 o c cs dn X pend' as ex):=
  WPost.some (aU pre) he.symm (fun _ _=>aV) hd hp k
theorem WPost.sn {pend':List Nat} {E':DH} {ex l0 pre:List HA} (k':Nat) (_ht:tkL k' l0=.some pre) (he:aU pre ex=l0) (hd:o.dst=.none) (hp:PendL P ops n E dn (fun ex=>Sym w0 M I0 I (aU pre ex)) pend')
    (k:DrawD P ops n Q w0 M I0 E cs dn (c :: X) pend' as I (aU pre)):Ops P ops [] n E' (Sym w0 M I0 I l0) (WPost P ops n E Q w0 M I0 o c cs dn X pend' as ex):=
  WPost.none (aU pre) he.symm (fun _ _=>aV) hd hp k
theorem DrawD.e2 (t:Nat) (k:Ops P ops (ops.toList.drop t) n (AbD dn E) (Sym w0 M I0 I (L [])) Q) (hb:(PF X t && (X.all (Nat.blt · t) && US (ops.toList.drop t) t))=true:=by kernel_rfl):DrawD P ops n Q w0 M I0 E [] dn X pend [] I L:=by
  simp only [Bool.and_eq_true] at hb
  exact DrawD.e t hb.1 hb.2.1 hb.2.2 k
theorem PendL.cg {S:List HA→World→Prop} {f:Nat} {fs:List Nat} (ho:ops[f]? = some o) (hd:o.dst=some d) (hfr:fresh E d=true) (hl:GQ dn f=some (d,v)) (h:∀ ex,Ops P ops [o] n (IJ dn (EU o) E) (S ex) (Fin n (S ex) d v))
    (k:PendL P ops n E dn S fs):PendL P ops n E dn S (f :: fs):=⟨⟨o,d,v,ho,hd,hfr,hl,h⟩,k⟩
def AbT (tb:List (Nat×List Nat)) (ops:Array Oper) (n:FrK) (E:DH) (dn:HE):Nat→List Nat→Option (List Nat×List (Option (Nat×Value))×List (Option (Nat×Value)))
  | 0,fs=>some (fs,[],[])
  | k+1,f :: fs=>match ops[f]? with
    | none=>none
    | some o=>match xT tb ops n (IJ dn (EU o) E) o with
      | none=>none
      | some dv => bif fresh E dv.1 then (match AbT tb ops n E dn k fs with
            | none=>none
            | some (g,A,B)=>some (g,GQ dn f :: A,some dv :: B)) else none
  | _+1,[]=>none
theorem PendL.ckT {tb:List (Nat×List Nat)} (ht:AllOk P tb) {S:List HA→World→Prop} {g:List Nat} {A B:List (Option (Nat×Value))} (k:Nat) {fs:List Nat} (h:AbT tb ops n E dn k fs=some (g,A,B)) (hAB:A=B) (kk:PendL P ops n E dn S g):PendL P ops n E dn S fs:=by
  induction k generalizing fs A B with
  | zero=>simp only [AbT,Option.some.injEq,Prod.mk.injEq] at h; obtain ⟨rfl,rfl,rfl⟩:=h; exact kk
  | succ k ih=>
    cases fs with
    | nil=>cases h
    | cons f fs=>
      simp only [AbT] at h
      split at h
      · cases h
      · rename_i o ho
        split at h
        · cases h
        · rename_i dv hv
          obtain ⟨d,v⟩:=dv
          cases hb:fresh E d with
          | false=>rw [hb] at h; cases h
          | true=>
            rw [hb] at h
            simp only [cond_true] at h
            split at h
            · cases h
            · rename_i g' A' B' hc
              simp only [Option.some.injEq,Prod.mk.injEq] at h
              obtain ⟨rfl,rfl,rfl⟩:=h
              simp only [List.cons.injEq] at hAB
              exact PendL.cg ho (aS (P:=P) (S:=fun _=>True) ht hv).1 hb hAB.1 (fun ex=>(aS ht hv).2) (ih hc hAB.2)
end
end Go.Fw
