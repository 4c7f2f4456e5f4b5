/- The engine, part Z: shorter forms; regions that draw their order and turn nothing. -/
import Derived.Test.YtbohadngdkjljaaGreatFwY
namespace Go.Fw
open Go Go.RowKit
variable {w0 w:World} {M:Nat→Prop} {I0 I:IH} {m m':List HA}
variable {P:Program} {n:FrK} {E:DH} {S:World→Prop} {Q:Exit→Act→World→Prop} {ops:Array Oper} {l:List Oper}
variable {d ty:Nat} {pos:String} {af:Array Edge} {T e:TypeId} {x y:Operand}
/-! ### On behind a piece -/
def VC:List Nat→DH→DH→Option DH
  | [],_,acc=>some acc
  | k :: ks,E,acc=>match look E k with
    | some v=>VC ks E ((k,v) :: acc)
    | none=>none
theorem Sub.snoc {E:DH}:∀ {A B:DH},Sub A E→Sub B E→Sub (A++B) E
  | [],_,_,h=>h
  | _ :: _,_,h,h'=>⟨h.1,Sub.snoc h.2 h'⟩
theorem X7 {E:DH}:∀ {ks:List Nat} {acc E':DH},VC ks E acc=some E'→Sub acc E→Sub E' E
  | [],_,_,h,ha=>by simp only [VC,Option.some.injEq] at h; subst h; exact ha
  | k :: ks,acc,E',h,ha=>by
    simp only [VC] at h
    cases hl:look E k with
    | none=>rw [hl] at h; cases h
    | some v=>rw [hl] at h; exact X7 h ⟨hl,ha⟩
theorem Ops.nilS {y:Code} {E':DH} {Q':Exit→Act→World→Prop} (ks:List Nat) (hE:VC ks E []=some E') (hq:(fun a w=>Q .normal a w)=fun a w=>y.wpIn (RJ n) 0 P Q' a w) (h:Cod P y n E' S Q'):Ops P ops [] n E S Q:=
  Ops.nil' fun a w ho hs=>(congrFun (congrFun hq a) w).mpr (h a w (ho.sub (X7 hE trivial)) hs)
theorem Cod.skipS {y:Code} {E':DH} {Q':Exit→Act→World→Prop} (ks:List Nat) (hE:VC ks E []=some E') (hq:(fun a w=>Q .normal a w)=fun a w=>y.wpIn (RJ n) 0 P Q' a w) (h:Cod P y n E' S Q'):Cod P .skip n E S Q:=
  Cod.skip' fun a w ho hs=>(congrFun (congrFun hq a) w).mpr (h a w (ho.sub (X7 hE trivial)) hs)
theorem Cod.exitS {y:Code} {k:Nat} {E':DH} {Q':Exit→Act→World→Prop} (ks:List Nat) (hE:VC ks E []=some E') (hq:(fun a w=>Q (.exit k) a w)=fun a w=>y.wpIn (RJ n) 0 P Q' a w) (h:Cod P y n E' S Q'):Cod P (.exit k) n E S Q:=
  Cod.exit fun a w ho hs=>(congrFun (congrFun hq a) w).mpr (h a w (ho.sub (X7 hE trivial)) hs)
theorem Nrm.mkS {y:Code} {E':DH} {Q':Exit→Act→World→Prop} (ks:List Nat) (hE:VC ks E []=some E') (hq:(fun a w=>Q .normal a w)=fun a w=>y.wpIn (RJ n) 0 P Q' a w) (h:Cod P y n E' S Q'):Nrm n E S Q:=
  fun a w ho hs=>(congrFun (congrFun hq a) w).mpr (h a w (ho.sub (X7 hE trivial)) hs)
theorem AU {G:Prop} {b:Bool} {A B:Prop} (hd:AQ b A B) (h1:b=true→A→G) (h0:b=false→B→G):G:=by
  cases b
  · exact h0 rfl (hd.2 rfl)
  · exact h1 rfl (hd.1 rfl)
theorem Cod.condP {c:Operand} {x y:Code} {t:Bool} {A B:Prop} (hc:ev E c=some (.bool t)) (hd:AQ t A B) (ht:t=true→A→Cod P x n E S Q) (hf:t=false→B→Cod P y n E S Q):Cod P (.cond c x y) n E S Q:=
  Cod.cond hc (fun h=>ht h (hd.1 h)) (fun h=>hf h (hd.2 h))
def nW (ops:Array Oper) (E:DH):Option (Nat×Bool)→Option Bool
  | none=>some true
  | some (j,b)=>match Z2 ops j with
    | none=>none
    | some s=>match look E s with
      | some (.bool c)=>some (!Bool.xor c b)
      | some (.tuple _)=>some false
      | _=>none
def xQ (ops:Array Oper) (E:DH) (o:Oper):Option Value:=
  match nW ops E o.guard with
  | none=>none
  | some false=>some undef
  | some true=>match o.op with
    | .move x=>ev E x
    | .assign x=>ev E x
    | .pick c x y=>match ev E c with
      | some (.bool b)=>bif b then ev E x else ev E y
      | _=>none
    | _=>none
theorem AbN {g:Option (Nat×Bool)} {dst:Option Nat} {op:Op} (h:nW ops E g=some true) (k:Ops P ops (⟨dst,op,ty,pos,af,none⟩ :: l) n E S Q):Ops P ops (⟨dst,op,ty,pos,af,g⟩ :: l) n E S Q:=by
  cases g with
  | none=>exact k
  | some jb=>
    obtain ⟨j,b⟩:=jb
    simp only [nW] at h
    cases hg:Z2 ops j with
    | none=>rw [hg] at h; cases h
    | some s=>
      rw [hg] at h; simp only at h
      split at h
      · rename_i c hc
        exact Ops.gyes hg hc (by cases b <;> cases c <;> simp_all) k
      · simp at h
      · cases h
theorem Ae8 {g:Option (Nat×Bool)} {op:Op} (h:nW ops E g=some false) (hb:Nat.blt d n.sz=true) (hf:fresh E d=true) (k:Ops P ops l n ((d,undef) :: E) S Q):Ops P ops (⟨some d,op,ty,pos,af,g⟩ :: l) n E S Q:=by
  cases g with
  | none=>cases h
  | some jb=>
    obtain ⟨j,b⟩:=jb
    simp only [nW] at h
    cases hg:Z2 ops j with
    | none=>rw [hg] at h; cases h
    | some s=>
      rw [hg] at h; simp only at h
      split at h
      · rename_i c hc
        exact Ops.gno hg hc (by cases b <;> cases c <;> simp_all) hb hf k
      · rename_i t ht
        intro a w ho hw
        unfold wpListIn
        have hy:yielded ops a.tmps j=none:=by
          have h:=ho.env.look ht
          simp only [Z2] at hg
          simp [yielded,hg,h]
        rw [if_neg (by simp [Region.wanted,hy])]
        exact ⟨fun _ _=>trivial,k _ _ (ho.put hb hf undef) hw⟩
      · cases h
theorem AbO {o:Oper} {v:Value} (h:xQ ops E o=some v) (hd:o.dst=some d) (hb:Nat.blt d n.sz=true) (hf:fresh E d=true):Ops P ops [o] n E S (Fin n S d v):=by
  obtain ⟨dst,op,ty,pos,af,g⟩:=o
  simp only at hd; subst hd
  unfold xQ at h
  simp only at h
  split at h
  · cases h
  · rename_i hg; cases h; exact Ae8 hg hb hf Fin.mk
  · rename_i hg
    refine AbN hg ?_
    split at h
    · exact .move h hb hf Fin.mk
    · exact .assign h hb hf Fin.mk
    · split at h
      · rename_i b hc
        cases b with
        | true=>exact .pickT hc rfl h hb hf Fin.mk
        | false=>exact .pickF hc rfl h hb hf Fin.mk
      · cases h
    · cases h
def dsk (ops:Array Oper) (n:FrK) (E:DH):List (List Nat)→List (Option Nat)→HE→List Nat→List Nat→Option (List (Option Nat)×HE×List Nat×List Nat)
  | [],cs,dn,X,pd=>some (cs,dn,X,pd)
  | js :: r,some c :: cs,dn,X,pd=>match ops[c]? with
    | none=>none
    | some o=>match o.dst with
      | none=>none
      | some d=>match xQ ops (IJ dn js E) o with
        | none=>none
        | some v=>bif Nat.blt d n.sz && fresh E d && fresh (IJ dn js E) d then dsk ops n E r cs ((c,d,v) :: dn) (c :: X) (c :: pd) else none
  | _ :: _,_,_,_,_=>none
def xR:List Nat→List Nat→Bool
  | [],[]=>true
  | a :: r,b :: s=>Nat.beq a b && xR r s
  | _,_=>false
theorem qS:∀ {a b:List Nat},xR a b=true→a=b
  | [],[],_=>rfl
  | a :: r,b :: s,h=>by simp only [xR,Bool.and_eq_true] at h; rw [Nat.eq_of_beq_eq_true h.1,qS h.2]
def vE (ops:Array Oper):List (List Nat)→List (Option Nat)→Bool
  | [],_=>true
  | js :: r,some c :: cs=>(match ops[c]? with | none=>false | some o=>xR (EU o) js) && vE ops r cs
  | _ :: _,_=>false
theorem DrawD.fs {as:List AS} {L:Sh} {cs':List (Option Nat)} {dn':HE} {X' pd':List Nat} (tab:List (List Nat)) {cs:List (Option Nat)} {dn:HE} {X pd:List Nat} (h:dsk ops n E tab cs dn X pd=some (cs',dn',X',pd')) (hh:vE ops tab cs=true)
    (k:DrawD P ops n Q w0 M I0 E cs' dn' X' pd' as I L):DrawD P ops n Q w0 M I0 E cs dn X pd as I L:=by
  induction tab generalizing cs dn X pd with
  | nil=>simp only [dsk,Option.some.injEq,Prod.mk.injEq] at h; obtain ⟨rfl,rfl,rfl,rfl⟩:=h; exact k
  | cons js r ih=>
    match cs,h,hh with
    | some c :: cs,h,hh=>
      simp only [dsk] at h
      simp only [vE,Bool.and_eq_true] at hh
      cases ho:ops[c]? with
      | none=>rw [ho] at h; cases h
      | some o=>
        rw [ho] at h hh
        simp only at h hh
        cases hd:o.dst with
        | none=>rw [hd] at h; cases h
        | some d=>
          rw [hd] at h; simp only at h
          cases hv:xQ ops (IJ dn js E) o with
          | none=>rw [hv] at h; cases h
          | some v=>
            rw [hv] at h; simp only at h
            cases hb:(Nat.blt d n.sz && fresh E d && fresh (IJ dn js E) d) with
            | false=>rw [hb] at h; cases h
            | true=>
              rw [hb] at h
              simp only [Bool.and_eq_true] at hb
              exact DrawD.f js ho (qS hh.1) hd hb.1.2 (fun ex=>AbO hv hd hb.1.1 hb.2) (ih h hh.2)
    | none :: _,h,_=>cases h
    | [],h,_=>cases h
theorem Ops.callP {g:FuncId} {args:List Operand} {vs:List Value} {tys:Array TypeId} {ψ:Value→Prop} (hg:∀ as w,(callFunc g as).run P w=.ok (.enter g as) w)
    (ha:qF E args=some vs) (hf:BW P g vs I fun _=>ψ) (hb:Nat.blt d n.sz=true) (hfr:fresh E d=true)
    (k:∀ v,ψ v→Ops P ops l n ((d,v) :: E) (Sym w0 M I0 I m) Q) :
    Ops P ops (⟨some d,.call ⟨.value (.func g),args.toArray,tys⟩,ty,pos,af,none⟩ :: l) n E (Sym w0 M I0 I m) Q:=by
  intro c w hok hs
  refine wpListIn_plain rfl fun K hK=>?_
  refine aM (Enters.f (P:=P) (n:=n) (E:=E) (S:=fun _=>True) hg ha (some d) tys ty pos af c w hok trivial) (by simp) ?_
  simp only [Oper.uponIn]
  refine ⟨fun h=>(by cases h),dJ ((hf w (fun _=>none) hs.imm trivial (fun _ _ x=>nomatch x) (fun _=>.inr rfl)).mono fun e w' ha'=>?_)⟩
  obtain ⟨v,J',l',rfl,_,⟨_,hψ⟩,hs'⟩:=ha'
  exact hK _ _ (k v hψ _ _ (hok.put hb hfr v) (hs.grown ⟨hs'.base.os,hs'.base.tape,hs'.base.output,hs'.base.drawn,hs'.base.size,fun b h1 _=>hs'.base.block b h1 (by simp)⟩))
theorem r.{u} {α:Sort u} {a:α}:a=a:=rfl
end Go.Fw
