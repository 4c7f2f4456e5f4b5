/- The engine, part Z: shorter forms; regions that draw their order and turn nothing. -/
import Derived.Test.YtaefnmlbnkmahaaGreatFwY
namespace Go.Fw
open Go Go.RowKit
variable {w0 w:World} {M:Nat→Prop} {I0 I:IH} {m m':List HA}
variable {P:Program} {n:FrK} {E:Env} {S:World→Prop} {Q:Exit→Act→World→Prop} {ops:Array Oper} {l:List Oper}
variable {d ty:Nat} {pos:String} {af:Array Edge} {T e:TypeId} {x y:Operand}
/-! ### On behind a piece -/
def selK:List Nat→Env→Env→Option Env
  | [],_,acc=>some acc
  | k :: ks,E,acc=>match look E k with
    | some v=>selK ks E ((k,v) :: acc)
    | none=>none
theorem selK_sub {E:Env}:∀ {ks:List Nat} {acc E':Env},selK ks E acc=some E'→Sub acc E→Sub E' E
  | [],_,_,h,ha=>by simp only [selK,Option.some.injEq] at h; subst h; exact ha
  | k :: ks,acc,E',h,ha=>by
    simp only [selK] at h
    cases hl:look E k with
    | none=>rw [hl] at h; cases h
    | some v=>rw [hl] at h; exact selK_sub h ⟨hl,ha⟩
theorem Ops.nilS {y:Code} {E':Env} {Q':Exit→Act→World→Prop} (ks:List Nat) (hE:selK ks E []=some E') (hq:(fun a w=>Q .normal a w)=fun a w=>y.wpIn (fen n) 0 P Q' a w) (h:Cod P y n E' S Q'):Ops P ops [] n E S Q:=
  Ops.nil' fun a w ho hs=>(congrFun (congrFun hq a) w).mpr (h a w (ho.sub (selK_sub hE trivial)) hs)
theorem Cod.skipS {y:Code} {E':Env} {Q':Exit→Act→World→Prop} (ks:List Nat) (hE:selK ks E []=some E') (hq:(fun a w=>Q .normal a w)=fun a w=>y.wpIn (fen n) 0 P Q' a w) (h:Cod P y n E' S Q'):Cod P .skip n E S Q:=
  Cod.skip' fun a w ho hs=>(congrFun (congrFun hq a) w).mpr (h a w (ho.sub (selK_sub hE trivial)) hs)
theorem Cod.labelS {y:Code} {k:Nat} {E':Env} {Q':Exit→Act→World→Prop} (ks:List Nat) (hE:selK ks E []=some E') (hq:(fun a w=>Q .normal a w)=fun a w=>y.wpIn (fen n) 0 P Q' a w) (h:Cod P y n E' S Q'):Cod P (.label k) n E S Q:=
  Cod.label' fun a w ho hs=>(congrFun (congrFun hq a) w).mpr (h a w (ho.sub (selK_sub hE trivial)) hs)
theorem Cod.exitS {y:Code} {k:Nat} {E':Env} {Q':Exit→Act→World→Prop} (ks:List Nat) (hE:selK ks E []=some E') (hq:(fun a w=>Q (.exit k) a w)=fun a w=>y.wpIn (fen n) 0 P Q' a w) (h:Cod P y n E' S Q'):Cod P (.exit k) n E S Q:=
  Cod.exit fun a w ho hs=>(congrFun (congrFun hq a) w).mpr (h a w (ho.sub (selK_sub hE trivial)) hs)
theorem Nrm.mkS {y:Code} {E':Env} {Q':Exit→Act→World→Prop} (ks:List Nat) (hE:selK ks E []=some E') (hq:(fun a w=>Q .normal a w)=fun a w=>y.wpIn (fen n) 0 P Q' a w) (h:Cod P y n E' S Q'):Nrm n E S Q:=
  fun a w ho hs=>(congrFun (congrFun hq a) w).mpr (h a w (ho.sub (selK_sub hE trivial)) hs)
theorem splitP {G:Prop} {b:Bool} {A B:Prop} (hd:ifP b A B) (h1:b=true→A→G) (h0:b=false→B→G):G:=by
  cases b
  · exact h0 rfl (hd.2 rfl)
  · exact h1 rfl (hd.1 rfl)
theorem Cod.condP {c:Operand} {x y:Code} {t:Bool} {A B:Prop} (hc:ev E c=some (.bool t)) (hd:ifP t A B) (ht:t=true→A→Cod P x n E S Q) (hf:t=false→B→Cod P y n E S Q):Cod P (.cond c x y) n E S Q:=
  Cod.cond hc (fun h=>ht h (hd.1 h)) (fun h=>hf h (hd.2 h))
def actB (ops:Array Oper) (E:Env):Option (Nat×Bool)→Option Bool
  | none=>some true
  | some (j,b)=>match gslot ops j with
    | none=>none
    | some s=>match look E s with
      | some (.bool c)=>some (!Bool.xor c b)
      | some (.tuple _)=>some false
      | _=>none
theorem Ops.callP {g:FuncId} {args:List Operand} {vs:List Value} {tys:Array TypeId} {ψ:Value→Prop} (hg:∀ as w,(callFunc g as).run P w=.ok (.enter g as) w)
    (ha:evs E args=some vs) (hf:PFun P g vs I fun _=>ψ) (hb:Nat.blt d n.sz=true) (hfr:fresh E d=true)
    (k:∀ v,ψ v→Ops P ops l n ((d,v) :: E) (Sym w0 M I0 I m) Q) :
    Ops P ops (⟨some d,.call ⟨.value (.func g),args.toArray,tys⟩,ty,pos,af,none⟩ :: l) n E (Sym w0 M I0 I m) Q:=by
  intro c w hok hs
  refine wpListIn_plain rfl fun K hK=>?_
  refine opIn (Enters.f (P:=P) (n:=n) (E:=E) (S:=fun _=>True) hg ha (some d) tys ty pos af c w hok trivial) (by simp) ?_
  simp only [Oper.uponIn]
  refine ⟨fun h=>(by cases h),callsF ((hf w (fun _=>none) hs.imm trivial (fun _ _ x=>nomatch x) (fun _=>.inr rfl)).mono fun e w' ha'=>?_)⟩
  obtain ⟨v,J',l',rfl,_,⟨_,hψ⟩,hs'⟩:=ha'
  exact hK _ _ (k v hψ _ _ (hok.put hb hfr v) (hs.grown ⟨hs'.base.os,hs'.base.tape,hs'.base.output,hs'.base.drawn,hs'.base.size,fun b h1 _=>hs'.base.block b h1 (by simp)⟩))
theorem r.{u} {α:Sort u} {a:α}:a=a:=rfl
end Go.Fw
