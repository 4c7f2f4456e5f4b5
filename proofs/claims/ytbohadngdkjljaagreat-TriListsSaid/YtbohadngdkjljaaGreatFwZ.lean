/- The engine, part Z: shorter forms; regions that draw their order and turn nothing. -/
import Derived.Test.YtbohadngdkjljaaGreatFwY
namespace Go.Fw
open Go Go.RowKit
variable {w0 w:World} {M:Nat→Prop} {I0 I:IH} {m m':List HA}
variable {P:Program} {n:FrK} {E:DY} {S:World→Prop} {Q:Exit→Act→World→Prop} {ops:Array Oper} {l:List Oper}
variable {d ty:Nat} {pos:String} {af:Array Edge} {T e:TypeId} {x y:Operand}
/-! ### On behind a piece -/
def W8:List Nat→DY→DY→Option DY
  | [],_,acc=>some acc
  | k :: ks,E,acc=>match look E k with
    | some v=>W8 ks E ((k,v) :: acc)
    | none=>none
theorem Y3 {E:DY}:∀ {G:List Nat} {D E':DY},W8 G E D=some E'→Sub D E→Sub E' E
  | [],_,_,h,ha=>by simp only [W8,Option.some.injEq] at h; subst h; exact ha
  | k :: G,D,E',h,ha=>by
    simp only [W8] at h
    cases hl:look E k with
    | none=>rw [hl] at h; cases h
    | some v=>rw [hl] at h; exact Y3 h ⟨hl,ha⟩
theorem Ops.nilS {y:Code} {E':DY} {D:Exit→Act→World→Prop} (G:List Nat) (O:W8 G E []=some E') (V:(fun a w=>Q .normal a w)=fun a w=>y.wpIn (UY n) 0 P D a w) (h:Cod P y n E' S D):Ops P ops [] n E S Q:=
  Ops.nil' fun a w J U=>(congrFun (congrFun V a) w).mpr (h a w (J.sub (Y3 O trivial)) U)
theorem Cod.skipS {y:Code} {E':DY} {D:Exit→Act→World→Prop} (G:List Nat) (O:W8 G E []=some E') (V:(fun a w=>Q .normal a w)=fun a w=>y.wpIn (UY n) 0 P D a w) (h:Cod P y n E' S D):Cod P .skip n E S Q:=
  Cod.skip' fun a w J U=>(congrFun (congrFun V a) w).mpr (h a w (J.sub (Y3 O trivial)) U)
theorem Cod.exitS {y:Code} {k:Nat} {E':DY} {D:Exit→Act→World→Prop} (G:List Nat) (O:W8 G E []=some E') (V:(fun a w=>Q (.exit k) a w)=fun a w=>y.wpIn (UY n) 0 P D a w) (h:Cod P y n E' S D):Cod P (.exit k) n E S Q:=
  Cod.exit fun a w J U=>(congrFun (congrFun V a) w).mpr (h a w (J.sub (Y3 O trivial)) U)
theorem Nrm.mkS {y:Code} {E':DY} {D:Exit→Act→World→Prop} (G:List Nat) (O:W8 G E []=some E') (V:(fun a w=>Q .normal a w)=fun a w=>y.wpIn (UY n) 0 P D a w) (h:Cod P y n E' S D):Nrm n E S Q:=
  fun a w J U=>(congrFun (congrFun V a) w).mpr (h a w (J.sub (Y3 O trivial)) U)
theorem AQ {G:Prop} {b:Bool} {A B:Prop} (h:AR b A B) (D:b=true→A→G) (J:b=false→B→G):G:=by
  cases b
  · exact J rfl (h.2 rfl)
  · exact D rfl (h.1 rfl)
theorem Cod.condP {c:Operand} {x y:Code} {t:Bool} {A B:Prop} (G:ev E c=some (.bool t)) (D:AR t A B) (J:t=true→A→Cod P x n E S Q) (O:t=false→B→Cod P y n E S Q):Cod P (.cond c x y) n E S Q:=
  Cod.cond G (fun h=>J h (D.1 h)) (fun h=>O h (D.2 h))
def AfQ (ops:Array Oper) (E:DY):Option (Nat×Bool)→Option Bool
  | none=>some true
  | some (j,b)=>match jS ops j with
    | none=>none
    | some s=>match look E s with
      | some (.bool c)=>some (!Bool.xor c b)
      | some (.tuple _)=>some false
      | _=>none
theorem Ops.callP {g:FuncId} {args:List Operand} {vs:List Value} {G:Array TypeId} {ψ:Value→Prop} (V:∀ as w,(callFunc g as).run P w=.ok (.enter g as) w)
    (Z:xT E args=some vs) (hf:BR P g vs I fun _=>ψ) (W:Nat.blt d n.sz=true) (O:fresh E d=true)
    (k:∀ v,ψ v→Ops P ops l n ((d,v) :: E) (Sym w0 M I0 I m) Q) :
    Ops P ops (⟨some d,.call ⟨.value (.func g),args.toArray,G⟩,ty,pos,af,none⟩ :: l) n E (Sym w0 M I0 I m) Q:=by
  intro c w D U
  refine wpListIn_plain rfl fun K hK=>?_
  refine cG (Enters.f (P:=P) (n:=n) (E:=E) (S:=fun _=>True) V Z (some d) G ty pos af c w D trivial) (by simp) ?_
  simp only [Oper.uponIn]
  refine ⟨fun h=>(by cases h),fC ((hf w (fun _=>none) U.imm trivial (fun _ _ x=>nomatch x) (fun _=>.inr rfl)).mono fun e w' J=>?_)⟩
  obtain ⟨v,J',l',rfl,_,⟨_,hψ⟩,hs'⟩:=J
  exact hK _ _ (k v hψ _ _ (D.put W O v) (U.grown ⟨hs'.base.os,hs'.base.tape,hs'.base.output,hs'.base.drawn,hs'.base.size,fun b Y _=>hs'.base.block b Y (by simp)⟩))
theorem r.{u} {α:Sort u} {a:α}:a=a:=rfl
end Go.Fw
