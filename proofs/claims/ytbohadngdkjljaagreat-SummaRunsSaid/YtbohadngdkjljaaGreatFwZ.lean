/- The engine. -/
import Derived.Test.YtbohadngdkjljaaGreatFwY
namespace Go.Fw
open Go Go.RowKit
variable {w0 w:World} {M:Nat→Prop} {I0 I:IH} {m m':List HA}
variable {P:Program} {n:FrK} {E:D7} {S:World→Prop} {Q:Exit→Act→World→Prop} {ops:Array Oper} {l:List Oper}
variable {d ty:Nat} {pos:String} {af:Array Edge} {T e:TypeId} {x y:Operand}
/-! ### On behind a piece -/
variable {Q':Exit→Act→World→Prop}
def xC:List Nat→D7→D7→Option D7
 | [],_,acc=>some acc
 | k :: ks,E,acc=>match look E k with
  | some v=>xC ks E ((k,v) :: acc)
  | none=>none
def AdK (m:Nat):Nat→Bool
 | 0=>Nat.beq (Nat.land m 1) 1
 | k+1=>Nat.beq (Nat.land (Nat.shiftRight m (k+1)) 1) 1
def selN (m:Nat):D7→D7→Option D7
 | [],acc=>some acc
 | (k,v) :: E,acc=>bif AdK m k then selN m E ((k,v) :: acc) else selN m E acc
theorem EnvOk.selN {m:Nat} {a:Act}:∀ {E acc E':D7},selN m E acc=some E'→EnvOk E a→EnvOk acc a→EnvOk E' a
 | [],_,_,h,_,ha=>by simp only [Fw.selN,Option.some.injEq] at h; subst h; exact ha
 | (k,v) :: E,acc,E',h,he,ha=>by
  simp only [Fw.selN] at h
  cases hb:AdK m k with
  | true=>rw [hb] at h; exact EnvOk.selN h he.2 ⟨he.1,ha⟩
  | false=>rw [hb] at h; exact EnvOk.selN h he.2 ha
theorem Ok.selN {m:Nat} {E':D7} {a:Act} (D:Ok n E a) (h:selN m E []=some E'):Ok n E' a:=⟨D.size,D.defers,EnvOk.selN h D.env trivial⟩
theorem Ops.nilS {y:Code} {E':D7} (O:Nat) (G:selN O E []=some E') (J:(fun a w=>Q .normal a w)=fun a w=>y.wpIn (SP n) 0 P Q' a w) (h:Cod P y n E' S Q'):Ops P ops [] n E S Q:=
 Ops.nil' fun a w D U=>(congrFun (congrFun J a) w).mpr (h a w (D.selN G) U)
theorem Cod.skipS {y:Code} {E':D7} (O:Nat) (G:selN O E []=some E') (J:(fun a w=>Q .normal a w)=fun a w=>y.wpIn (SP n) 0 P Q' a w) (h:Cod P y n E' S Q'):Cod P .skip n E S Q:=
 Cod.skip' fun a w D U=>(congrFun (congrFun J a) w).mpr (h a w (D.selN G) U)
theorem Cod.exitS {y:Code} {k:Nat} {E':D7} (O:Nat) (G:selN O E []=some E') (J:(fun a w=>Q (.exit k) a w)=fun a w=>y.wpIn (SP n) 0 P Q' a w) (h:Cod P y n E' S Q'):Cod P (.exit k) n E S Q:=
 Cod.exit fun a w D U=>(congrFun (congrFun J a) w).mpr (h a w (D.selN G) U)
theorem Nrm.mkS {y:Code} {E':D7} (O:Nat) (G:selN O E []=some E') (J:(fun a w=>Q .normal a w)=fun a w=>y.wpIn (SP n) 0 P Q' a w) (h:Cod P y n E' S Q'):Nrm n E S Q:=
 fun a w D U=>(congrFun (congrFun J a) w).mpr (h a w (D.selN G) U)
theorem FE {G:Prop} {b:Bool} {A B:Prop} (h:AD b A B) (D:b=true→A→G) (J:b=false→B→G):G:=by
 cases b
 · exact J rfl (h.2 rfl)
 · exact D rfl (h.1 rfl)
theorem Cod.condP {c:Operand} {x y:Code} {t:Bool} {A B:Prop} (J:ev E c=some (.bool t)) (D:AD t A B) (G:t=true→A→Cod P x n E S Q) (O:t=false→B→Cod P y n E S Q):Cod P (.cond c x y) n E S Q:=
 Cod.cond J (fun h=>G h (D.1 h)) (fun h=>O h (D.2 h))
def AaF (ops:Array Oper) (E:D7):Option (Nat×Bool)→Option Bool
 | none=>some true
 | some (j,b)=>match eQ ops j with
  | none=>none
  | some s=>match look E s with
   | some (.bool c)=>some (!Bool.xor c b)
   | some (.tuple _)=>some false
   | _=>none
theorem Ops.callP {g:FuncId} {args:List Operand} {vs:List Value} {D:Array TypeId} {ψ:Value→Prop} (Y:∀ as w,(callFunc g as).run P w=.ok (.enter g as) w)
  (Z:qE E args=some vs) (hf:BH P g vs I fun _=>ψ) (V:Nat.blt d n.sz=true) (J:fresh E d=true)
  (k:∀ v,ψ v→Ops P ops l n ((d,v) :: E) (Sym w0 M I0 I m) Q) :
  Ops P ops (⟨some d,.call ⟨.value (.func g),args.toArray,D⟩,ty,pos,af,none⟩ :: l) n E (Sym w0 M I0 I m) Q:=by
 intro c w G U
 refine wpListIn_plain rfl fun K hK=>?_
 refine Z3 (Enters.f (P:=P) (n:=n) (E:=E) (S:=fun _=>True) Y Z (some d) D ty pos af c w G trivial) (by simp) ?_
 simp only [Oper.uponIn]
 refine ⟨fun h=>(by cases h),bL ((hf w (fun _=>none) U.imm trivial (fun _ _ x=>nomatch x) (fun _=>.inr rfl)).mono fun e w' O=>?_)⟩
 obtain ⟨v,J',l',rfl,_,⟨_,hψ⟩,hs'⟩:=O
 exact hK _ _ (k v hψ _ _ (G.put V J v) (U.grown ⟨hs'.base.os,hs'.base.tape,hs'.base.output,hs'.base.drawn,hs'.base.size,fun b W _=>hs'.base.block b W (by simp)⟩))
theorem r.{u} {α:Sort u} {a:α}:a=a:=rfl
end Go.Fw
