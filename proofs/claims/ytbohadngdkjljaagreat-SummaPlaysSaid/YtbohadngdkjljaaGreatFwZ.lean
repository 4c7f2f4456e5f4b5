/- The engine. -/
import Derived.Test.YtbohadngdkjljaaGreatFwY
namespace Go.Fw
open Go Go.RowKit
variable {w0 w:World} {M:Nat→Prop} {I0 I:IH} {m m':List HA}
variable {P:Program} {n:FrK} {E:DA} {S:World→Prop} {Q:Exit→Act→World→Prop} {ops:Array Oper} {l:List Oper}
variable {d ty:Nat} {pos:String} {af:Array Edge} {T e:TypeId} {x y:Operand}
/-! ### On behind a piece -/
variable {Q':Exit→Act→World→Prop}
def xF:List Nat→DA→DA→Option DA
 | [],_,acc=>some acc
 | k :: ks,E,acc=>match look E k with
  | some v=>xF ks E ((k,v) :: acc)
  | none=>none
def AdK (m:Nat):Nat→Bool
 | 0=>Nat.beq (Nat.land m 1) 1
 | k+1=>Nat.beq (Nat.land (Nat.shiftRight m (k+1)) 1) 1
def selN (m:Nat):DA→DA→Option DA
 | [],acc=>some acc
 | (k,v) :: E,acc=>bif AdK m k then selN m E ((k,v) :: acc) else selN m E acc
theorem EnvOk.selN {m:Nat} {a:Act}:∀ {E acc E':DA},selN m E acc=some E'→EnvOk E a→EnvOk acc a→EnvOk E' a
 | [],_,_,h,_,ha=>by simp only [Fw.selN,Option.some.injEq] at h; subst h; exact ha
 | (k,v) :: E,acc,E',h,he,ha=>by
  simp only [Fw.selN] at h
  cases hb:AdK m k with
  | true=>rw [hb] at h; exact EnvOk.selN h he.2 ⟨he.1,ha⟩
  | false=>rw [hb] at h; exact EnvOk.selN h he.2 ha
theorem Ok.selN {m:Nat} {E':DA} {a:Act} (D:Ok n E a) (h:selN m E []=some E'):Ok n E' a:=⟨D.size,D.defers,EnvOk.selN h D.env trivial⟩
theorem Ops.nilS {y:Code} {E':DA} (G:Nat) (D:selN G E []=some E') (O:(fun a w=>Q .normal a w)=fun a w=>y.wpIn (SH n) 0 P Q' a w) (h:Cod P y n E' S Q'):Ops P ops [] n E S Q:=
 Ops.nil' fun a w U J=>(congrFun (congrFun O a) w).mpr (h a w (U.selN D) J)
theorem Cod.skipS {y:Code} {E':DA} (G:Nat) (D:selN G E []=some E') (O:(fun a w=>Q .normal a w)=fun a w=>y.wpIn (SH n) 0 P Q' a w) (h:Cod P y n E' S Q'):Cod P .skip n E S Q:=
 Cod.skip' fun a w U J=>(congrFun (congrFun O a) w).mpr (h a w (U.selN D) J)
theorem Cod.exitS {y:Code} {k:Nat} {E':DA} (G:Nat) (D:selN G E []=some E') (O:(fun a w=>Q (.exit k) a w)=fun a w=>y.wpIn (SH n) 0 P Q' a w) (h:Cod P y n E' S Q'):Cod P (.exit k) n E S Q:=
 Cod.exit fun a w U J=>(congrFun (congrFun O a) w).mpr (h a w (U.selN D) J)
theorem Nrm.mkS {y:Code} {E':DA} (G:Nat) (D:selN G E []=some E') (O:(fun a w=>Q .normal a w)=fun a w=>y.wpIn (SH n) 0 P Q' a w) (h:Cod P y n E' S Q'):Nrm n E S Q:=
 fun a w U J=>(congrFun (congrFun O a) w).mpr (h a w (U.selN D) J)
theorem FH {G:Prop} {b:Bool} {A B:Prop} (h:AD b A B) (D:b=true→A→G) (J:b=false→B→G):G:=by
 cases b
 · exact J rfl (h.2 rfl)
 · exact D rfl (h.1 rfl)
theorem Cod.condP {c:Operand} {x y:Code} {t:Bool} {A B:Prop} (O:ev E c=some (.bool t)) (D:AD t A B) (J:t=true→A→Cod P x n E S Q) (G:t=false→B→Cod P y n E S Q):Cod P (.cond c x y) n E S Q:=
 Cod.cond O (fun h=>J h (D.1 h)) (fun h=>G h (D.2 h))
def AaL (ops:Array Oper) (E:DA):Option (Nat×Bool)→Option Bool
 | none=>some true
 | some (j,b)=>match eD ops j with
  | none=>none
  | some s=>match look E s with
   | some (.bool c)=>some (!Bool.xor c b)
   | some (.tuple _)=>some false
   | _=>none
theorem Ops.callP {g:FuncId} {args:List Operand} {vs:List Value} {G:Array TypeId} {ψ:Value→Prop} (W:∀ as w,(callFunc g as).run P w=.ok (.enter g as) w)
  (Y:qC E args=some vs) (hf:BH P g vs I fun _=>ψ) (V:Nat.blt d n.sz=true) (O:fresh E d=true)
  (k:∀ v,ψ v→Ops P ops l n ((d,v) :: E) (Sym w0 M I0 I m) Q) :
  Ops P ops (⟨some d,.call ⟨.value (.func g),args.toArray,G⟩,ty,pos,af,none⟩ :: l) n E (Sym w0 M I0 I m) Q:=by
 intro c w D U
 refine wpListIn_plain rfl fun K Z=>?_
 refine YT (Enters.f (P:=P) (n:=n) (E:=E) (S:=fun _=>True) W Y (some d) G ty pos af c w D trivial) (by simp) ?_
 simp only [Oper.uponIn]
 refine ⟨fun h=>(by cases h),bB ((hf w (fun _=>none) U.imm trivial (fun _ _ x=>nomatch x) (fun _=>.inr rfl)).mono fun e w' J=>?_)⟩
 obtain ⟨v,J',l',rfl,_,⟨_,hψ⟩,hs'⟩:=J
 exact Z _ _ (k v hψ _ _ (D.put V O v) (U.grown ⟨hs'.base.os,hs'.base.tape,hs'.base.output,hs'.base.drawn,hs'.base.size,fun b h1 _=>hs'.base.block b h1 (by simp)⟩))
theorem r.{u} {α:Sort u} {a:α}:a=a:=rfl
end Go.Fw
