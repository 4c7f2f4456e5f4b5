/- The engine. -/
import Derived.Test.YtkbkaodgfedfmaaGreatFwY
namespace Go.Fw
open Go Go.RowKit
variable {w0 w:World} {M:Nat→Prop} {I0 I:IH} {m m':List HA}
variable {P:Program} {n:FrK} {E:CZ} {S:World→Prop} {Q:Exit→Act→World→Prop} {ops:Array Oper} {l:List Oper}
variable {d ty:Nat} {pos:String} {af:Array Edge} {T e:TypeId} {x y:Operand}
/-! ### On behind a piece -/
variable {Q':Exit→Act→World→Prop}
def AgM:List Nat->CZ->CZ->Option CZ
 | [],_,acc=>some acc
 | k :: ks,E,acc=>match look E k with
  | some v=>AgM ks E ((k,v) :: acc)
  | none=>none
def AmX (m:Nat):Nat->Bool
 | 0=>Nat.beq (Nat.land m 1) 1
 | k+1=>Nat.beq (Nat.land (Nat.shiftRight m (k+1)) 1) 1
def selN (m:Nat):CZ->CZ->Option CZ
 | [],acc=>some acc
 | (k,v) :: E,acc=>bif AmX m k then selN m E ((k,v) :: acc) else selN m E acc
theorem EnvOk.selN {m:Nat} {a:Act}:∀ {E D E':CZ},selN m E D=some E'->EnvOk E a->EnvOk D a->EnvOk E' a
 | [],_,_,h,_,ha=>by simp only[Fw.selN,Option.some.injEq] at h; subst h; exact ha
 | (k,v) :: E,D,E',h,he,ha=>by
  simp only[Fw.selN] at h
  cases hb:AmX m k with
  | true=>rw[hb] at h; exact EnvOk.selN h he.2 ⟨he.1,ha⟩
  | false=>rw[hb] at h; exact EnvOk.selN h he.2 ha
theorem Ok.selN {m:Nat} {E':CZ} {a:Act} (D:Ok n E a) (h:selN m E []=some E'):Ok n E' a:=⟨D.size,D.defers,EnvOk.selN h D.env trivial⟩
theorem Ops.nilS {y:Code} {E':CZ} (K:Nat) (D:selN K E []=some E') (U:(λa w=>Q .normal a w)=λa w=>y.wpIn (UT n) 0 P Q' a w) (h:Cod P y n E' S Q'):Ops P ops [] n E S Q:=
 Ops.nil' λa w O J=>(congrFun (congrFun U a) w).mpr (h a w (O.selN D) J)
theorem Cod.skipS {y:Code} {E':CZ} (K:Nat) (D:selN K E []=some E') (U:(λa w=>Q .normal a w)=λa w=>y.wpIn (UT n) 0 P Q' a w) (h:Cod P y n E' S Q'):Cod P .skip n E S Q:=
 Cod.skip' λa w O J=>(congrFun (congrFun U a) w).mpr (h a w (O.selN D) J)
theorem Cod.labelS {y:Code} {k:Nat} {E':CZ} (K:Nat) (D:selN K E []=some E') (U:(λa w=>Q .normal a w)=λa w=>y.wpIn (UT n) 0 P Q' a w) (h:Cod P y n E' S Q'):Cod P (.label k) n E S Q:=
 Cod.label' λa w O J=>(congrFun (congrFun U a) w).mpr (h a w (O.selN D) J)
theorem Cod.exitS {y:Code} {k:Nat} {E':CZ} (K:Nat) (D:selN K E []=some E') (U:(λa w=>Q (.exit k) a w)=λa w=>y.wpIn (UT n) 0 P Q' a w) (h:Cod P y n E' S Q'):Cod P (.exit k) n E S Q:=
 Cod.exit λa w O J=>(congrFun (congrFun U a) w).mpr (h a w (O.selN D) J)
theorem Nrm.mkS {y:Code} {E':CZ} (K:Nat) (D:selN K E []=some E') (U:(λa w=>Q .normal a w)=λa w=>y.wpIn (UT n) 0 P Q' a w) (h:Cod P y n E' S Q'):Nrm n E S Q:=
 λa w O J=>(congrFun (congrFun U a) w).mpr (h a w (O.selN D) J)
theorem D6 {G:Prop} {b:Bool} {A B:Prop} (h:A8 b A B) (D:b=true->A->G) (J:b=false->B->G):G:=by
 cases b
 . exact J rfl (h.2 rfl)
 . exact D rfl (h.1 rfl)
theorem Cod.condP {c:Operand} {x y:Code} {t:Bool} {A B:Prop} (J:ev E c=some (.bool t)) (D:A8 t A B) (K:t=true->A->Cod P x n E S Q) (O:t=false->B->Cod P y n E S Q):Cod P (.cond c x y) n E S Q:=
 Cod.cond J (λh=>K h (D.1 h)) (λh=>O h (D.2 h))
def AjJ (ops:Array Oper) (E:CZ):Option (Nat×Bool)->Option Bool
 | none=>some true
 | some (j,b)=>match kU ops j with
  | none=>none
  | some s=>match look E s with
   | some (.bool c)=>some (!Bool.xor c b)
   | some (.tuple _)=>some false
   | _=>none
theorem Ops.callP {g:FuncId} {args:List Operand} {vs:List Value} {D:Array TypeId} {ψ:Value->Prop} (hg:∀ as w,(callFunc g as).run P w=.ok (.enter g as) w)
  (ha:xG E args=some vs) (W:AY P g vs I λ_=>ψ) (hb:Nat.blt d n.sz=true) (U:fresh E d=true)
  (k:∀ v,ψ v->Ops P ops l n ((d,v) :: E) (Sym w0 M I0 I m) Q) :
  Ops P ops (⟨some d,.call ⟨.value (.func g),args.toArray,D⟩,ty,pos,af,none⟩ :: l) n E (Sym w0 M I0 I m) Q:=by
 intro c w J V;refine wpListIn_plain rfl λK Z=>?_;refine eV (Enters.f (P:=P) (n:=n) (E:=E) (S:=λ_=>True) hg ha (some d) D ty pos af c w J trivial) (by simp) ?_;simp only[Oper.uponIn];refine⟨λh=>(by cases h),jB ((W w (λ_=>none) V.imm trivial (λ_ _ x=>nomatch x) (λ_=>.inr rfl)).mono λe w' O=>?_)⟩;obtain⟨v,J',l',rfl,_,⟨_,hψ⟩,hs'⟩:=O;exact Z _ _ (k v hψ _ _ (J.put hb U v) (V.grown ⟨hs'.base.os,hs'.base.tape,hs'.base.output,hs'.base.drawn,hs'.base.size,λb h1 _=>hs'.base.block b h1 (by simp)⟩))
theorem r.{u} {α:Sort u} {a:α}:a=a:=rfl
end Go.Fw
