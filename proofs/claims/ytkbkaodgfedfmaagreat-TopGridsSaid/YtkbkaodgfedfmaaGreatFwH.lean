/- The engine. -/
import Derived.Test.YtkbkaodgfedfmaaGreatFwG
namespace Go.Fw
open Go Go.RowKit
variable {w0 w:World} {M:Nat→Prop} {I0 I:IH} {m m':List HA}
variable {P:Program} {n:FrK} {E:CZ} {S:World→Prop} {Q:Exit→Act→World→Prop} {ops:Array Oper} {l:List Oper}
variable {d ty:Nat} {pos:String} {af:Array Edge} {T e:TypeId} {x y:Operand}
variable {name:String} {us:List Value}
inductive Outs:List HA→List HA→List HA→Prop
 | n {m:List HA}:Outs m [] m
 | c {m m' r mr:List HA} {A:HA} (h:Del m A m') (k:Outs m' r mr):Outs m (A :: r) mr
theorem Outs.perm {mf mr:List HA} (h:Outs m mf mr):m.Perm (mf++mr):=by
 induction h with
 | n=>exact .refl _
 | c h _ D=>exact h.perm.trans (D.cons _)
def Enters (P:Program) (n:FrK) (E:CZ) (S:World->Prop) (x:Callee) (args:List Operand) (g:FuncId) (vs:List Value):Prop:=
 ∀ (h:Option Nat) (D:Array TypeId) (ty:TypeId) (pos:String) (af:Array Edge) (c:Act) (w:World),Ok n E c->S w->(execOp c.eval ⟨h,.call ⟨x,args.toArray,D⟩,ty,pos,af,none⟩).run P w=.ok (.enter g vs.toArray) w
theorem Enters.f {g:FuncId} {args:List Operand} {vs:List Value} (O:∀ as w,(callFunc g as).run P w=.ok (.enter g as) w) (D:xG E args=some vs):Enters P n E S (.value (.func g)) args g vs:=by
 intro h K ty pos af c w J _;have e:args.toArray.map c.eval=vs.toArray:=by simp[TY J D]
 simp only[execOp,resolve,e,Act.eval,Deferred.ofValue,Sem.run_bind,Sem.run_pure,Result.andThen_ok,invoke];simp[O]
theorem Enters.c {g:FuncId} {args:List Operand} {first cap:Array Value} (U:∀ as w,(callFunc g as).run P w=.ok (.enter g as) w) (K:ev E x=some (.func (.func g) first cap)) (J:xG E args=some us) :
  Enters P n E S (.value x) args g (first.toList++us++cap.toList):=by
 intro D O ty pos af c w h _;have e:args.toArray.map c.eval=us.toArray:=by simp[TY h J]
 simp only[execOp,resolve,e,h.eval K,Deferred.ofValue,Sem.run_bind,Sem.run_pure,Result.andThen_ok,invoke,U];simp
theorem Ops.callS {x:Callee} {g:FuncId} {args:List Operand} {vs:List Value} {Z:Array TypeId} {mf mr:List HA} {φ:IH->Value->List HA->Prop} (he:Enters P n E (Sym w0 M I0 I m) x args g vs)
  (ho:Outs m mf mr) (hf:Fun P g vs.toArray I mf φ) (hb:Nat.blt d n.sz=true) (W:fresh E d=true)
  (k:∀ v D O,I.le D->φ D v O->Ops P ops l n ((d,v) :: E) (Sym w0 M I0 D (O++mr)) Q) :
  Ops P ops (⟨some d,.call ⟨x,args.toArray,Z⟩,ty,pos,af,none⟩ :: l) n E (Sym w0 M I0 I m) Q:=by
 intro c w J hs;refine wpListIn_plain rfl λK hK=>?_;refine eV (he _ _ _ _ _ c w J hs) (by simp) ?_;simp only[Oper.uponIn];refine⟨λh=>(by cases h),jB (hf.use (hs.perm ho.perm) λv D O w' U hφ V=>hK _ _ (k v D O U hφ _ _ (J.put hb W v) V))⟩
theorem Ops.mkFn {D:Fn} {first cap:List Operand} {vs:List Value} (U:xG E first=some vs) (O:xG E cap=some us) (J:Nat.blt d n.sz=true) (K:fresh E d=true)
  (k:Ops P ops l n ((d,.func D vs.toArray us.toArray) :: E) S Q):Ops P ops (⟨some d,.makeFunc D first.toArray cap.toArray,ty,pos,af,none⟩ :: l) n E S Q:=
 Ops.makeFunc (λa h=>by simp[TY h U]) (λa h=>by simp[TY h O]) J K k
def TZ (J:IH):List HA->Prop
 | []=>True
 | A :: r=>(∃ k:IH,A.holds J k∧k.le J)∧TZ J r
theorem nK {J h:IH} (D:h.le J) (K:I.le J):∀ {mf mr:List HA} {k:IH},QI (mf++mr) I k->k.le h->TZ J mf
 | [],_,_,_,_=>trivial
 | A :: _,mr,_,⟨h1,_,_,hl1,hl2,ha,hs⟩,hk=>⟨⟨h1,A.mono K (IH.le.refl _) ha,(hl1.trans hk).trans D⟩,nK D K (mr:=mr) hs (hl2.trans hk)⟩
theorem AgI {α:Type} {El:EP α} {T:TypeId} {a:Option Addr} {cap:Nat} {xs:List α} {J:IH} (h:∃ k:IH,(OwnSl El T a cap xs).holds J k∧k.le J):RepSl El J a cap xs:=by
 obtain⟨k,ha,hk⟩:=h;rcases ha with⟨O,D,K⟩ | ⟨b,c,O,D,K,h4,Z⟩
 . subst D; exact .nil _ _ _
 . refine⟨K,λi x hx=>?_⟩;obtain⟨cs,U,W⟩:=Z i x hx;exact⟨b,0,cs,O,⟨c,T,(0,0),hk _ _ D,λj v V=>by rw[Nat.zero_add]; exact W j v V⟩,U⟩
theorem Sym.grown (h:Sym w0 M I0 I m w) {w':World} (K:AjF w (λ_=>False) w'):Sym w0 M I0 I m w':=by
 obtain⟨D,hi,Z,k,W,hk,hd,hm⟩:=h
 have O:∀ {J:IH},J.le (hp w)->J.le (hp w'):=λhJ b o e=>by have U:=hJ b o e;have:=K.block b (S4 U) (λx=>x);show w'.heap[b]? = some o;rw[this]; exact U
 exact⟨⟨K.os.trans D.os,K.tape.trans D.tape,K.output.trans D.output,Nat.le_trans D.drawn K.drawn,Nat.le_trans D.size K.size,λb V h2=>(K.block b (Nat.lt_of_lt_of_le V D.size) (λx=>x)).trans (D.block b V h2)⟩,O hi,Z,k,W,O hk,hd,hm⟩
theorem AgJ {g:FuncId} {vs:List Value} {mf mr:List HA} {ψ:IH->Value->Prop} (O:∀ J:IH,I.le J->TZ J mf->AY P g vs J ψ) (ho:Outs m mf mr) (K:Sym w0 M I0 I m w)
  {R:Ending->World->Prop} (U:∀ v J w',ψ J v->Sym w0 M I0 I m w'->R (.returned v) w'):Calls P g vs.toArray w R:=by
 obtain⟨hB,hi,hn,k,h,hk,V,hm⟩:=K.perm ho.perm;have D:=IH.le_union_left I k;have Z:(I.union k).le (hp w):=IH.union_le hi hk;refine(O (I.union k) D (nK (IH.le_union_right V) D h (IH.le.refl _)) w (λ_=>none) Z trivial (λ_ _ x=>nomatch x) (λ_=>.inr rfl)).mono λe w' ha=>?_;obtain⟨v,J',l',rfl,_,⟨_,hψ⟩,hs'⟩:=ha;exact U v J' w' hψ (K.grown ⟨hs'.base.os,hs'.base.tape,hs'.base.output,hs'.base.drawn,hs'.base.size,λb W _=>hs'.base.block b W (by simp)⟩)
theorem Ops.callB {x:Callee} {g:FuncId} {args:List Operand} {vs:List Value} {V:Array TypeId} {mf mr:List HA} {ψ:IH->Value->Prop} (Z:Enters P n E (Sym w0 M I0 I m) x args g vs)
  (ho:Outs m mf mr) (hf:∀ J:IH,I.le J->TZ J mf->AY P g vs J ψ) (hb:Nat.blt d n.sz=true) (U:fresh E d=true)
  (k:∀ v J,ψ J v->Ops P ops l n ((d,v) :: E) (Sym w0 M I0 I m) Q) :
  Ops P ops (⟨some d,.call ⟨x,args.toArray,V⟩,ty,pos,af,none⟩ :: l) n E (Sym w0 M I0 I m) Q:=by
 intro c w D W;refine wpListIn_plain rfl λK hK=>?_;refine eV (Z _ _ _ _ _ c w D W) (by simp) ?_;simp only[Oper.uponIn];refine⟨λh=>(by cases h),jB (AgJ hf ho W λv J w' hψ O=>hK _ _ (k v J hψ _ _ (D.put hb U v) O))⟩
def fB:TypeDesc->Bool
 | .interface _=>false
 | _=>true
theorem Ops.mkIface {u:TypeDesc} {v:Value} (D:P.underlying T=some u) (hu:fB u=true) (O:ev E x=some v) (h:Nat.blt d n.sz=true) (J:fresh E d=true)
  (k:Ops P ops l n ((d,.iface T v) :: E) S Q):Ops P ops (⟨some d,.makeInterface T x,ty,pos,af,none⟩ :: l) n E S Q:=
 Ops.val rfl rfl (λc w K _=>by simp only[execOp,K.eval O,Instr.makeInterface,Sem.run_bind,run_underlying D,Result.andThen_ok];cases u <;> simp_all[fB]) h J k
theorem Ops.assertOk {u:TypeDesc} {v:Value} {U:TypeId} (D:P.underlying T=some u) (hu:fB u=true) (K:ev E x=some (.iface T v)) (h:Nat.blt d n.sz=true) (J:fresh E d=true)
  (k:Ops P ops l n ((d,.tuple #[v,.bool true]) :: E) S Q):Ops P ops (⟨some d,.typeAssert x U T true,ty,pos,af,none⟩ :: l) n E S Q:=
 Ops.val rfl rfl (λc w O _=>by simp only[execOp,O.eval K,Instr.typeAssert,Sem.run_bind,run_underlying D,Result.andThen_ok];cases u <;> simp_all[fB]) h J k
theorem Enters.i {g:FuncId} {args:List Operand} {h:Operand} {t:TypeId} {v r:Value} (K:∀ as w,(callFunc g as).run P w=.ok (.enter g as) w)
  (O:∀ w,(method (P.types.size+Made.depth) t v name).run P w=.ok (g,r) w) (W:ev E h=some (.iface t v)) (U:xG E args=some us) :
  Enters P n E S (.invoke h name) args g (r :: us):=by
 intro J V ty pos af c w D _;have e:args.toArray.map c.eval=us.toArray:=by simp[TY D U]
 simp only[execOp,resolve,e,D.eval W,Sem.run_bind,Sem.run_pure,Result.andThen_ok,invoke];simp[callMethod,O,K]
theorem Enters.iv {g:FuncId} {args:List Operand} {h:Operand} {t:TypeId} {v r:Value} (O:∀ as w,(callFunc g as).run P w=.ok (.enter g as) w)
  (U:∀ w,S w->(method (P.types.size+Made.depth) t v name).run P w=.ok (g,r) w) (Z:ev E h=some (.iface t v)) (V:xG E args=some us) :
  Enters P n E S (.invoke h name) args g (r :: us):=by
 intro J W ty pos af c w D K;have e:args.toArray.map c.eval=us.toArray:=by simp[TY D V]
 simp only[execOp,resolve,e,D.eval Z,Sem.run_bind,Sem.run_pure,Result.andThen_ok,invoke];simp[callMethod,U w K,O]
theorem U0 {g t N:Nat} {v r:Value} {b off:Nat} {cs:List Value} {W:TypeId} {J:Nat×Nat} (K:∀ w,(method N t v name).run P w=((loadVar T ⟨b,off,none⟩).run P w).andThen λr w=>.ok (g,r) w)
  (V:∀ w,(isAgg T).run P w=.ok false w) (U:Del m (pto b (.cells cs.toArray W J)) m') (D:cs[off]? = some r):∀ w,Sym w0 M I0 I m w->(method N t v name).run P w=.ok (g,r) w:=by
 intro w h;rw[K w];have Z:w.cell? ⟨b,off,none⟩=some r:=by rw[LU (h.del U).pto]; simpa using D
 have O:(loadVar T ⟨b,off,none⟩).run P w=.ok r w:=by have:=PO (P:=P) (T:=T) V Z;simpa[Instr.loadAt,Instr.sureAddr] using this
 rw[O]; rfl
theorem xO {a:Array TypeId} {t:TypeId} {p:Addr} {s n:ByteArray} (w:World):(Builtin.ssaWrapNilChk_ a t #[.pointer (some p),.string s,.string n]).run P w=.ok (.pointer (some p)) w:=by rfl
theorem K0 {t g e N b o:Nat} {i:TypeInfo} {m:Method} (D:Nat.blt 0 N=true) (hi:P.info? t=some i) (J:i.methods.find? (·.name==name)=some m) (hp:m.path = #[]) (h:m.func=some (g,false)) (K:P.underlying t=some (.pointer e)) (w:World) :
  (method N t (.pointer (some ⟨b,o,none⟩)) name).run P w=((loadVar e ⟨b,o,none⟩).run P w).andThen λr w=>.ok (g,r) w:=by
 cases N with
 | zero=>cases D
 | succ N=>simp[method,typeInfo,hi,J,hp,h,follow,receiverAt,run_underlying K,Place.get,strVal,xO,asAddr]
theorem nL {t g e N b o:Nat} {i:TypeInfo} {m:Method} (D:Nat.blt 0 N=true) (hi:P.info? t=some i) (J:i.methods.find? (·.name==name)=some m) (hp:m.path = #[]) (h:m.func=some (g,true)) (K:P.underlying t=some (.pointer e)) (w:World) :
  (method N t (.pointer (some ⟨b,o,none⟩)) name).run P w=.ok (g,.pointer (some ⟨b,o,none⟩)) w:=by
 cases N with
 | zero=>cases D
 | succ N=>simp[method,typeInfo,hi,J,hp,h,follow,receiverAt,run_underlying K,Place.get]
end Go.Fw
