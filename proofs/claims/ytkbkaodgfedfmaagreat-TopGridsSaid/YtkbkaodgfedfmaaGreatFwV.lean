/- The engine. -/
import Derived.Test.YtkbkaodgfedfmaaGreatFwX
namespace Go.Fw
open Go Go.RowKit
variable {w0 w:World} {M:Nat→Prop} {I0 I:IH} {m m':List HA}
variable {P:Program} {n:FrK} {E:CZ} {S:World→Prop} {Q:Exit→Act→World→Prop} {ops:Array Oper} {l:List Oper}
variable {d ty:Nat} {pos:String} {af:Array Edge} {T e:TypeId} {x y:Operand} {α:Type} {a:Option Addr} {cap:Nat}
theorem Ab9 {c:Int} (h0:0<=c) (hc:c<=140737488355328):IntKind.i64.wrap c=c:=by rw[IntKind.wrap_i64]; omega
def grP (B:Nat) (c:Int) (K:Prop):Prop:=0<c∧c*B<=140737488355328∧K
theorem jG {T' ty' sT:TypeId} {i:TypeInfo} {zc:Value} {B s:Nat} {c:Int} {qk q:IntKind} (hT:P.underlying sT=some (.slice e)) (hT':P.underlying T'=some (.int qk)) (hi:P.info? e=some i)
    (hs:i.size=s) (hB:i.bytes=B) (hz:i.zero=some zc) (h0:0<c) (hlim:c*B<=140737488355328) (hB0:0<B) :
    ∃ cp dr z,c.toNat<=cp∧w.drawn<=dr∧z.size=(if c.toNat*s=0 then 0 else c.toNat*zc.cells.size)∧(Builtin.append_ #[sT,T'] ty' #[.slice none 0 0,.int q c]).run P w =
      .ok (.slice (some ⟨w.heap.size,0,none⟩) c.toNat cp) (({ w with drawn:=dr }:World).alloc (.cells (z++Builtin.zeroCells zc.cells (cp - c.toNat)) e)):=by
  have hc:c<=140737488355328:=by have:c*1<=c*(B:Int):=Int.mul_le_mul_of_nonneg_left (by omega) (by omega);omega
  have hw:=Ab9 (by omega:0<=c) hc;obtain⟨N,rfl⟩:∃ N:Nat,c=(N:Int):=⟨c.toNat,by omega⟩
  have hlimN : N * B <= 140737488355328 := by
    have h : ((N * B : Nat) : Int) <= 140737488355328 := by rw[Int.natCast_mul]; exact hlim
    omega
  have hso:∀ w,(sizeOf e).run P w=.ok s w:=λw=>by simp[sizeOf,typeInfo,hi,hs]
  have hti:∀ w,(typeInfo e).run P w=.ok i w:=λw=>by simp[typeInfo,hi]
  have hzv:∀ w,(zeroValue e).run P w=.ok zc w:=λw=>by simp[zeroValue,hti,hz]
  have hgrow:=growslice_fits (need:=N) (old:=0) (by omega) hlimN;have g0:¬((N:Int)<0):=by omega
  have g1:¬(281474976710656<(N:Int)*(B:Int)):=by omega
  have g2:¬(281474976710656<Builtin.nextslicecap N 0*B):=by omega
  have g3:¬(9223372036854775807<(N:Int)):=by omega
  have g4:¬(N=0):=by omega
  have hq:(Question.appendCap N 0 e).forced=false:=rfl;refine⟨(Question.appendCap N 0 e).cut (w.tape w.drawn (Question.appendCap N 0 e)),w.drawn+1,if N*s=0 then #[] else Builtin.zeroCells zc.cells N,(by show N<=_; exact Nat.le_add_right _ _),Nat.le_succ _,?_,?_⟩
  . simp only[Int.toNat_natCast]; split <;> simp[Builtin.zeroCells]
  have e63:IntKind.i64.max=9223372036854775807:=rfl;simp only[Builtin.append_,List.getElem?_toArray,List.getElem?_cons_zero,List.getElem?_cons_succ,Sem.run_bind,run_underlying hT,run_underlying hT',Result.andThen_ok,Sem.run_pure,hso,asInt,asIntOf,hw,g0,if_false,if_true,hti,hB,e63,Int.toNat_natCast,Nat.zero_add];by_cases hns:N*s=0
  . simp[hq,hzv,newRow,g1,g2,g3,g4,hns,Builtin.firstCells,hti,hB]
  . simp[hq,hzv,newRow,g1,g2,g3,g4,hns,Builtin.firstCells,hti,hB]
theorem Ops.growN {T' sT:TypeId} {i:TypeInfo} {zc:Value} {O:Array TypeId} {c:Int} {q qk:IntKind} (El:EP α) (B:Nat) (hT:P.underlying sT=some (.slice e)) (W:P.underlying T'=some (.int qk)) (hi:P.info? e=some i)
  (hsz:i.size=El.sz) (hB:i.bytes=B) (hz:i.zero=some zc) (K:zc.cells.size=El.sz) (hB0:Nat.blt 0 B=true) (U:O = #[sT,T']) (Z:ev E x=some (.slice none 0 0)) (hy:ev E y=some (.int q c))
  (h0:0<c) (h1:c*B<=140737488355328) (hb:Nat.blt d n.sz=true) (hf:fresh E d=true)
  (k:∀ b D,c.toNat<=D->Ops P ops l n ((d,.slice (some ⟨b,0,none⟩) c.toNat D) :: E) (Sym w0 M I0 I (OwnSl El e (some ⟨b,0,none⟩) D [] :: m)) Q) :
  Ops P ops (⟨some d,.call ⟨.builtin .append,#[x,y],O⟩,ty,pos,af,none⟩ :: l) n E (Sym w0 M I0 I m) Q:=
 Ops.valx (λv w'=>∃ b D,v=.slice (some ⟨b,0,none⟩) c.toNat D∧c.toNat<=D∧Sym w0 M I0 I (OwnSl El e (some ⟨b,0,none⟩) D [] :: m) w') rfl rfl
  (λcc w V hs=>by
   obtain⟨D,dr,z,J,hdr,hzs,hr⟩:=jG (w:=w) (ty':=ty) (q:=q) hT W hi hsz hB hz h0 h1 (by simpa[Nat.blt_eq] using hB0);subst U;refine⟨_,_,?_,w.heap.size,D,rfl,J,((hs.drew dr hdr).alloc _).weaken λq hq=>.inr ⟨w.heap.size,(z++Builtin.zeroCells zc.cells (D - c.toNat)),rfl,hq,by simp,?_,λi x Z=>by simp at Z⟩⟩
   . have e:(#[x,y].map cc.eval) = #[.slice none 0 0,.int q c]:=by simp[V.eval Z,V.eval hy]
     simp only[execOp,resolve,e,Sem.run_bind,Sem.run_pure,Result.andThen_ok,invoke,builtin,hr]
   . simp only[Array.size_append,hzs,uE _ K,K];split
     . rename_i h;rcases Nat.mul_eq_zero.1 h with h | h
       . omega
       . simp[h]
     . rw[<-Nat.add_mul]; congr 1; omega) hb hf
  (λv c w V ⟨b,D,hv,J,hs⟩=>by subst hv; exact k b D J c w V hs)
theorem Ops.slZ {S:World->Prop} {s k:Nat} {q:IntKind} (O:P.underlying T=some (.slice e)) (K:∀ w,(sizeOf e).run P w=.ok s w) (hx:ev E x=some (.slice a k cap)) (Z:ev E y=some (.int q 0)) (hk:k<=cap)
  (W:a.map (·.add 0)=a) (V:Nat.blt d n.sz=true) (U:fresh E d=true) (J:Ops P ops l n ((d,.slice a 0 cap) :: E) S Q):Ops P ops (⟨some d,.slice T x none (some y) none,ty,pos,af,none⟩ :: l) n E S Q:=
 Ops.val rfl rfl (λc w h _=>by have D:=nD (P:=P) (a:=a) (cap:=cap) (L:=0) (H:=0) (k:=k) (lo:=none) (hi:=some (.int q 0)) O K (Nat.le_refl _) (Nat.zero_le _) hk (.inl ⟨rfl,rfl⟩) (.inr ⟨q,0,rfl,by omega,rfl⟩) w;simp only[Nat.zero_mul,Nat.sub_zero,W,ite_self] at D;simp only[execOp,h.eval hx,Option.map_some,Option.map_none,h.eval Z,Sem.run_bind,D,Result.andThen_ok,Sem.run_pure]) V U J
theorem AgS {b:Nat}:(some (⟨b,0,none⟩:Addr)).map (·.add 0)=some ⟨b,0,none⟩:=by simp[Addr.add]
end Go.Fw
