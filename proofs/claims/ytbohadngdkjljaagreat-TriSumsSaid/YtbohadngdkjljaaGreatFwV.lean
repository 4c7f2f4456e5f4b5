/- The engine, part V: room for a slice that is nil. -/
import Derived.Test.YtbohadngdkjljaaGreatFwX
namespace Go.Fw
open Go Go.RowKit
variable {w0 w:World} {M:Nat→Prop} {I0 I:IH} {m m':List HA}
variable {P:Program} {n:FrK} {E:DH} {S:World→Prop} {Q:Exit→Act→World→Prop} {ops:Array Oper} {l:List Oper}
variable {d ty:Nat} {pos:String} {af:Array Edge} {T e:TypeId} {x y:Operand} {α:Type} {a:Option Addr} {cap:Nat}
theorem vG {c:Int} (h0:0≤c) (hc:c≤140737488355328):IntKind.i64.wrap c=c:=by
  rw [IntKind.wrap_i64]; omega
def grP (B:Nat) (c:Int) (K:Prop):Prop:=0<c∧c*B≤140737488355328∧K
theorem dK {T' ty' sT:TypeId} {i:TypeInfo} {zc:Value} {B s:Nat} {c:Int} {qk q:IntKind} (hT:P.underlying sT=some (.slice e)) (hT':P.underlying T'=some (.int qk)) (hi:P.info? e=some i)
    (hs:i.size=s) (hB:i.bytes=B) (hz:i.zero=some zc) (h0:0<c) (hlim:c*B≤140737488355328) (hB0:0<B) :
    ∃ cp dr z,c.toNat≤cp∧w.drawn≤dr∧z.size=(if c.toNat*s=0 then 0 else c.toNat*zc.cells.size)∧(Builtin.append_ #[sT,T'] ty' #[.slice none 0 0,.int q c]).run P w =
      .ok (.slice (some ⟨w.heap.size,0,none⟩) c.toNat cp) (({ w with drawn:=dr }:World).alloc (.cells (z++Builtin.zeroCells zc.cells (cp - c.toNat)) e)):=by
  have hc:c≤140737488355328:=by
    have:c*1≤c*(B:Int):=Int.mul_le_mul_of_nonneg_left (by omega) (by omega)
    omega
  have hw:=vG (by omega:0≤c) hc
  obtain ⟨N,rfl⟩:∃ N:Nat,c=(N:Int):=⟨c.toNat,by omega⟩
  have hlimN : N * B ≤ 140737488355328 := by have h : ((N * B : Nat) : Int) ≤ 140737488355328 := by rw [Int.natCast_mul]; exact hlim
                                             omega
  have hso:∀ w,(sizeOf e).run P w=.ok s w:=fun w=>by simp [sizeOf,typeInfo,hi,hs]
  have hti:∀ w,(typeInfo e).run P w=.ok i w:=fun w=>by simp [typeInfo,hi]
  have hzv:∀ w,(zeroValue e).run P w=.ok zc w:=fun w=>by simp [zeroValue,hti,hz]
  have hgrow:=growslice_fits (need:=N) (old:=0) (by omega) hlimN
  have g0:¬((N:Int)<0):=by omega
  have g1:¬(281474976710656<(N:Int)*(B:Int)):=by omega
  have g2:¬(281474976710656<Builtin.nextslicecap N 0*B):=by omega
  have g3:¬(9223372036854775807<(N:Int)):=by omega
  have g4:¬(N=0):=by omega
  have hq:(Question.appendCap N 0 e).forced=false:=rfl
  refine ⟨(Question.appendCap N 0 e).cut (w.tape w.drawn (Question.appendCap N 0 e)),w.drawn+1,if N*s=0 then #[] else Builtin.zeroCells zc.cells N,(by show N≤_; exact Nat.le_add_right _ _),Nat.le_succ _,?_,?_⟩
  · simp only [Int.toNat_natCast]; split <;> simp [Builtin.zeroCells]
  have e63:IntKind.i64.max=9223372036854775807:=rfl
  simp only [Builtin.append_,List.getElem?_toArray,List.getElem?_cons_zero,List.getElem?_cons_succ,Sem.run_bind,run_underlying hT,run_underlying hT',Result.andThen_ok,Sem.run_pure,hso,asInt,asIntOf,hw,g0,if_false,if_true,hti,hB,e63,Int.toNat_natCast,Nat.zero_add]
  by_cases hns:N*s=0
  · simp [hq,hzv,newRow,g1,g2,g3,g4,hns,Builtin.firstCells,hti,hB]
  · simp [hq,hzv,newRow,g1,g2,g3,g4,hns,Builtin.firstCells,hti,hB]
theorem Ops.growN {T' sT:TypeId} {i:TypeInfo} {zc:Value} {tys:Array TypeId} {c:Int} {q qk:IntKind} (El:EL α) (B:Nat) (hT:P.underlying sT=some (.slice e)) (hT':P.underlying T'=some (.int qk)) (hi:P.info? e=some i)
    (hsz:i.size=El.sz) (hB:i.bytes=B) (hz:i.zero=some zc) (hzc:zc.cells.size=El.sz) (hB0:Nat.blt 0 B=true) (htys:tys = #[sT,T']) (hx:ev E x=some (.slice none 0 0)) (hy:ev E y=some (.int q c))
    (h0:0<c) (h1:c*B≤140737488355328) (hb:Nat.blt d n.sz=true) (hf:fresh E d=true)
    (k:∀ b cp,c.toNat≤cp→Ops P ops l n ((d,.slice (some ⟨b,0,none⟩) c.toNat cp) :: E) (Sym w0 M I0 I (OwnSl El e (some ⟨b,0,none⟩) cp [] :: m)) Q) :
    Ops P ops (⟨some d,.call ⟨.builtin .append,#[x,y],tys⟩,ty,pos,af,none⟩ :: l) n E (Sym w0 M I0 I m) Q:=
  Ops.valx (fun v w'=>∃ b cp,v=.slice (some ⟨b,0,none⟩) c.toNat cp∧c.toNat≤cp∧Sym w0 M I0 I (OwnSl El e (some ⟨b,0,none⟩) cp [] :: m) w') rfl rfl
    (fun cc w ho hs=>by
      obtain ⟨cp,dr,z,hcp,hdr,hzs,hr⟩:=dK (w:=w) (ty':=ty) (q:=q) hT hT' hi hsz hB hz h0 h1 (by simpa [Nat.blt_eq] using hB0)
      subst htys
      refine ⟨_,_,?_,w.heap.size,cp,rfl,hcp,((hs.drew dr hdr).alloc _).weaken fun q hq=>.inr ⟨w.heap.size,(z++Builtin.zeroCells zc.cells (cp - c.toNat)),rfl,hq,by simp,?_,fun i x hx=>by simp at hx⟩⟩
      · have e:(#[x,y].map cc.eval) = #[.slice none 0 0,.int q c]:=by simp [ho.eval hx,ho.eval hy]
        simp only [execOp,resolve,e,Sem.run_bind,Sem.run_pure,Result.andThen_ok,invoke,builtin,hr]
      · simp only [Array.size_append,hzs,nO _ hzc,hzc]
        split
        · rename_i h
          rcases Nat.mul_eq_zero.1 h with h | h
          · omega
          · simp [h]
        · rw [←Nat.add_mul]; congr 1; omega) hb hf
    (fun v c w ho ⟨b,cp,hv,hcp,hs⟩=>by subst hv; exact k b cp hcp c w ho hs)
theorem Ops.slZ {S:World→Prop} {s k:Nat} {q:IntKind} (hT:P.underlying T=some (.slice e)) (hs:∀ w,(sizeOf e).run P w=.ok s w) (hx:ev E x=some (.slice a k cap)) (hy:ev E y=some (.int q 0)) (hk:k≤cap)
    (ha:a.map (·.add 0)=a) (hb:Nat.blt d n.sz=true) (hf:fresh E d=true) (k':Ops P ops l n ((d,.slice a 0 cap) :: E) S Q):Ops P ops (⟨some d,.slice T x none (some y) none,ty,pos,af,none⟩ :: l) n E S Q:=
  Ops.val rfl rfl (fun c w ho _=>by
    have hr:=gX (P:=P) (a:=a) (cap:=cap) (L:=0) (H:=0) (k:=k) (lo:=none) (hi:=some (.int q 0)) hT hs (Nat.le_refl _) (Nat.zero_le _) hk (.inl ⟨rfl,rfl⟩) (.inr ⟨q,0,rfl,by omega,rfl⟩) w
    simp only [Nat.zero_mul,Nat.sub_zero,ha,ite_self] at hr
    simp only [execOp,ho.eval hx,Option.map_some,Option.map_none,ho.eval hy,Sem.run_bind,hr,Result.andThen_ok,Sem.run_pure]) hb hf k'
theorem qV {b:Nat}:(some (⟨b,0,none⟩:Addr)).map (·.add 0)=some ⟨b,0,none⟩:=by simp [Addr.add]
end Go.Fw
