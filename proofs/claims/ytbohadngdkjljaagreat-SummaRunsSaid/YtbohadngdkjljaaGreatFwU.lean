/- The engine. -/
import Derived.Test.YtbohadngdkjljaaGreatFwS
import Derived.Shelf.Sort.Plain
import Derived.Shelf.Slices.In.SortNone
namespace Go.Fw
open Go Go.RowKit Go.Shelf Go.Lib Go.Sort Go.Proofs
variable {P:Program}
def xA (xs:List Int) (K:List Int→Prop):Prop:=xs.length<4611686018427387904∧K (xs.mergeSort fun x y=>decide (x≤y))
theorem Fun.sortI {ρ:Ren} (L:Lays.n189 P ρ) {he:∀ x:Int,([Value.int .i64 x]:List Value).length=1∧LM [Value.int .i64 x]=true} {I:IH} {T:TypeId} {a:Option Addr} {cap:Nat} {xs:List Int} {K:List Int→Prop} (hd:xA xs K) :
   Fun P (ρ.f 189) #[.slice a xs.length cap] I [OwnSl (IF 1 (fun x=>[.int .i64 x]) he) T a cap xs] fun _ v l=>∃ ys,v=.tuple #[]∧ys.length=xs.length∧l=[OwnSl (IF 1 (fun x=>[.int .i64 x]) he) T a cap ys]∧K ys:=by
 obtain ⟨hsz,hK⟩:=hd
 intro w h hI hs hh Y
 have s0:=Fun.start hI hs hh Y
 obtain ⟨g1,g2,V,hl1,hl2,ha,hs2⟩:=hs
 rcases ha with ⟨rfl,rfl,rfl⟩ | ⟨b,c,rfl,hb,hcap,W,U⟩
 · refine (Any.slices_Sort_int_none L none 0 w).mono fun e w' he=>?_
   obtain ⟨rfl,rfl⟩:=he
   exact ⟨_,I,_,rfl,IH.le.refl _,⟨[],rfl,rfl,rfl,by simpa using hK⟩,s0⟩
 · have hpt:Sym w (fun b=>h b≠none) I I [pto b (.cells c T (0,0))] w:=by
    obtain ⟨hB,hi,hn,q,_,hq,hd2,hm⟩:=s0
    exact ⟨hB,hi,hn,h,⟨g1,g2,V,hl1,hl2,hb,hs2⟩,hh,Y,fun b hb=>.inl hb⟩
   have hw:=hpt.pto
   have hblt:b<w.heap.size:=(Array.getElem?_eq_some_iff.1 hw).1
   have J:∀ j,w.cell? ⟨b,j,none⟩=c[j]?:=fun j=>by rw [L9 hw]
   have hcs':c.size=cap*1:=W
   have hH:Holds (Value.int .i64) w b 0 xs.toArray:=by
    intro j O
    have Z:j<xs.length:=by simpa using O
    have hx:xs[j]? = some xs[j]:=List.getElem?_eq_getElem Z
    obtain ⟨cs,e1,e2⟩:=U _ _ hx
    have e1':cs=[Value.int .i64 xs[j]]:=e1
    subst e1'
    have h2:=e2 0 _ rfl
    have h2':c[j]? = some (.int .i64 xs[j]):=by
      have h3:c[j*1+0]? = some (.int .i64 xs[j]):=h2
      rwa [Nat.mul_one,Nat.add_zero] at h3
    refine ⟨?_,by simp [World.frozen?,hw]⟩
    rw [Nat.zero_add,J,h2']
    simp [Z]
   refine (Any.slices_Sort_int L b 0 cap xs w hH hblt hsz).mono fun e w' he=>?_
   obtain ⟨rfl,n,os,rfl⟩:=he
   generalize hys:(xs.mergeSort fun x y=>decide (x≤y))=ys at hK ⊢
   have G:ys.length=xs.length:=by rw [←hys,List.length_mergeSort]
   refine ⟨_,I,_,rfl,IH.le.refl _,⟨ys,rfl,G,rfl,hK⟩,?_⟩
   obtain ⟨D,hc1,hc2,hc3⟩:∃ D:Array Value,(putRow (Value.int .i64) w b 0 ys.toArray).heap[b]? = some (.cells D T (0,0))∧D.size=c.size∧∀ j (O:j<ys.length),D[j]? = some (.int .i64 ys[j]):=by
    refine ⟨putCells (Value.int .i64) 0 ys.toArray c,?_,by simp [putCells],fun j O=>?_⟩
    · simp [putRow,mapBlock,Array.getElem?_modify,hw,onCells]
    · have hjc:j<c.size:=by rw [hcs']; omega
      simp [putCells,hjc,O]
   have hup:=hpt.upd (o':=.cells D T (0,0)) (w':=putRow (Value.int .i64) w b 0 ys.toArray) rfl rfl rfl rfl (by simp [putRow,mapBlock])
    (fun q hq=>by simp [putRow,mapBlock,Array.getElem?_modify,Ne.symm hq]) hc1
   have hgr:=hup.grown (w':=grow ((putRow (Value.int .i64) w b 0 ys.toArray).drewN n) os) iU
   refine Sym.weaken (A:=pto b (.cells D T (0,0))) hgr fun q hq=>.inr ⟨b,D,rfl,hq,by rw [G]; exact hcap,by rw [hc2]; exact W,fun i x hx=>⟨[.int .i64 x],rfl,fun j v O=>?_⟩⟩
   obtain ⟨hil,hxi⟩:=List.getElem?_eq_some_iff.1 hx
   have hj0:j=0:=by
    have:=(List.getElem?_eq_some_iff.1 O).1
    simp at this; omega
   subst hj0
   have hv:v=.int .i64 x:=by simpa using O.symm
   show D[i*1+0]? = some v
   rw [Nat.mul_one,Nat.add_zero,hc3 i hil,hxi,hv]
end Go.Fw
