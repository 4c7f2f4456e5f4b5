/- The engine. -/
import Derived.Test.YtbohadngdkjljaaGreatFwB
import Derived.Laws.CopyRow
namespace Go.Fw
open Go Go.RowKit
variable {w0 w:World} {M:Nat→Prop} {I0 I:IH} {m m':List HA}
variable {P:Program} {n:FrK} {E:D7} {Q:Exit→Act→World→Prop} {ops:Array Oper} {l:List Oper}
variable {d ty:Nat} {pos:String} {af:Array Edge} {T:TypeId} {x y:Operand}
/-! ### Cells by lists -/
variable {T':TypeId} {cs':List Value} {fz:Nat×Nat} {fs:Array Field}
inductive Cut:List Value→Nat→List Value→Prop
 | nil {cs:List Value}:Cut cs 0 []
 | t {c:Value} {cs vs:List Value}:Cut cs 0 vs→Cut (c :: cs) 0 (c :: vs)
 | s {c:Value} {cs vs:List Value} {k:Nat}:Cut cs k vs→Cut (c :: cs) (k+1) vs
theorem Cut.get {cs vs:List Value} {k:Nat} (h:Cut cs k vs):∀ j v,vs[j]? = some v→cs[k+j]? = some v:=by
 induction h with
 | nil=>intro j v h; simp at h
 | t h G=>
  intro j v D
  cases j with
  | zero=>simpa using D
  | succ j=>have:=G j v (by simpa using D); simpa [Nat.add_comm,Nat.add_left_comm] using this
 | s h G=>intro j v D; have:=G j v D; rw [Nat.add_right_comm]; simpa using this
inductive PutC:List Value→Nat→List Value→List Value→Prop
 | nil {cs:List Value}:PutC cs 0 [] cs
 | t {c v:Value} {cs vs cs':List Value}:PutC cs 0 vs cs'→PutC (c :: cs) 0 (v :: vs) (v :: cs')
 | s {c:Value} {cs vs cs':List Value} {k:Nat}:PutC cs k vs cs'→PutC (c :: cs) (k+1) vs (c :: cs')
theorem PutC.eq {cs vs:List Value} {k:Nat} (h:PutC cs k vs cs'):cs'=cs.take k++vs++cs.drop (k+vs.length)∧k+vs.length≤cs.length:=by
 induction h with
 | nil=>simp
 | t h D=>obtain ⟨D,G⟩:=D; simp at D G ⊢; exact ⟨by simpa using D,G⟩
 | s h D=>
  obtain ⟨D,G⟩:=D
  refine ⟨?_,by simp at G ⊢; omega⟩
  rw [D,Nat.add_right_comm]; simp
def one (v:Value):Bool:=v.oneCell'
def LM:List Value→Bool
 | []=>true
 | v :: vs=>one v && LM vs
theorem SS {vs:List Value} (h:LM vs=true):∀ v∈vs,v.oneCell'=true:=by
 induction vs with
 | nil=>intro v D; cases D
 | cons u vs G=>
  simp only [LM,Bool.and_eq_true] at h
  intro v D
  cases D with
  | head=>exact h.1
  | tail _ D=>exact G h.2 v D
theorem O7 {b off:Nat} {v:Value} (D:∀ w,(isAgg T).run P w=.ok false w) (h:w.cell? ⟨b,off,none⟩=some v):(Instr.loadAt T (.pointer (some ⟨b,off,none⟩))).run P w=.ok v w:=by
 simp [Instr.loadAt,Instr.sureAddr,loadVar,D,h]
theorem JH {b off s:Nat} {vs:List Value} (G:∀ w,(isAgg T).run P w=.ok true w) (J:∀ w,(sizeOf T).run P w=.ok s w) (D:vs.length=s) (O:∀ j v,vs[j]? = some v→w.cell? ⟨b,off+j,none⟩=some v) :
  (Instr.loadAt T (.pointer (some ⟨b,off,none⟩))).run P w=.ok (.agg vs.toArray) w:=by
 subst D
 have h:=run_loadCells_list (P:=P) w ⟨b,off,none⟩ vs (fun j v U=>by
  have:=O j v U
  have e:(⟨b,off,none⟩:Addr).add j=⟨b,off+j,none⟩:=by unfold Addr.add; split <;> simp_all
  rw [e]; exact this)
 simp [Instr.loadAt,Instr.sureAddr,loadVar,G,J,h]
theorem L9 {b off:Nat} {cs:Array Value} {t:TypeId} (h:w.heap[b]? = some (.cells cs t fz)):w.cell? ⟨b,off,none⟩=cs[off]?:=by simp [World.cell?,h]
theorem Ops.allocA {z:Array Value} (U:∀ w,(zeroValue T).run P w=.ok (.agg z) w) (G:Nat.blt d n.sz=true) (O:fresh E d=true)
  (k:∀ b,Ops P ops l n ((d,.pointer (some ⟨b,0,none⟩)) :: E) (Sym w0 M I0 I (pto b (.cells z T) :: m)) Q) :
  Ops P ops (⟨some d,.alloc T,ty,pos,af,none⟩ :: l) n E (Sym w0 M I0 I m) Q:=
 Ops.valx (fun v w'=>∃ b,v=.pointer (some ⟨b,0,none⟩)∧Sym w0 M I0 I (pto b (.cells z T) :: m) w') rfl rfl
  (fun a w _ h=>⟨.pointer (some ⟨w.heap.size,0,none⟩),w.alloc (.cells z T),by simp [execOp,Instr.alloc,U,newVar,newRow,Value.cells],_,rfl,h.alloc _⟩) G O
  (fun v a w D ⟨b,J,h⟩=>by subst J; exact k b a w D h)
theorem Ops.alloc1 {z:Value} (W:∀ w,(zeroValue T).run P w=.ok z w) (V:one z=true) (G:Nat.blt d n.sz=true) (O:fresh E d=true)
  (k:∀ b,Ops P ops l n ((d,.pointer (some ⟨b,0,none⟩)) :: E) (Sym w0 M I0 I (pto b (.cells #[z] T) :: m)) Q) :
  Ops P ops (⟨some d,.alloc T,ty,pos,af,none⟩ :: l) n E (Sym w0 M I0 I m) Q:=
 Ops.valx (fun v w'=>∃ b,v=.pointer (some ⟨b,0,none⟩)∧Sym w0 M I0 I (pto b (.cells #[z] T) :: m) w') rfl rfl
  (fun a w _ h=>⟨.pointer (some ⟨w.heap.size,0,none⟩),w.alloc (.cells #[z] T),by
   have J:z.cells = #[z]:=by cases z <;> first | rfl | cases V
   simp [execOp,Instr.alloc,W,newVar,newRow,J],_,rfl,h.alloc _⟩) G O
  (fun v a w D ⟨b,U,h⟩=>by subst U; exact k b a w D h)
theorem Ops.boxA {z:Array Value} (U:ev E x=some (.agg z)) (G:Nat.blt d n.sz=true) (O:fresh E d=true)
  (k:∀ b,Ops P ops l n ((d,.pointer (some ⟨b,0,none⟩)) :: E) (Sym w0 M I0 I (pto b (.cells z T) :: m)) Q) :
  Ops P ops (⟨some d,.box T x,ty,pos,af,none⟩ :: l) n E (Sym w0 M I0 I m) Q:=
 Ops.valx (fun v w'=>∃ b,v=.pointer (some ⟨b,0,none⟩)∧Sym w0 M I0 I (pto b (.cells z T) :: m) w') rfl rfl
  (fun a w h D=>⟨.pointer (some ⟨w.heap.size,0,none⟩),w.alloc (.cells z T),by simp [execOp,Instr.box,h.eval U,newVar,newRow,Value.cells],_,rfl,D.alloc _⟩) G O
  (fun v a w h ⟨b,J,D⟩=>by subst J; exact k b a w h D)
theorem Ops.box1 {z:Value} (V:ev E x=some z) (W:one z=true) (G:Nat.blt d n.sz=true) (O:fresh E d=true)
  (k:∀ b,Ops P ops l n ((d,.pointer (some ⟨b,0,none⟩)) :: E) (Sym w0 M I0 I (pto b (.cells #[z] T) :: m)) Q) :
  Ops P ops (⟨some d,.box T x,ty,pos,af,none⟩ :: l) n E (Sym w0 M I0 I m) Q:=
 Ops.valx (fun v w'=>∃ b,v=.pointer (some ⟨b,0,none⟩)∧Sym w0 M I0 I (pto b (.cells #[z] T) :: m) w') rfl rfl
  (fun a w h D=>⟨.pointer (some ⟨w.heap.size,0,none⟩),w.alloc (.cells #[z] T),by
   have J:z.cells = #[z]:=by cases z <;> first | rfl | cases W
   simp [execOp,Instr.box,h.eval V,newVar,newRow,J],_,rfl,D.alloc _⟩) G O
  (fun v a w h ⟨b,U,D⟩=>by subst U; exact k b a w h D)
theorem Ops.load1 {b off:Nat} {cs:List Value} {v:Value} (Y:∀ w,(isAgg T).run P w=.ok false w) (U:ev E x=some (.pointer (some ⟨b,off,none⟩)))
  (V:Del m (pto b (.cells cs.toArray T' fz)) m') (J:cs[off]? = some v) (G:Nat.blt d n.sz=true) (O:fresh E d=true) (k:Ops P ops l n ((d,v) :: E) (Sym w0 M I0 I m) Q) :
  Ops P ops (⟨some d,.load T x,ty,pos,af,none⟩ :: l) n E (Sym w0 M I0 I m) Q:=
 Ops.val rfl rfl (fun a w D W=>by
  have h:=(W.del V).pto
  simp [execOp,D.eval U,O7 (P:=P) Y ((L9 h).trans (by simpa using J))]) G O k
theorem Ops.loadA {b off s:Nat} {cs vs:List Value} (U:∀ w,(isAgg T).run P w=.ok true w) (G:∀ w,(sizeOf T).run P w=.ok s w) (hx:ev E x=some (.pointer (some ⟨b,off,none⟩)))
  (hA:Del m (pto b (.cells cs.toArray T' fz)) m') (Y:Cut cs off vs) (O:vs.length=s) (D:Nat.blt d n.sz=true) (Z:fresh E d=true) (k:Ops P ops l n ((d,.agg vs.toArray) :: E) (Sym w0 M I0 I m) Q) :
  Ops P ops (⟨some d,.load T x,ty,pos,af,none⟩ :: l) n E (Sym w0 M I0 I m) Q:=
 Ops.val rfl rfl (fun a w W V=>by
  have h:=(V.del hA).pto
  simp [execOp,W.eval hx,JH (P:=P) U G O (fun j v J=>(L9 h).trans (by simpa using Y.get j v J))]) D Z k
theorem Ops.loadW {b s:Nat} {cs:List Value} (U:∀ w,(isAgg T).run P w=.ok true w) (G:∀ w,(sizeOf T).run P w=.ok s w) (Z:ev E x=some (.pointer (some ⟨b,0,none⟩)))
  (hA:Del m (pto b (.cells cs.toArray T' fz)) m') (O:cs.length=s) (D:Nat.blt d n.sz=true) (Y:fresh E d=true) (k:Ops P ops l n ((d,.agg cs.toArray) :: E) (Sym w0 M I0 I m) Q) :
  Ops P ops (⟨some d,.load T x,ty,pos,af,none⟩ :: l) n E (Sym w0 M I0 I m) Q:=
 Ops.val rfl rfl (fun a w W V=>by
  have h:=(V.del hA).pto
  simp [execOp,W.eval Z,JH (P:=P) U G O (fun j v J=>(L9 (off:=0+j) h).trans (by rw [Nat.zero_add]; simpa using J))]) D Y k
theorem setRow_other {g i:Nat} {c:Array Value} (h:i≠g):(w.setRow g c).heap[i]? = w.heap[i]?:=by
 simp only [World.setRow,Array.getElem?_modify]
 rw [if_neg (by omega)]
theorem Sym.store {b off:Nat} {cs vs:List Value} (h:Sym w0 M I0 I (Fw.pto b (.cells cs.toArray T' (0,0)) :: m) w) (hp:PutC cs off vs cs') (J:LM vs=true) :
  ∃ w',(storeCells ⟨b,off,none⟩ vs).run P w=.ok () w'∧Sym w0 M I0 I (Fw.pto b (.cells cs'.toArray T' (0,0)) :: m) w':=by
 obtain ⟨he,G⟩:=hp.eq
 have D:=h.pto
 have O:=run_storeCells_at (P:=P) b off T' vs 0 cs.toArray w D (by simpa using G) (SS J)
 refine ⟨_,O,h.upd rfl rfl rfl rfl (by simp [World.setRow]) (fun k hk=>setRow_other hk) ?_⟩
 rw [setRow_heap w b _ _ T' _ D]
 simp [he]
theorem Sym.reAt {A B:HA} (D:At m A m' B) (h:Sym w0 M I0 I m w) {w':World} (O:∀ r,Sym w0 M I0 I (A :: r) w→Sym w0 M I0 I (B :: r) w'):Sym w0 M I0 I m' w':=by
 obtain ⟨r,J,G⟩:=D.del
 exact (O r (h.del J)).undel G
theorem Ops.storeA {b off s:Nat} {cs vs:List Value} (J:∀ w,(sizeOf T).run P w=.ok s w) (Y:ev E x=some (.pointer (some ⟨b,off,none⟩))) (G:ev E y=some (.agg vs.toArray))
  (Z:At m (pto b (.cells cs.toArray T' (0,0))) m' (pto b (.cells cs'.toArray T' (0,0)))) (W:PutC cs off vs cs') (O:vs.length=s) (U:LM vs=true)
  (k:Ops P ops l n E (Sym w0 M I0 I m') Q):Ops P ops (⟨none,.store T x y,ty,pos,af,none⟩ :: l) n E (Sym w0 M I0 I m) Q:=
 Ops.act rfl rfl (fun a w D V=>by
  obtain ⟨r,h2,h3⟩:=Z.del
  obtain ⟨w',hr,h⟩:=(V.del h2).store (P:=P) W U
  refine ⟨w',?_,h.undel h3⟩
  simp [execOp,D.eval Y,D.eval G,Instr.storeAt,Instr.sureAddr,storeVar,J,Value.cells,O,hr]) k
theorem Ops.store1 {b off:Nat} {cs:List Value} {v:Value} (U:∀ w,(sizeOf T).run P w=.ok 1 w) (Y:ev E x=some (.pointer (some ⟨b,off,none⟩))) (O:ev E y=some v)
  (Z:At m (pto b (.cells cs.toArray T' (0,0))) m' (pto b (.cells cs'.toArray T' (0,0)))) (W:PutC cs off [v] cs') (G:one v=true)
  (k:Ops P ops l n E (Sym w0 M I0 I m') Q):Ops P ops (⟨none,.store T x y,ty,pos,af,none⟩ :: l) n E (Sym w0 M I0 I m) Q:=
 Ops.act rfl rfl (fun a w J V=>by
  obtain ⟨r,h2,h3⟩:=Z.del
  obtain ⟨w',hr,D⟩:=(V.del h2).store (P:=P) W (by simp [LM,G])
  refine ⟨w',?_,D.undel h3⟩
  have h:v.cells = #[v]:=by cases v <;> first | rfl | cases G
  simp [execOp,J.eval Y,J.eval O,Instr.storeAt,Instr.sureAddr,storeVar,U,h,hr]) k
def ImC (I:IH) (b off:Nat) (cs:List Value):Prop:=∃ c t fz,I b=some (.cells c t fz)∧∀ j v,cs[j]? = some v→c[off+j]? = some v
theorem ImC.mono {I J:IH} {b off:Nat} {cs:List Value} (h:ImC I b off cs) (D:I.le J):ImC J b off cs:=by
 obtain ⟨c,t,fz,O,G⟩:=h
 exact ⟨c,t,fz,D _ _ O,G⟩
theorem ImC.cell {b off j:Nat} {cs:List Value} {v:Value} (h:ImC I b off cs) (O:Sym w0 M I0 I m w) (D:cs[j]? = some v):w.cell? ⟨b,off+j,none⟩=some v:=by
 obtain ⟨c,t,fz,G,J⟩:=h
 rw [L9 (O.imm _ _ G)]
 exact J j v D
theorem Ops.ld1 {b off o j:Nat} {cs:List Value} {v:Value} (G:∀ w,(isAgg T).run P w=.ok false w) (h:ImC I b off cs) (Y:ev E x=some (.pointer (some ⟨b,o,none⟩))) (O:o=off+j) (V:cs[j]? = some v)
  (D:Nat.blt d n.sz=true) (W:fresh E d=true) (k:Ops P ops l n ((d,v) :: E) (Sym w0 M I0 I m) Q) :
  Ops P ops (⟨some d,.load T x,ty,pos,af,none⟩ :: l) n E (Sym w0 M I0 I m) Q:=
 Ops.val rfl rfl (fun a w U J=>by
  subst O
  simp [execOp,U.eval Y,O7 (P:=P) G (h.cell J V)]) D W k
theorem Ops.ldA {b off o j s:Nat} {cs vs:List Value} (O:∀ w,(isAgg T).run P w=.ok true w) (G:∀ w,(sizeOf T).run P w=.ok s w) (h:ImC I b off cs) (hx:ev E x=some (.pointer (some ⟨b,o,none⟩)))
  (V:o=off+j) (Y:Cut cs j vs) (J:vs.length=s) (D:Nat.blt d n.sz=true) (Z:fresh E d=true) (k:Ops P ops l n ((d,.agg vs.toArray) :: E) (Sym w0 M I0 I m) Q) :
  Ops P ops (⟨some d,.load T x,ty,pos,af,none⟩ :: l) n E (Sym w0 M I0 I m) Q:=
 Ops.val rfl rfl (fun a w W U=>by
  subst V
  simp [execOp,W.eval hx,JH (P:=P) O G J (fun i v hi=>by rw [Nat.add_assoc]; exact h.cell U (Y.get i v hi))]) D Z k
theorem Ops.ldW {b off s:Nat} {cs:List Value} (O:∀ w,(isAgg T).run P w=.ok true w) (G:∀ w,(sizeOf T).run P w=.ok s w) (h:ImC I b off cs) (Y:ev E x=some (.pointer (some ⟨b,off,none⟩)))
  (J:cs.length=s) (D:Nat.blt d n.sz=true) (W:fresh E d=true) (k:Ops P ops l n ((d,.agg cs.toArray) :: E) (Sym w0 M I0 I m) Q) :
  Ops P ops (⟨some d,.load T x,ty,pos,af,none⟩ :: l) n E (Sym w0 M I0 I m) Q:=
 Ops.val rfl rfl (fun a w V U=>by
  simp [execOp,V.eval Y,JH (P:=P) O G J (fun i v hi=>h.cell U hi)]) D W k
def cellsOf:Value→List Value
 | .agg cs=>cs.toList
 | v=>[v]
theorem Q4 (v:Value):v.cells=(cellsOf v).toArray:=by cases v <;> simp [Value.cells,cellsOf]
inductive bJ (fs:Array Field) (E:D7):List Value→List (Nat×Operand)→List Value→Prop
 | n {z:List Value}:bJ fs E z [] z
 | c {z z' cs vs:List Value} {i:Nat} {x:Operand} {r:List (Nat×Operand)} {f:Field} {v:Value} (hi:fs[i]? = some f) (hx:ev E x=some v) (hv:cellsOf v=vs) (hp:PutC z f.offset vs z') (k:bJ fs E z' r cs) :
  bJ fs E z ((i,x) :: r) cs
theorem Z5:∀ (vs:List Value) (off j:Nat) (z:Array Value),off+j+vs.length≤z.size →
  ((vs.zipIdx j).foldl (fun cs (p:Value×Nat)=>cs.setIfInBounds (off+p.2) p.1) z)=(z.toList.take (off+j)++vs++z.toList.drop (off+j+vs.length)).toArray
 | [],off,j,z,_=>by simp
 | v :: vs,off,j,z,h=>by
  simp only [List.length_cons] at h
  rw [List.zipIdx_cons,List.foldl_cons,Z5 vs off (j+1) _ (by simp; omega)]
  congr 1
  have e:=list_seg_step z.toList (off+j) v vs (by simp; omega)
  simpa [Array.toList_setIfInBounds,Nat.add_assoc] using e
theorem AaB {places:Array (Nat×Nat)} (O:∀ (i:Nat) (f:Field),fs[i]? = some f→∃ s,places[i]? = some (f.offset,s)) {ev':Operand→Value} :
  ∀ {z:List Value} {r:List (Nat×Operand)} {cs:List Value},bJ fs E z r cs→(∀ x v,ev E x=some v→ev' x=v) →
   (∀ (i:Nat) (x:Operand) (f:Field) (s:Nat),(i,x)∈r→fs[i]? = some f→places[i]? = some (f.offset,s)→(cellsOf (ev' x)).length=s) →
   Instr.fill (places[·]?) z.toArray (r.map fun p=>(p.1,ev' p.2))=some cs.toArray:=by
 intro z r cs h
 induction h with
 | n=>intros; rfl
 | @c z z' cs vs i x r f v hi W V hp k ih=>
  intro he U
  obtain ⟨s,G⟩:=O i f hi
  have D:=U i x f s (by simp) hi G
  rw [he x v W,V] at D
  obtain ⟨J,hle⟩:=hp.eq
  have Y:(ev' x).cells=vs.toArray:=by rw [he x v W,Q4,V]
  simp only [List.map_cons,Instr.fill,G,Y]
  rw [if_neg (by simp; omega)]
  have Z:vs.toArray.zipIdx.foldl (fun cs (p:Value×Nat)=>cs.setIfInBounds (f.offset+p.2) p.1) z.toArray=z'.toArray:=by
   rw [←Array.foldl_toList,Array.toList_zipIdx]
   rw [Z5 vs f.offset 0 z.toArray (by simp; omega)]
   simp [J]
  rw [Z]
  exact ih he (fun i x f s hm=>U i x f s (List.mem_cons_of_mem _ hm))
def kL (P:Program) (E:D7) (fs:Array Field):List (Nat×Operand)→Prop
 | []=>True
 | p :: r=>(∃ f v,fs[p.1]? = some f∧ev E p.2=some v∧P.cellsOf f.type=(cellsOf v).length)∧kL P E fs r
theorem qM {fs:List Field}:∀ w,(∀ f∈fs,(P.info? f.type).isSome=true) →
  (fs.mapM fun f=>(do pure (f.offset,←sizeOf f.type):Sem (Nat×Nat))).run P w=.ok (fs.map fun f=>(f.offset,P.cellsOf f.type)) w:=by
 induction fs with
 | nil=>intro w _; rfl
 | cons f fs D=>
  intro w h
  have J:(sizeOf f.type).run P w=.ok (P.cellsOf f.type) w:=by
   obtain ⟨i,hi⟩:=Option.isSome_iff_exists.1 (h f (by simp))
   simp [sizeOf,typeInfo,hi,Program.cellsOf]
  rw [List.mapM_cons]
  simp only [Sem.run_bind,J,Result.andThen_ok,Sem.run_pure,D w (fun f G=>h f (by simp [G])),List.map_cons]
theorem nF (h:∀ f∈fs.toList,(P.info? f.type).isSome=true) (w:World) :
  (fs.mapM fun f=>(do pure (f.offset,←sizeOf f.type):Sem (Nat×Nat))).run P w=.ok (fs.toList.map fun f=>(f.offset,P.cellsOf f.type)).toArray w:=by
 rw [Array.mapM_eq_mapM_toList]
 have:=qM (P:=P) w h
 simp only [Sem.run_map,this,Result.andThen_ok]
theorem Ops.build {S:World→Prop} {z:List Value} {h:List (Nat×Operand)} {cs:List Value} (hz:∀ w,(zeroValue T).run P w=.ok (.agg z.toArray) w) (V:P.underlying T=some (.struct fs))
  (O:(P.fieldsOf T).toList.all (fun f=>(P.info? f.type).isSome)=true) (U:bJ fs E z h cs) (Z:kL P E fs h) (Y:Nat.blt d n.sz=true) (hf:fresh E d=true) (k:Ops P ops l n ((d,.agg cs.toArray) :: E) S Q) :
  Ops P ops (⟨some d,.build T h.toArray,ty,pos,af,none⟩ :: l) n E S Q:=
 Ops.val rfl rfl (fun a w W _=>by
  have D:=AaB (places:=(fs.toList.map fun f=>(f.offset,P.cellsOf f.type)).toArray) (E:=E) (ev':=a.eval) (fun i f hi=>⟨P.cellsOf f.type,by
    have:fs.toList[i]? = some f:=by simpa using hi
    simp [this]⟩) U (fun x v hx=>W.eval hx) (fun i x f s G hi hp=>by
    have hs:P.cellsOf f.type=s:=by
     have:fs.toList[i]? = some f:=by simpa using hi
     simp [hi] at hp; exact hp
    rw [←hs]
    clear U k
    induction h with
    | nil=>cases G
    | cons p r ih=>
     obtain ⟨⟨f',v,h1,h2,h3⟩,h4⟩:=Z
     cases G with
     | head=>rw [W.eval h2]; rw [hi] at h1; cases h1; exact h3.symm
     | tail _ G=>exact ih h4 G)
  have J:∀ f∈fs.toList,(P.info? f.type).isSome=true:=by
   have e0:P.fieldsOf T=fs:=by simp [Program.fieldsOf,V]
   rw [e0] at O; exact List.all_eq_true.1 O
  simp only [execOp,Instr.build,Sem.run_bind,hz,Result.andThen_ok,run_underlying V,Value.cells,nF J]
  have e:(Array.map (fun (x:Nat×Operand)=>(x.1,a.eval x.2)) h.toArray).toList=h.map fun p=>(p.1,a.eval p.2):=by simp
  rw [show (Array.map (fun x=>match x with | (i,x)=>(i,a.eval x)) h.toArray).toList=h.map fun p=>(p.1,a.eval p.2) from e,D]
  simp) Y hf k
end Go.Fw
