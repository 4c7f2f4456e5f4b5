/- The engine, part L: shorter forms, for walks that are printed: places by number, what is kept by lists of numbers, several reckonings as one. -/
import Derived.Test.YtbohadngdkjljaaGreatFwK
namespace Go.Fw
open Go Go.RowKit
variable {w0 w:World} {M:Nat→Prop} {I0 I I1:IH} {m m':List HA}
variable {P:Program} {n:FrK} {E:DY} {S:World→Prop} {Q:Exit→Act→World→Prop} {ops:Array Oper} {l:List Oper}
variable {d ty:Nat} {pos:String} {af:Array Edge} {T e:TypeId} {x y:Operand}
variable {α:Type} {El:FH α} {xs ys:List α} {a:Option Addr} {cap:Nat}
/-! ### Places -/
section
variable {A B C1 C2 C3 C4 C5 C6 C7 C8 C9:HA} {q:List HA}
theorem Del.p1:Del (C1 :: A :: q) A (C1 :: q):=.s .z
theorem At.p1:At (C1 :: A :: q) A (C1 :: B :: q) B:=.s .z
theorem Del.p2:Del (C1 :: C2 :: A :: q) A (C1 :: C2 :: q):=.s (.s .z)
theorem At.p2:At (C1 :: C2 :: A :: q) A (C1 :: C2 :: B :: q) B:=.s (.s .z)
theorem Del.p3:Del (C1 :: C2 :: C3 :: A :: q) A (C1 :: C2 :: C3 :: q):=.s (.s (.s .z))
theorem At.p3:At (C1 :: C2 :: C3 :: A :: q) A (C1 :: C2 :: C3 :: B :: q) B:=.s (.s (.s .z))
theorem Del.p4:Del (C1 :: C2 :: C3 :: C4 :: A :: q) A (C1 :: C2 :: C3 :: C4 :: q):=.s (.s (.s (.s .z)))
theorem At.p4:At (C1 :: C2 :: C3 :: C4 :: A :: q) A (C1 :: C2 :: C3 :: C4 :: B :: q) B:=.s (.s (.s (.s .z)))
theorem Del.p5:Del (C1 :: C2 :: C3 :: C4 :: C5 :: A :: q) A (C1 :: C2 :: C3 :: C4 :: C5 :: q):=.s (.s (.s (.s (.s .z))))
theorem At.p5:At (C1 :: C2 :: C3 :: C4 :: C5 :: A :: q) A (C1 :: C2 :: C3 :: C4 :: C5 :: B :: q) B:=.s (.s (.s (.s (.s .z))))
theorem Del.p6:Del (C1 :: C2 :: C3 :: C4 :: C5 :: C6 :: A :: q) A (C1 :: C2 :: C3 :: C4 :: C5 :: C6 :: q):=.s (.s (.s (.s (.s (.s .z)))))
theorem At.p6:At (C1 :: C2 :: C3 :: C4 :: C5 :: C6 :: A :: q) A (C1 :: C2 :: C3 :: C4 :: C5 :: C6 :: B :: q) B:=.s (.s (.s (.s (.s (.s .z)))))
theorem Del.p7:Del (C1 :: C2 :: C3 :: C4 :: C5 :: C6 :: C7 :: A :: q) A (C1 :: C2 :: C3 :: C4 :: C5 :: C6 :: C7 :: q):=.s (.s (.s (.s (.s (.s (.s .z))))))
theorem At.p7:At (C1 :: C2 :: C3 :: C4 :: C5 :: C6 :: C7 :: A :: q) A (C1 :: C2 :: C3 :: C4 :: C5 :: C6 :: C7 :: B :: q) B:=.s (.s (.s (.s (.s (.s (.s .z))))))
theorem Del.p8:Del (C1 :: C2 :: C3 :: C4 :: C5 :: C6 :: C7 :: C8 :: A :: q) A (C1 :: C2 :: C3 :: C4 :: C5 :: C6 :: C7 :: C8 :: q):=.s (.s (.s (.s (.s (.s (.s (.s .z)))))))
theorem At.p8:At (C1 :: C2 :: C3 :: C4 :: C5 :: C6 :: C7 :: C8 :: A :: q) A (C1 :: C2 :: C3 :: C4 :: C5 :: C6 :: C7 :: C8 :: B :: q) B:=.s (.s (.s (.s (.s (.s (.s (.s .z)))))))
theorem Del.p9:Del (C1 :: C2 :: C3 :: C4 :: C5 :: C6 :: C7 :: C8 :: C9 :: A :: q) A (C1 :: C2 :: C3 :: C4 :: C5 :: C6 :: C7 :: C8 :: C9 :: q):=.s (.s (.s (.s (.s (.s (.s (.s (.s .z))))))))
end
def qN:Nat→List HA→Option (HA×List HA)
  | _,[]=>none
  | 0,A :: q=>some (A,q)
  | k+1,C :: q=>match qN k q with
    | some (A,r)=>some (A,C :: r)
    | none=>none
theorem jH:∀ {k:Nat} {q r:List HA} {A:HA},qN k q=some (A,r)→Del q A r
  | _,[],_,_,h=>by cases ‹Nat› <;> cases h
  | 0,A :: q,_,_,h=>by cases h; exact .z
  | k+1,C :: q,r,A,h=>by
    simp only [qN] at h
    cases hd:qN k q with
    | none=>rw [hd] at h; cases h
    | some p=>obtain ⟨B,s⟩:=p; rw [hd] at h; cases h; exact .s (jH hd)
theorem Del.o {q r:List HA} {A:HA} (k:Nat) (h:qN k q=some (A,r)):Del q A r:=jH h
def pkL:List Nat→List HA→Option (List HA)
  | [],_=>some []
  | k :: ks,q=>match qN k q with
    | some (A,r)=>match pkL ks r with
      | some s=>some (A :: s)
      | none=>none
    | none=>none
theorem Pick.o {q s:List HA} (O:List Nat) (h:pkL O q=some s):Pick q s:=by
  induction O generalizing q s with
  | nil=>cases h; exact .n
  | cons k O U=>
    simp only [pkL] at h
    cases hd:qN k q with
    | none=>rw [hd] at h; cases h
    | some p=>
      obtain ⟨A,r⟩:=p; rw [hd] at h; simp only at h
      cases hp:pkL O r with
      | none=>rw [hp] at h; cases h
      | some t=>rw [hp] at h; cases h; exact .c (jH hd) (U hp)
def AaJ:List Nat→List HA→Option (List HA×List HA)
  | [],q=>some ([],q)
  | k :: ks,q=>match qN k q with
    | some (A,r)=>match AaJ ks r with
      | some (s,t)=>some (A :: s,t)
      | none=>none
    | none=>none
theorem Outs.o {q s t:List HA} (O:List Nat) (h:AaJ O q=some (s,t)):Outs q s t:=by
  induction O generalizing q s t with
  | nil=>cases h; exact .n
  | cons k O U=>
    simp only [AaJ] at h
    cases hd:qN k q with
    | none=>rw [hd] at h; cases h
    | some p=>
      obtain ⟨A,r⟩:=p; rw [hd] at h; simp only at h
      cases hp:AaJ O r with
      | none=>rw [hp] at h; cases h
      | some u=>obtain ⟨u1,u2⟩:=u; rw [hp] at h; cases h; exact .c (jH hd) (U hp)
def AdH:Nat→List HA→Option (List HA)
  | 0,q=>some q
  | k+1,A :: q=>match AdH k q with
    | some r=>some (A :: r)
    | none=>none
  | _+1,[]=>none
theorem AaK:∀ {k:Nat} {q r:List HA},AdH k q=some r→q=r
  | 0,_,_,h=>by cases h; rfl
  | k+1,A :: q,r,h=>by
    simp only [AdH] at h
    cases hp:AdH k q with
    | none=>rw [hp] at h; cases h
    | some s=>rw [hp] at h; cases h; rw [AaK hp]
  | _+1,[],_,h=>by cases h
theorem Ops.rx (k:Nat) (h:AdH k m=some m') (g:Ops P ops l n E (Sym w0 M I0 I m') Q):Ops P ops l n E (Sym w0 M I0 I m) Q:=AaK h▸g
def yH:Nat→List HA→Option (List HA)
  | 0,[]=>some []
  | 0,_ :: _=>none
  | k+1,A :: q=>match yH k q with
    | some r=>some (A :: r)
    | none=>none
  | _+1,[]=>none
theorem jI:∀ {k:Nat} {q r:List HA},yH k q=some r→q=r
  | 0,[],_,h=>by cases h; rfl
  | 0,_ :: _,_,h=>by cases h
  | k+1,A :: q,r,h=>by
    simp only [yH] at h
    cases hp:yH k q with
    | none=>rw [hp] at h; cases h
    | some s=>rw [hp] at h; cases h; rw [jI hp]
  | _+1,[],_,h=>by cases h
theorem Ops.rn (k:Nat) (h:yH k m=some m') (g:Ops P ops l n E (Sym w0 M I0 I m') Q):Ops P ops l n E (Sym w0 M I0 I m) Q:=jI h▸g
theorem Cod.rn {c:Code} (k:Nat) (h:yH k m=some m') (g:Cod P c n E (Sym w0 M I0 I m') Q):Cod P c n E (Sym w0 M I0 I m) Q:=jI h▸g
theorem Nrm.rn (k:Nat) (h:yH k m=some m') (g:Nrm n E (Sym w0 M I0 I m') Q):Nrm n E (Sym w0 M I0 I m) Q:=jI h▸g
def qO:List Value→Nat→Nat→Option (List Value)
  | _,0,0=>some []
  | c :: cs,0,j+1=>match qO cs 0 j with
    | some vs=>some (c :: vs)
    | none=>none
  | _ :: cs,k+1,j=>qO cs k j
  | [],_,_=>none
theorem Cut.o:∀ {cs vs:List Value} {k:Nat} (j:Nat),qO cs k j=some vs→Cut cs k vs
  | cs,vs,0,0,h=>by cases cs <;> (simp only [qO] at h; cases h; exact .nil)
  | c :: cs,vs,0,j+1,h=>by
    simp only [qO] at h
    cases hp:qO cs 0 j with
    | none=>rw [hp] at h; cases h
    | some us=>rw [hp] at h; cases h; exact .t (Cut.o j hp)
  | c :: cs,vs,k+1,j,h=>by
    simp only [qO] at h
    exact .s (Cut.o j h)
  | [],_,0,_+1,h=>by simp [qO] at h
  | [],_,_+1,_,h=>by simp [qO] at h
def iN:List Value→Nat→List Value→Option (List Value)
  | cs,0,[]=>some cs
  | _ :: cs,0,v :: vs=>match iN cs 0 vs with
    | some r=>some (v :: r)
    | none=>none
  | c :: cs,k+1,vs=>match iN cs k vs with
    | some r=>some (c :: r)
    | none=>none
  | [],_,_=>none
theorem PutC.o:∀ {cs vs O:List Value} {k:Nat},iN cs k vs=some O→PutC cs k vs O
  | cs,[],O,0,h=>by cases cs <;> (simp only [iN] at h; cases h; exact .nil)
  | c :: cs,v :: vs,O,0,h=>by
    simp only [iN] at h
    cases hp:iN cs 0 vs with
    | none=>rw [hp] at h; cases h
    | some us=>rw [hp] at h; cases h; exact .t (PutC.o hp)
  | c :: cs,vs,O,k+1,h=>by
    simp only [iN] at h
    cases hp:iN cs k vs with
    | none=>rw [hp] at h; cases h
    | some us=>rw [hp] at h; cases h; exact .s (PutC.o hp)
  | [],_ :: _,_,0,h=>by simp [iN] at h
  | [],_,_,_+1,h=>by simp [iN] at h
def reE:DY→DY→Option DY
  | [],_=>some []
  | p :: A,E=>match look E p.1 with
    | some v=>match reE A E with
      | some B=>some ((p.1,v) :: B)
      | none=>none
    | none=>none
theorem AaL:∀ {A E:DY},reE A E=some A→Sub A E
  | [],_,_=>trivial
  | p :: A,E,h=>by
    simp only [reE] at h
    cases hl:look E p.1 with
    | none=>rw [hl] at h; cases h
    | some v=>
      rw [hl] at h; simp only at h
      cases hr:reE A E with
      | none=>rw [hr] at h; cases h
      | some B=>
        rw [hr] at h
        simp only [Option.some.injEq,List.cons.injEq] at h
        obtain ⟨O,rfl⟩:=h
        exact ⟨by rw [hl,←O],AaL hr⟩
theorem Ok.re {E':DY} {a:Act} (O:Ok n E a) (h:reE E' E=some E'):Ok n E' a:=O.sub (AaL h)
def Jn (w0:World) (M:Nat→Prop) (I0 I1:IH) (n:FrK) (E:DY) (q:List HA):Act→World→Prop:=fun c w=>∃ I,IH.le I1 I∧Ok n E c∧Sym w0 M I0 I q w
def Jx (w0:World) (M:Nat→Prop) (I0 I1:IH) (n:FrK) (F:IH→Prop) (E:DY) (q:List HA):Act→World→Prop:=fun c w=>∃ I,IH.le I1 I∧F I∧Ok n E c∧Sym w0 M I0 I q w
theorem Cod.jn {σ:Type} {c:Code} {W:(σ→Prop)→Prop} {k:σ→Prop} {O:DY} {U:List HA} (Z:FM W k) (Y ps:List Nat) (h:(W8 Y E [],pkL ps m)=(some O,some U))
    (V:(DY→List HA→Act→World→Prop)→DY→List HA→σ→Act→World→Prop) (hx:∀ k,W k→Cod P c n E (Sym w0 M I0 I m) (Exit.then (fun a w=>∃ s,k s∧V (Jn w0 M I0 I n) O U s a w) Q))
    (hy:∀ s,k s→∀ a w,V (Jn w0 M I0 I n) O U s a w→Q .normal a w):Cod P c n E (Sym w0 M I0 I m) Q:=Cod.joinQ Z _ hx hy
theorem Cod.jx {σ:Type} {c:Code} {W:(σ→Prop)→Prop} {k:σ→Prop} {O:DY} {U:List HA} (Z:FM W k) (Y ps:List Nat) (h:(W8 Y E [],pkL ps m)=(some O,some U))
    (V:(FrK→(IH→Prop)→DY→List HA→Act→World→Prop)→DY→List HA→σ→Act→World→Prop) (hx:∀ k,W k→Cod P c n E (Sym w0 M I0 I m) (Exit.then (fun a w=>∃ s,k s∧V (Jx w0 M I0 I) O U s a w) Q))
    (hy:∀ s,k s→∀ a w,V (Jx w0 M I0 I) O U s a w→Q .normal a w):Cod P c n E (Sym w0 M I0 I m) Q:=Cod.joinQ Z _ hx hy
theorem Cod.lp {σ:Type} {c:Code} {O:σ→(σ→Prop)→Prop} {s0:σ} {V:DY} {U:List HA} (Z:BB O s0) (ks ps:List Nat) (h:(W8 ks E [],pkL ps m)=(some V,some U))
    (W:(DY→List HA→Act→World→Prop)→DY→List HA→σ→Act→World→Prop) (h0:∀ a w,Ok n E a→Sym w0 M I0 I m w→W (Jn w0 M I0 I n) V U s0 a w)
    (hs:∀ s (next:σ→Prop),O s next→∀ a w,W (Jn w0 M I0 I n) V U s a w→c.wpIn (UY n) 0 P (Exit.then (fun a' w'=>∃ Y,next Y∧W (Jn w0 M I0 I n) V U Y a' w') Q) a w):Cod P (.loop c) n E (Sym w0 M I0 I m) Q:=Cod.loop Z _ h0 hs
theorem Cod.lx {σ:Type} {c:Code} {O:σ→(σ→Prop)→Prop} {s0:σ} {V:DY} {U:List HA} (Z:BB O s0) (ks ps:List Nat) (h:(W8 ks E [],pkL ps m)=(some V,some U))
    (W:(FrK→(IH→Prop)→DY→List HA→Act→World→Prop)→DY→List HA→σ→Act→World→Prop) (h0:∀ a w,Ok n E a→Sym w0 M I0 I m w→W (Jx w0 M I0 I) V U s0 a w)
    (hs:∀ s (next:σ→Prop),O s next→∀ a w,W (Jx w0 M I0 I) V U s a w→c.wpIn (UY n) 0 P (Exit.then (fun a' w'=>∃ Y,next Y∧W (Jx w0 M I0 I) V U Y a' w') Q) a w):Cod P (.loop c) n E (Sym w0 M I0 I m) Q:=Cod.loop Z _ h0 hs
theorem ji {U:Act→World→Prop} {E':DY} {q:List HA} (O:I1.le I) (V:List Nat) (h:(U,reE E' E,pkL V m)=(Jn w0 M I0 I1 n E' q,some E',some q)):∀ a w,Ok n E a→Sym w0 M I0 I m w→U a w:=fun a w W Y=>by
  injection h with h1 h2; injection h2 with h2 h3
  rw [h1]; exact ⟨I,O,W.re h2,Y.pick (.o V h3)⟩
theorem je {σ:Type} {k:σ→Prop} {U:σ→Act→World→Prop} {E':DY} {q:List HA} (s:σ) (hk:k s) (O:I1.le I) (V:List Nat) (h:(U s,reE E' E,pkL V m)=(Jn w0 M I0 I1 n E' q,some E',some q)):∀ a w,Ok n E a→Sym w0 M I0 I m w→∃ s,k s∧U s a w:=
  fun a w W Y=>⟨s,hk,ji O V h a w W Y⟩
theorem jf {F:IH→Prop} {E':DY} {q:List HA} {a:Act} {w:World} (O:I1.le I) (W:F I) (U:List Nat) (h:(reE E' E,pkL U m)=(some E',some q)) (V:Ok n E a) (Y:Sym w0 M I0 I m w):Jx w0 M I0 I1 n F E' q a w:=by
  injection h with h2 h3
  exact ⟨I,O,W,V.re h2,Y.pick (.o U h3)⟩
theorem jq {G:Act→World→Prop} {y:Code} {V:Exit→Act→World→Prop} {q:List HA} (Z:G=fun a w=>y.wpIn (UY n) 0 P V a w) (h:∀ O,I.le O→Cod P y n E (Sym w0 M I0 O q) V):∀ a w,Jn w0 M I0 I n E q a w→G a w:=fun a w ⟨O,U,W,Y⟩=>by
  rw [Z]; exact h O U a w W Y
class Up (A:Prop) (I J:IH) (B:outParam Prop):Prop where
  up:I.le J→A→B
instance {I J K:IH}:Up (IH.le K I) I J (IH.le K J):=⟨fun h k=>k.trans h⟩
instance {α:Type} {El:FH α} {a:Option Addr} {cap:Nat} {xs:List α} {I J:IH}:Up (RepSl El I a cap xs) I J (RepSl El J a cap xs):=⟨fun h k=>k.mono h⟩
instance {b off:Nat} {cs:List Value} {I J:IH}:Up (ImC I b off cs) I J (ImC J b off cs):=⟨fun h k=>k.mono h⟩
section
variable {J:IH} {A B C D F G A' B' C' D' F' G':Prop}
theorem IH.le.u1 (h:I.le J) (a:A) [Up A I J A']:A':=Up.up h a
theorem IH.le.u2 (h:I.le J) (a:A) (b:B) [Up A I J A'] [Up B I J B']:A'∧B':=⟨h.u1 a,h.u1 b⟩
theorem IH.le.u3 (h:I.le J) (a:A) (b:B) (c:C) [Up A I J A'] [Up B I J B'] [Up C I J C']:A'∧B'∧C':=⟨h.u1 a,h.u2 b c⟩
theorem IH.le.u4 (h:I.le J) (a:A) (b:B) (c:C) (d:D) [Up A I J A'] [Up B I J B'] [Up C I J C'] [Up D I J D']:A'∧B'∧C'∧D':=⟨h.u1 a,h.u3 b c d⟩
theorem IH.le.u5 (h:I.le J) (a:A) (b:B) (c:C) (d:D) (f:F) [Up A I J A'] [Up B I J B'] [Up C I J C'] [Up D I J D'] [Up F I J F']:A'∧B'∧C'∧D'∧F':=⟨h.u1 a,h.u4 b c d f⟩
theorem IH.le.u6 (h:I.le J) (a:A) (b:B) (c:C) (d:D) (f:F) (g:G) [Up A I J A'] [Up B I J B'] [Up C I J C'] [Up D I J D'] [Up F I J F'] [Up G I J G']:A'∧B'∧C'∧D'∧F'∧G':=⟨h.u1 a,h.u5 b c d f g⟩
end
theorem rf:IH.le I I:=.refl _
def rsl (k:Nat) (h:List Nat):DY→Option (DY×List Nat)
  | []=>some ([],[])
  | p :: E=>match rsl k h E with
    | some (F,ns)=>bif LM h p.1 then match p.2 with
        | .slice a j c=>some ((p.1,.slice a k c) :: F,j :: ns)
        | _=>none
      else some (p :: F,ns)
    | none=>none
def cps (k:Nat):List Nat→List Nat
  | []=>[]
  | _ :: r=>k :: cps k r
theorem AaM {k:Nat}:∀ {O:List Nat} {j:Nat},j∈cps k O→j=k
  | _ :: _,_,h=>by
    simp only [cps,List.mem_cons] at h
    rcases h with h | h
    · exact h
    · exact AaM h
theorem yI {k:Nat} {U:List Nat} {a:Act}:∀ {E E':DY} {O:List Nat},rsl k U E=some (E',O)→(∀ j∈O,j=k)→EnvOk E a→EnvOk E' a
  | [],_,_,h,_,_=>by cases h; trivial
  | p :: E,E',O,h,hn,he=>by
    simp only [rsl] at h
    cases hr:rsl k U E with
    | none=>rw [hr] at h; cases h
    | some q=>
      obtain ⟨F,ms⟩:=q
      rw [hr] at h; simp only at h
      cases hb:LM U p.1 with
      | false=>rw [hb] at h; cases h; exact ⟨he.1,yI hr hn he.2⟩
      | true=>
        rw [hb] at h; simp only [cond_true] at h
        split at h
        · rename_i b j c W
          cases h
          have V:j=k:=hn j (by simp)
          exact ⟨by rw [←V,←W]; exact he.1,yI hr (fun i hi=>hn i (by simp [hi])) he.2⟩
        · cases h
theorem Ops.rl {k:Nat} {E':DY} (hA:Del m (OwnSl El T a cap xs) m') (U:List Nat) (h:rsl xs.length U E=some (E',cps k U)) (hk:xs.length=k) (g:Ops P ops l n E' (Sym w0 M I0 I m) Q):Ops P ops l n E (Sym w0 M I0 I m) Q:=
  fun c w O W=>g c w ⟨O.size,O.defers,yI h (fun j V=>by rw [hk]; exact AaM V) O.env⟩ W
theorem Ops.no {z:Code} {E':DY} {U:Exit→Act→World→Prop} (O:List Nat) (h:(W8 O E [],fun a w=>Q .normal a w)=(some E',fun a w=>z.wpIn (UY n) 0 P U a w)) (g:Cod P z n E' S U):Ops P ops [] n E S Q:=by
  injection h with h1 h2; exact .nilS O h1 h2 g
theorem Ops.nkT {Z:List (Nat×List Nat)} (ht:AllOk P Z) {z:Code} {E' Y:DY} {U:Exit→Act→World→Prop} {id:Nat} {O V:List Oper} (W:List Nat) (j:Nat)
    (h:(W8 W E [],(fun a w=>Q .normal a w),kF Z O.toArray n j O E')=(some E',(fun a w=>(Code.seq (.region id O.toArray false) z).wpIn (UY n) 0 P U a w),some (V,Y)))
    (g:Ops P O.toArray V n Y S (Exit.then (z.wpIn (UY n) 0 P U) U)):Ops P ops [] n E S Q:=by
  injection h with h1 h2; injection h2 with h2 h3; exact .nilS W h1 h2 (.sr (.ksT ht j h3 g))
theorem Ops.ns {z:Code} {E':DY} {O:Exit→Act→World→Prop} {id:Nat} {U:List Oper} (V:List Nat)
    (h:(W8 V E [],(fun a w=>Q .normal a w))=(some E',(fun a w=>(Code.seq (.region id U.toArray false) z).wpIn (UY n) 0 P O a w)))
    (g:Ops P U.toArray U n E' S (Exit.then (z.wpIn (UY n) 0 P O) O)):Ops P ops [] n E S Q:=by
  injection h with h1 h2; exact .nilS V h1 h2 (.sr g)
theorem Cod.skT {U:List (Nat×List Nat)} (V:AllOk P U) {id:Nat} {l O:List Oper} {z:Code} {E':DY} (j:Nat) (h:kF U l.toArray n j l E=some (O,E')) (g:Ops P l.toArray O n E' S (Exit.then (z.wpIn (UY n) 0 P Q) Q)):Cod P (.seq (.region id l.toArray false) z) n E S Q:=.sr (.ksT V j h g)
theorem Ops.knT {W:List (Nat×List Nat)} (Y:AllOk P W) {z:Code} {V E':DY} {U:Exit→Act→World→Prop} (j:Nat) (O:List Nat) (h:(kF W ops n j l E,W8 O V [],fun a w=>Q .normal a w)=(some ([],V),some E',fun a w=>z.wpIn (UY n) 0 P U a w)) (g:Cod P z n E' S U):Ops P ops l n E S Q:=by
  injection h with h1 h2; injection h2 with h2 h3; exact .ksT Y j h1 (.nilS O h2 h3 g)
theorem Cod.sn {z:Code} {E':DY} {U:Exit→Act→World→Prop} (O:List Nat) (h:(W8 O E [],fun a w=>Q .normal a w)=(some E',fun a w=>z.wpIn (UY n) 0 P U a w)) (g:Cod P z n E' S U):Cod P .skip n E S Q:=by
  injection h with h1 h2; exact .skipS O h1 h2 g
theorem Cod.en {z:Code} {k:Nat} {E':DY} {U:Exit→Act→World→Prop} (O:List Nat) (h:(W8 O E [],fun a w=>Q (.exit k) a w)=(some E',fun a w=>z.wpIn (UY n) 0 P U a w)) (g:Cod P z n E' S U):Cod P (.exit k) n E S Q:=by
  injection h with h1 h2; exact .exitS O h1 h2 g
theorem Ops.lo {b off:Nat} {cs:List Value} {W:TypeId} {U:Nat×Nat} {v:Value} (V:∀ w,(isAgg T).run P w=.ok false w) (O:Del m (pto b (.cells cs.toArray W U)) m')
    (h:(ev E x,cs[off]?,Nat.blt d n.sz,fresh E d)=(some (.pointer (some ⟨b,off,none⟩)),some v,true,true)) (k:Ops P ops l n ((d,v) :: E) (Sym w0 M I0 I m) Q):Ops P ops (⟨some d,.load T x,ty,pos,af,none⟩ :: l) n E (Sym w0 M I0 I m) Q:=by
  injection h with h1 h; injection h with h2 h; injection h with h3 h4; exact .load1 V h1 O h2 h3 h4 k
theorem Ops.lw {b s:Nat} {cs:List Value} {Y:TypeId} {V:Nat×Nat} (W:∀ w,(isAgg T).run P w=.ok true w) (U:∀ w,(sizeOf T).run P w=.ok s w) (O:Del m (pto b (.cells cs.toArray Y V)) m')
    (h:(ev E x,cs.length,Nat.blt d n.sz,fresh E d)=(some (.pointer (some ⟨b,0,none⟩)),s,true,true)) (k:Ops P ops l n ((d,.agg cs.toArray) :: E) (Sym w0 M I0 I m) Q):Ops P ops (⟨some d,.load T x,ty,pos,af,none⟩ :: l) n E (Sym w0 M I0 I m) Q:=by
  injection h with h1 h; injection h with h2 h; injection h with h3 h4; exact .loadW W U h1 O h2 h3 h4 k
theorem Ops.sa {b off s:Nat} {cs vs O:List Value} {U:TypeId} (W:∀ w,(sizeOf T).run P w=.ok s w) (V:At m (pto b (.cells cs.toArray U (0,0))) m' (pto b (.cells O.toArray U (0,0))))
    (h:(ev E x,ev E y,iN cs off vs,vs.length,NL vs)=(some (.pointer (some ⟨b,off,none⟩)),some (.agg vs.toArray),some O,s,true)) (k:Ops P ops l n E (Sym w0 M I0 I m') Q):Ops P ops (⟨none,.store T x y,ty,pos,af,none⟩ :: l) n E (Sym w0 M I0 I m) Q:=by
  injection h with h1 h; injection h with h2 h; injection h with h3 h; injection h with h4 h5; exact .storeA W h1 h2 V (.o h3) h4 h5 k
theorem Ops.s1 {b off:Nat} {cs O:List Value} {v:Value} {U:TypeId} (W:∀ w,(sizeOf T).run P w=.ok 1 w) (V:At m (pto b (.cells cs.toArray U (0,0))) m' (pto b (.cells O.toArray U (0,0))))
    (h:(ev E x,ev E y,iN cs off [v],one v)=(some (.pointer (some ⟨b,off,none⟩)),some v,some O,true)) (k:Ops P ops l n E (Sym w0 M I0 I m') Q):Ops P ops (⟨none,.store T x y,ty,pos,af,none⟩ :: l) n E (Sym w0 M I0 I m) Q:=by
  injection h with h1 h; injection h with h2 h; injection h with h3 h4; exact .store1 W h1 h2 V (.o h3) h4 k
theorem Ops.yes {O:Option Nat} {U:Op} {j s:Nat} {b c:Bool} (h:(jS ops j,look E s,c)=(some s,some (.bool c),b)) (k:Ops P ops (⟨O,U,ty,pos,af,none⟩ :: l) n E S Q):Ops P ops (⟨O,U,ty,pos,af,some (j,b)⟩ :: l) n E S Q:=by
  injection h with h1 h; injection h with h2 h3; exact .gyes h1 h2 h3 k
theorem DrawD.h {cs:List (Option Nat)} {dn:IQ} {X pend:List Nat} {as:List AS} {L:Sh} {c:Nat} {o:Oper} {v:Value} (h:(ops[c]?,o.dst,fresh E d)=(some o,some d,true)) (g:∀ O,Ops P ops [o] n (LN dn (FT o) E) (Sym w0 M I0 I (L O)) (Fin n (Sym w0 M I0 I (L O)) d v))
    (k:DrawD P ops n Q w0 M I0 E cs ((c,d,v) :: dn) (c :: X) (c :: pend) as I L):DrawD P ops n Q w0 M I0 E (some c :: cs) dn X pend as I L:=by
  injection h with h1 h; injection h with h2 h3; exact .g h1 h2 h3 g k
theorem PendL.ch {S:List HA→World→Prop} {dn:IQ} {f:Nat} {O:List Nat} {o:Oper} {v:Value} (h:(ops[f]?,o.dst,fresh E d,HP dn f)=(some o,some d,true,some (d,v))) (g:∀ U,Ops P ops [o] n (LN dn (FT o) E) (S U) (Fin n (S U) d v))
    (k:PendL P ops n E dn S O):PendL P ops n E dn S (f :: O):=by
  injection h with h1 h; injection h with h2 h; injection h with h3 h4; exact .cg h1 h2 h3 h4 g k
theorem Ops.ln {S:World→Prop} {k:Nat} {O:Array TypeId} (U:P.underlying T=some (.slice e)) (h:(O[0]?,ev E x,Nat.blt d n.sz,fresh E d)=(some T,some (.slice a k cap),true,true))
    (g:Ops P ops l n ((d,.int .i64 (k:Int)) :: E) S Q):Ops P ops (⟨some d,.call ⟨.builtin .len,#[x],O⟩,ty,pos,af,none⟩ :: l) n E S Q:=by
  injection h with h1 h; injection h with h2 h; injection h with h3 h4; exact .len U h1 h2 h3 h4 g
theorem Ops.al {z:Array Value} (O:∀ w,(zeroValue T).run P w=.ok (.agg z) w) (h:(Nat.blt d n.sz,fresh E d)=(true,true))
    (k:∀ b,Ops P ops l n ((d,.pointer (some ⟨b,0,none⟩)) :: E) (Sym w0 M I0 I (pto b (.cells z T) :: m)) Q):Ops P ops (⟨some d,.alloc T,ty,pos,af,none⟩ :: l) n E (Sym w0 M I0 I m) Q:=by
  injection h with h1 h2; exact .allocA O h1 h2 k
theorem Ops.bx {z:Array Value} (h:(ev E x,Nat.blt d n.sz,fresh E d)=(some (.agg z),true,true))
    (k:∀ b,Ops P ops l n ((d,.pointer (some ⟨b,0,none⟩)) :: E) (Sym w0 M I0 I (pto b (.cells z T) :: m)) Q):Ops P ops (⟨some d,.box T x,ty,pos,af,none⟩ :: l) n E (Sym w0 M I0 I m) Q:=by
  injection h with h1 h; injection h with h2 h3; exact .boxA h1 h2 h3 k
theorem Ops.cq {g:FuncId} {args:List Operand} {vs:List Value} {O:Array TypeId} {ρ:Type} {U:ρ→Value} {R:ρ→Prop} (V:∀ as w,(callFunc g as).run P w=.ok (.enter g as) w) (Z:BR P g vs I fun _ v=>∃ r,v=U r∧R r)
    (h:(xT E args,Nat.blt d n.sz,fresh E d)=(some vs,true,true)) (k:∀ r,R r→Ops P ops l n ((d,U r) :: E) (Sym w0 M I0 I m) Q):Ops P ops (⟨some d,.call ⟨.value (.func g),args.toArray,O⟩,ty,pos,af,none⟩ :: l) n E (Sym w0 M I0 I m) Q:=by
  injection h with h1 h; injection h with h2 h3; exact .callP V h1 Z h2 h3 fun v ⟨r,W,Y⟩=>by subst W; exact k r Y
def uB:Nat→List Value→Option DY
  | _,[]=>some []
  | i,v :: vs=>match uB (i+1) vs with
    | some E=>some ((i,v) :: E)
    | none=>none
theorem uC:∀ {i:Nat} {vs:List Value} {E:DY},uB i vs=some E→ArgsE i vs E
  | _,[],_,h=>by cases h; exact .n
  | i,v :: vs,E,h=>by
    simp only [uB] at h
    cases hr:uB (i+1) vs with
    | none=>rw [hr] at h; cases h
    | some F=>rw [hr] at h; cases h; exact .c (uC hr)
theorem Fun.en {f:FuncId} {O:Func} {c:Code} {z:Nat} {vs:List Value} {q:List HA} {φ:IH→Value→List HA→Prop} (U:P.funcs[f]? = some O) (V:O.ntmps=z) (h:(O.body,Nat.ble vs.length z,uB 0 vs)=(some c,true,some E))
    (k:∀ w M,Cod P c ⟨z,[],none⟩ E (Sym w M I I q) (JJ P O (TA w M I φ))):Fun P f vs.toArray I q φ:=by
  injection h with h1 h; injection h with h2 h3; exact .enter U h1 V h2 (uC h3) k
theorem Cod.r1 {z t:Nat} {v:Value} {U:Func} {ψ:IH→Value→Prop} (W:U.results=[ResultVar.tmp t].toArray) (h:(look E t,fun a w=>Q .ret a w)=(some v,JJ P U (TA w0 M I0 fun Z v l=>l=[]∧ψ Z v) .ret)) (O:I0.le I) (Y:ψ I v) :
    Cod P .ret ⟨z,[],none⟩ E (Sym w0 M I0 I m) Q:=by
  injection h with h1 h2; exact .ret fun c w V hs=>(congrFun (congrFun h2 c) w).mpr (BS W (.t h1 .n) O Y c w V hs)
theorem Cod.r0 {z t:Nat} {v:Value} {O:Func} {ψ:IH→Value→Prop} (U:O.results=[ResultVar.tmp t].toArray) (h:(look E t,fun a w=>Q .ret a w)=(some v,JJ P O (TA w0 M I fun W v l=>l=[]∧ψ W v) .ret)) (V:ψ I v) :
    Cod P .ret ⟨z,[],none⟩ E (Sym w0 M I I m) Q:=.r1 U h rf V
theorem Cod.q1 {z t:Nat} {v:Value} {U:Func} {φ:IH→Value→List HA→Prop} (Y:U.results=[ResultVar.tmp t].toArray) (O:I0.le I) (V:List Nat) (h:(look E t,pkL V m,fun a w=>Q .ret a w)=(some v,some m',JJ P U (TA w0 M I0 φ) .ret)) (hφ:φ I v m') :
    Cod P .ret ⟨z,[],none⟩ E (Sym w0 M I0 I m) Q:=by
  injection h with h1 h; injection h with h2 h3; exact .ret fun c w W Z=>(congrFun (congrFun h3 c) w).mpr (KG Y (.t h1 .n) O (.o V h2) hφ c w W Z)
end Go.Fw
