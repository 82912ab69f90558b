/- Part 4 of the proof of FnModuleGoesOn. -/
import Derived.Test.YtjfjdgjhihgdkaaA3
set_option linter.unusedVariables false
set_option linter.unusedSimpArgs false
namespace Go.Proofs.Ytjfjdgjhihgdkaa.V
open Go Go.RowKit
variable {P:Program} {E:Env} {o:Oper} {σ:St} {M:St→Prop}
theorem Step.weak {N:St→Prop}(h:Step P E o σ M)(hw:∀τ,M τ→∃τ2,N τ2∧Weak τ τ2):Step P E o σ N:=
 h.turn fun τ hm=>let⟨τ2,h1,h2⟩:=hw τ hm;fun g w a hr=>⟨g,τ2,h1,hr.weaken h2⟩
def holes (ks:List Nat):SL:=ks.map fun k=>(k,Slot.hole)
theorem K9 (ν:Nm)(ks:List Nat):renW ν (holes ks)=holes ks:=by
 simp[renW,holes,renS,renP,renL,List.map_map]
theorem F2 :∀(a b:SL) (σ:St),updL σ (a++b)=updL (updL σ a) b
 |[],b,σ=>rfl
 |(k,s)::a,b,σ=>F2 a b _
def Grown (e sz:Nat)(rows:List (List SV))(s:Slot):Prop:=(∃b c,s= .lf (.u b c e sz rows))∨(rows=[]∧s= .lf .nil)
theorem M0 (d sz:Nat)(h:σ (tk d)= .lf .nil):Turn E σ (·=upd σ (tk d) (.lf (.im true (.sl sz [])))):=by
 intro g w a hr
 have hs:=hr.slot d
 rw[h]at hs
 have hv:a.tmps.getD d undef= .slice none 0 0:=hs
 exact⟨g,_,rfl,hr.putSlot d _ (by show SRep _ _ _ _;rw[hv];exact .nil sz none 0)⟩
def newP (d:Nat)(R pre:List Nat)(nm e sz:Nat)(rows:List (List SV))(c:List Prop)(w:Option Wit):Option Ex:=newU d R (holes pre) nm e sz rows c w
variable {L:SL} {d nm e sz:Nat} {rows:List (List SV)} {w:Option Wit} {ex:Ex}
theorem G5 {R pre:List Nat}{c:List Prop}
 (he:newP d R pre nm e sz rows c w=some ex)
 (h:AllP c→∀(ν:Nm) (τ:St),(∀k∈R,τ k=den ν L k)→Step P E o τ fun τ'=>∃s,Grown e sz rows s∧τ'=upd (updL τ (holes pre)) (tk d) s):SoundOp P E o L ex:=by
 have him:AllP c→∀(ν:Nm) (τ:St),(∀k∈R,τ k=den ν L k)→Step P E o τ (·=upd (updL τ (holes pre)) (tk d) (.lf (.im true (.sl sz rows)))):=by
  intro hc ν τ hτ
  refine(h hc ν τ hτ).turn fun τ' ⟨s,hg,e0⟩=> ?_
  subst e0
  intro g w a hr
  rcases hg with⟨b,c0,rfl⟩|⟨hr0,rfl⟩
  ·obtain⟨g',τ',h1,h2⟩:=C0 d b c0 e sz rows (a8 ..) g w a hr
   subst h1
   rw[j7]at h2
   exact⟨g',_,rfl,h2⟩
  ·subst hr0
   obtain⟨g',τ',h1,h2⟩:=M0 d sz (a8 ..) g w a hr
   subst h1
   rw[j7]at h2
   exact⟨g',_,rfl,h2⟩
 have hu:AllP c→∀(ν:Nm) (τ:St),(∀k∈R,τ k=den ν L k)→Step P E o τ fun τ'=>∃v:Nm,Weak τ' (updL τ (renW (setN ν [nm] v) (holes pre++[(tk d,.lf (.u nm 0 e sz rows))]))):=by
  intro hc ν τ hτ
  refine(h hc ν τ hτ).mono fun τ' ⟨s,hg,e0⟩=> ?_
  subst e0
  rcases hg with⟨b,c0,rfl⟩|⟨hr0,rfl⟩
  ·refine⟨fun _=>some (b,c0),?_⟩
   rw[show renW (setN ν [nm] (fun _=>some (b,c0))) (holes pre++[(tk d,Slot.lf (.u nm 0 e sz rows))])=holes pre++[(tk d,.lf (.u b c0 e sz rows))]from by
    rw[renW,List.map_append,←renW,K9];simp[renS,renP,renL,y3],F2]
   exact Weak.refl _
  ·subst hr0
   refine⟨fun _=>none,?_⟩
   rw[show renW (setN ν [nm] (fun _=>none)) (holes pre++[(tk d,Slot.lf (.u nm 0 e sz []))])=holes pre++[(tk d,.lf .nil)]from by
    rw[renW,List.map_append,←renW,K9];simp[renS,renP,renL,y3],F2]
   exact Weak.refl _
 unfold newP newU at he
 split at he
 ·cases he
  refine SoundOp.plain fun hc ν τ hτ=> ?_
  rw[renW,List.map_append,←renW,K9,F2]
  exact him hc ν τ hτ
 ·rename_i b e' sz' rows'
  cases hb:Nat.beq b nm&&(Nat.beq e' e&&Nat.beq sz' sz)with
  |false=>rw[hb]at he;cases he
  |true=>
   rw[hb]at he
   cases he
   intro hc ν τ hτ
   have hrows:=hc.1
   subst hrows
   exact hu hc.2 ν τ hτ
 ·rename_i sz' rows'
  cases hb:Nat.beq sz' sz with
  |false=>rw[hb]at he;cases he
  |true=>
   rw[hb]at he
   cases he
   refine SoundOp.plain fun hc ν τ hτ=> ?_
   have hrows:=hc.1
   subst hrows
   rw[renW,List.map_append,←renW,K9,F2]
   exact him hc.2 ν τ hτ
 ·cases he
  exact fun hc ν τ hτ=>hu hc ν τ hτ
 ·cases he
def apC (sh:Bool)(rows:List (List SV)):List Prop:=bif sh then []else [ScalarRows rows]
variable {sh:Bool}
theorem a1x (h:AllP (apC sh rows)):sh=true∨ScalarRows rows:=by
 cases sh with
 |true=>exact .inl rfl
 |false=>exact .inr h.1
def xAppend (T:Tab)(t:TypeId)(d:Nat)(x y:Operand)(L:SL)(w:Option Wit):Option Ex:=
 match T.get t with
 |none=>none
 |some ti=>match ti.sh with
  | .sl e=>match T.get e,ox L y with
   |some te,.one (.lf (.im sh (.sl sz rows2)))=>bif Nat.beq sz te.size then(match ox L x with
    | .one (.lf (.u b _ e' sz' rows))=>match x with
     | .tmp kt=>bif Nat.beq e' e&&Nat.beq sz' sz then
      newP d (tk kt::ok y) [tk kt] b e sz (rows++rows2) (apC sh rows2++[(rows.length+rows2.length)*te.bytes≤140737488355328,rows.length+rows2.length≤maxLen]) w else none
     |_=>none
    | .one (.lf (.hd b n _))=>match home b L with
     |none=>none
     |some k=>match look L (tk (k/2))with
      | .one (.lf (.u b' _ e' sz' rows))=>bif Nat.beq b' b&&(Nat.beq e' e&&Nat.beq sz' sz)then
       newP d (tk (k/2)::(ok x++ok y)) [tk (k/2)] b e sz (rows++rows2) (apC sh rows2++[n=rows.length,(rows.length+rows2.length)*te.bytes≤140737488355328,rows.length+rows2.length≤maxLen]) w else none
      |_=>none
    | .one (.lf .nil)=>newP d (ok x++ok y) [] d e sz rows2 (apC sh rows2++[rows2.length*te.bytes≤140737488355328,rows2.length≤maxLen]) w
    |_=>none)else none
   |_,_=>none
  |_=>none
theorem J9 {P:Program}{E:Env}{τ:St}{t e sz bytes d:Nat}{x y:Operand}{rows2:List (List SV)}(ho:o.op= .call {callee:= .builtin .append,args:= #[x,y],argTypes:= #[t,t]})
 (hd:o.dst=some d) (hn:d<E.n) (he:Elem P t e sz bytes) (hx:opd τ x= .lf .nil) {sh:Bool} (hy:opd τ y= .lf (.im sh (.sl sz rows2))) (hsc:sh=true∨ScalarRows rows2) (hs:rows2.length*bytes≤140737488355328) (hm:rows2.length≤maxLen):
 Step P E o τ fun τ'=>∃s,Grown e sz rows2 s∧τ'=upd τ (tk d) s:=by
 by_cases h0:rows2=[]
 ·subst h0
  exact(V0 d t o.type e sz bytes x y ho rfl hd hn he hx hy).mono fun τ' e0=>⟨_,.inr ⟨rfl,rfl⟩,e0⟩
 ·exact(X9 d t o.type e sz bytes x y rows2 ho rfl hd hn he hx hy hsc h0 hs hm).mono fun τ' ⟨b,c,e0⟩=>⟨_,.inl ⟨b,c,rfl⟩,e0⟩
variable {T:Tab}
theorem a1B {E:Env}{t:TypeId}{d:Nat}{x y:Operand}{L:SL}{w:Option Wit}{ex:Ex}(hT:TabOK P T)
 (ho:o.op= .call {callee:= .builtin .append,args:= #[x,y],argTypes:= #[t,t]}) (hd:o.dst=some d) (hn:d<E.n)
 (he:xAppend T t d x y L w=some ex):SoundOp P E o L ex:=by
 unfold xAppend at he
 split at he
 ·cases he
 ·rename_i ti hti
  split at he
  ·rename_i e hsh
   split at he
   ·rename_i te sh sz rows2 hte hy
    have hel:=(hT.get hti).elem hsh (hT.get hte)
    cases hz:Nat.beq sz te.size with
    |false=>rw[hz]at he;cases he
    |true=>
     rw[hz]at he
     simp only[cond_true]at he
     rw[←Nat.eq_of_beq_eq_true hz]at hel
     split at he
     ·rename_i b c e' sz' rows hx
      cases x with
      |tmp kt=>
       simp only at he
       cases hb:Nat.beq e' e&&Nat.beq sz' sz with
       |false=>rw[hb]at he;cases he
       |true=>
        rw[hb]at he
        rw[Bool.and_eq_true]at hb
        obtain rfl:=Nat.eq_of_beq_eq_true hb.1
        obtain rfl:=Nat.eq_of_beq_eq_true hb.2
        refine G5 he fun hc ν τ hτ=> ?_
        obtain⟨hc0,hc⟩:=hc.app
        have hsc:=a1x hc0
        have h:=i8 (x:= .tmp kt) hτ (by simp[ok]) hx
        have hy':=o8 hτ (fun k hk=>by simp[hk]) hy
        simp only[renS,renP,renL,opd]at h
        cases hν:ν b with
        |some q=>
         rw[hν]at h
         exact(I5 d t o.type e' sz' te.bytes (.tmp kt) y kt q.1 q.2 rows rows2 ho rfl hd hn hel h (.inl rfl) hy' hsc hc.1 hc.2.1).mono fun τ' ⟨b',c',e0⟩=>⟨_,.inl ⟨b',c',rfl⟩,e0⟩
        |none=>
         rw[hν]at h
         cases rows with
         |cons r rs=>exact Step.absurd fun g w a hr=>u9 (x:= .tmp kt) hr h
         |nil=>
          have:=J9 ho hd hn hel (x:= .tmp kt) h hy' hsc (by simpa using hc.1) (by simpa using hc.2.1)
          exact this.weak fun τ' ⟨s,hg,e0⟩=>⟨_,⟨s,hg,rfl⟩,by subst e0;exact v9 _ _ _⟩
      |const v=>cases he
      |global g=>cases he
      |func f=>cases he
     ·rename_i b n c hx
      split at he
      ·cases he
      ·rename_i k hk
       split at he
       ·rename_i b' c' e' sz' rows hu
        cases hb:Nat.beq b' b&&(Nat.beq e' e&&Nat.beq sz' sz)with
        |false=>rw[hb]at he;cases he
        |true=>
         rw[hb]at he
         rw[Bool.and_eq_true,Bool.and_eq_true]at hb
         obtain rfl:=Nat.eq_of_beq_eq_true hb.1
         obtain rfl:=Nat.eq_of_beq_eq_true hb.2.1
         obtain rfl:=Nat.eq_of_beq_eq_true hb.2.2
         refine G5 he fun hc ν τ hτ=> ?_
         obtain⟨hc3,hc⟩:=hc.app
         have hsc:=a1x hc3
         obtain⟨hc0,hc1,hc2,_⟩:=hc
         subst hc0
         have h:=i8 hτ (fun k hk=>by simp[hk]) hx
         have hy':=o8 hτ (fun k hk=>by simp[hk]) hy
         have h2:=hτ (tk (k/2)) (by simp)
         simp only[den,hu,renS,renP,renL]at h2
         simp only[renS,renP,renL]at h
         cases hν:ν b' with
         |some q=>
          rw[hν]at h h2
          exact(I5 d t o.type e' sz' te.bytes x y (k/2) q.1 q.2 rows rows2 ho rfl hd hn hel h2 (.inr h) hy' hsc hc1 hc2).mono fun τ' ⟨b',c',e0⟩=>⟨_,.inl ⟨b',c',rfl⟩,e0⟩
         |none=>
          rw[hν]at h h2
          cases rows with
          |cons r rs=>exact Step.absurd fun g w a hr=>z2 hr h2
          |nil=>
           have:=J9 ho hd hn hel h hy' hsc (by simpa using hc1) (by simpa using hc2)
           exact this.weak fun τ' ⟨s,hg,e0⟩=>⟨_,⟨s,hg,rfl⟩,by subst e0;exact v9 _ _ _⟩
       ·cases he
     ·rename_i hx
      refine G5 he fun hc ν τ hτ=> ?_
      have h:=i8 hτ (fun k hk=>by simp[hk]) hx
      have hy':=o8 hτ (fun k hk=>by simp[hk]) hy
      obtain⟨hc0,hc⟩:=hc.app
      exact J9 ho hd hn hel h hy' (a1x hc0) hc.1 hc.2.1
     ·cases he
   ·cases he
  ·cases he
def Leaf.closed :Leaf→Bool
 | .u .. | .ul .. | .ap .. | .hd .. | .ptr .. | .nst .. =>false
 |_=>true
def Part.closed :Part→Bool
 | .lf l=>l.closed
 | .agg ls=>ls.all Leaf.closed
def Slot.closed :Slot→Bool
 | .one p=>p.closed
 | .tup ps=>ps.all Part.closed
 | .cell .. =>false
 | .obj .. =>false
 | .own .. =>false
variable {ν:Nm} {l:Leaf}
theorem y7 (h:l.closed=true):renL ν l=l:=by
 cases l<;>simp only[Leaf.closed]at h<;>first|rfl|cases h
theorem D5 {α:Type}{f:α→α}{l:List α}(h:∀x∈l,f x=x):l.map f=l:=by
 induction l with
 |nil=>rfl
 |cons x xs ih=>rw[List.map_cons,h x (by simp),ih fun y hy=>h y (by simp[hy])]
variable {p:Part}
theorem n7 (h:p.closed=true):renP ν p=p:=by
 cases p with
 |lf l=>simp only[renP];rw[y7 h]
 |agg ls=>simp only[renP];rw[D5 fun l hl=>y7 (List.all_eq_true.1 h l hl)]
variable {s:Slot}
theorem H7 (h:s.closed=true):renS ν s=s:=by
 cases s with
 |one p=>simp only[renS];rw[n7 h]
 |tup ps=>simp only[renS];rw[D5 fun l hl=>n7 (List.all_eq_true.1 h l hl)]
 |cell b ls=>cases h
 |obj b T e s=>cases h
 |own b ls bs=>cases h
theorem Leaf.closed_bare (h:l.closed=true):l.bare=true:=by
 cases l<;>simp only[Leaf.closed]at h<;>first|rfl|cases h
theorem Part.closed_bare (h:p.closed=true):p.bare=true:=by
 cases p with
 |lf l=>exact Leaf.closed_bare h
 |agg ls=>exact List.all_eq_true.2 fun l hl=>Leaf.closed_bare (List.all_eq_true.1 h l hl)
theorem Leaf.closed_firm (h:l.closed=true):l.firm=true:=by
 cases l<;>simp only[Leaf.closed]at h<;>first|rfl|cases h
theorem Part.closed_firm (h:p.closed=true):p.firm=true:=by
 cases p with
 |lf l=>exact Leaf.closed_firm h
 |agg ls=>exact List.all_eq_true.2 fun l hl=>Leaf.closed_firm (List.all_eq_true.1 h l hl)
theorem Slot.closed_firm (h:s.closed=true):s.firm=true:=by
 cases s with
 |one p=>exact Part.closed_firm h
 |tup ps=>exact List.all_eq_true.2 fun p hp=>Part.closed_firm (List.all_eq_true.1 h p hp)
 |cell b ls=>cases h
 |obj b T e s=>cases h
 |own b ls bs=>cases h
theorem a2k (h:l.firm=true):(renL ν l).firm=true:=by
 cases l with
 |ap b c e sz rows=>cases h
 |u b c e sz rows=>simp only[renL];cases ν b with
  |some p=>rfl
  |none=>cases rows<;>rfl
 |ul b c e sz rows=>simp only[renL];cases ν b with
  |some p=>rfl
  |none=>cases rows<;>rfl
 |hd b n c=>simp only[renL];cases ν b with
  |some p=>rfl
  |none=>simp only;split<;>rfl
 |ptr b off=>simp only[renL];cases ν b<;>rfl
 |nst sz rows i j b n c=>simp only[renL];cases ν b<;>rfl
 |_=>rfl
variable {ls:List Leaf}
theorem S4 (h:ls.all Leaf.firm=true):(ls.map (renL ν)).all Leaf.firm=true:=by
 rw[List.all_map]
 exact List.all_eq_true.2 fun l hl=>a2k (List.all_eq_true.1 h l hl)
def Slot.firmO :Slot→Bool
 | .cell _ ls=>ls.all Leaf.firm
 | .own _ ls _=>ls.all Leaf.firm
 |_=>false
theorem u7 (h:s.firmO=true):(renS ν s).firm=true:=by
 cases s with
 |cell b ls=>simp only[renS];cases ν b with
  |some p=>exact S4 h
  |none=>rfl
 |own b ls bs=>simp only[renS];cases ν b with
  |some p=>exact S4 h
  |none=>rfl
 |one p=>cases h
 |tup ps=>cases h
 |obj b T e s=>cases h
def partsX (L:SL):List Operand→Option (List Part)
 |[]=>some []
 |x::xs=>match ox L x,partsX L xs with
  | .one p,some ps=>bif p.closed then some (p::ps)else none
  |_,_=>none
def oksX :List Operand→List Nat
 |[]=>[]
 |x::xs=>ok x++oksX xs
theorem z5 {ν:Nm}{L:SL}{τ:St}{R:List Nat}(hτ:∀k∈R,τ k=den ν L k):∀{xs:List Operand} {ps:List Part},(∀k∈oksX xs,k∈R)→partsX L xs=some ps→opParts τ xs=some ps
 |[],ps,_,h=>by cases h;rfl
 |x::xs,ps,hR,h=>by
  simp only[partsX]at h
  split at h
  ·rename_i p ps' h1 h2
   cases hb:p.closed with
   |false=>rw[hb]at h;cases h
   |true=>
    rw[hb]at h
    cases h
    have e1:=i8 hτ (fun k hk=>hR k (by simp[oksX,hk])) h1
    have e2:=z5 hτ (fun k hk=>hR k (by simp[oksX,hk])) h2
    simp only[renS,n7 hb]at e1
    simp only[opParts,e1,e2,Part.closed_bare hb,Part.closed_firm hb,Bool.and_self,if_true]
  ·cases h
def lentLeaf (L:SL):Leaf→Option (Leaf×List Nat×List Prop)
 | .hd b n _=>match home b L with
  |some k=>match look L (tk (k/2))with
   | .one (.lf (.u b' _ _ sz rows))=>bif Nat.beq b' b then some (.im false (.sl sz rows),[tk (k/2)],[n=rows.length])else none
   |_=>none
  |none=>match homeB b L with
   |some (k,jb)=>match look L (ck (k/2))with
    | .own b0 ls bs=>match bs[jb]? with
     |some (.mk b' _ _ sz rows)=>bif Nat.beq b' b then some (.im false (.sl sz rows),[ck (k/2)],[n=rows.length])else none
     |_=>none
    |_=>none
   |none=>none
 | .ap b _ _ sz rows=>some (.im false (.sl sz rows),[],[])
 |l=>bif l.closed then some (l,[],[])else none
def lentLeaves (L:SL):List Leaf→Option (List Leaf×List Nat×List Prop)
 |[]=>some ([],[],[])
 |l::ls=>match lentLeaf L l,lentLeaves L ls with
  |some (l',k1,c1),some (ls',k2,c2)=>some (l'::ls',k1++k2,c1++c2)
  |_,_=>none
def lentPart (L:SL):Part→Option (Part×List Nat×List Prop)
 | .lf l=>match lentLeaf L l with
  |some (l',k,c)=>some (.lf l',k,c)
  |none=>none
 | .agg ls=>match lentLeaves L ls with
  |some (ls',k,c)=>some (.agg ls',k,c)
  |none=>none
def partsY (L:SL):List Operand→Option (List Part×List Nat×List Prop)
 |[]=>some ([],[],[])
 |x::xs=>match ox L x,partsY L xs with
  | .one p,some (ps,k2,c2)=>match lentPart L p with
   |some (p',k1,c1)=>some (p'::ps,k1++k2,c1++c2)
   |none=>none
  |_,_=>none
variable {g:Nat→Tag} {a:Act} {τ:St} {l':Leaf} {ks:List Nat} {cs:List Prop} {i j k' i' j':Nat} {v:Value}
theorem U3 {w:World}(h:Rel E g w a τ)(he:lentLeaf L l=some (l',ks,cs))(hc:AllP cs)(hτ:∀k∈ks,τ k=den ν L k)
 {k:Nat} (hr:LeafRel g w k i j v (renL ν l)):LeafRel (lentTags g) w k' i' j' v l':=by
 have plain:l.closed=true→LeafRel (lentTags g) w k' i' j' v l:=fun hcl=>by
  rw[y7 hcl]at hr
  exact LeafRel.firm hr (Leaf.closed_bare hcl) (Leaf.closed_firm hcl) fun sh b hb=>F4 hb
 unfold lentLeaf at he
 split at he
 ·rename_i b n c
  split at he
  ·rename_i k0 hk
   split at he
   ·rename_i b' c' e sz rows hu
    cases hb:Nat.beq b' b with
    |false=>rw[hb]at he;cases he
    |true=>
     rw[hb]at he
     cases he
     obtain rfl:=Nat.eq_of_beq_eq_true hb
     have hn:n=rows.length:=hc.1
     have h2:=hτ (tk (k0/2)) (by simp)
     simp only[den,hu,renS,renP,renL]at h2
     simp only[renL]at hr
     cases hν:ν b' with
     |some p=>
      rw[hν]at h2 hr
      have hr:v= .slice (some ⟨p.1,0,none⟩) n p.2:=hr
      rw[hr]
      exact lend_u h h2 hn
     |none=>
      rw[hν]at h2 hr
      cases rows with
      |cons r rs=>exact(z2 h h2).elim
      |nil=>
       have hn0:n=0:=hn
       subst hn0
       have hr:v= .slice none 0 0:=hr
       rw[hr]
       exact .nil _ _ _
   ·cases he
  ·split at he
   ·rename_i k0 jb hk
    split at he
    ·rename_i b0 ls bs hc0
     split at he
     ·rename_i b' c' e sz rows hjb
      cases hb:Nat.beq b' b with
      |false=>rw[hb]at he;cases he
      |true=>
       rw[hb]at he
       cases he
       obtain rfl:=Nat.eq_of_beq_eq_true hb
       have hn:n=rows.length:=hc.1
       have h2:=hτ (ck (k0/2)) (by simp)
       simp only[den,hc0,renS]at h2
       simp only[renL]at hr
       cases hν0:ν b0 with
       |none=>rw[hν0]at h2;exact(i6 h h2).elim
       |some p0=>
        rw[hν0]at h2
        cases hν:ν b' with
        |some p=>
         rw[hν]at hr
         have hr:v= .slice (some ⟨p.1,0,none⟩) n p.2:=hr
         rw[hr]
         exact a53 (e:=e) h h2 (by rw[List.getElem?_map,hjb];simp only[Option.map_some,renB,hν]) hn
        |none=>
         rw[hν]at hr
         cases rows with
         |cons r rs=>exact(A6 (j:=jb) h h2 (by rw[List.getElem?_map,hjb];simp only[Option.map_some,renB,hν];rfl)).elim
         |nil=>
          have hn0:n=0:=hn
          subst hn0
          have hr:v= .slice none 0 0:=hr
          rw[hr]
          exact .nil _ _ _
     ·cases he
    ·cases he
   ·cases he
 ·rename_i b c e sz rows
  cases he
  simp only[renL]at hr
  cases hν:ν b with
  |some p=>
   rw[hν]at hr
   obtain⟨hv,hg,hc,hm,cur,hh,hsz,hrw⟩:=hr
   show SRep _ _ _ _
   rw[hv]
   exact hrw.data hh hc _ (fun x hx=>F4 (.inl hx)) (.inr ⟨rfl,by unfold lentTags;rw[hg]⟩)
  |none=>
   rw[hν]at hr
   cases rows with
   |cons r rs=>exact(y8 (k:=k) (i:=i) (j:=j) hr).elim
   |nil=>
    have hr:v= .slice none 0 0:=hr
    show SRep _ _ _ _
    rw[hr]
    exact .nil _ _ _
 ·cases hb:l.closed with
  |false=>rw[hb]at he;cases he
  |true=>rw[hb]at he;cases he;exact plain hb
theorem N1 {E:Env}{g:Nat→Tag}{w:World}{a:Act}{ν:Nm}{L:SL}{τ:St}(h:Rel E g w a τ):∀{ls ls':List Leaf} {ks:List Nat} {cs:List Prop},lentLeaves L ls=some (ls',ks,cs)→AllP cs→(∀k∈ks,τ k=den ν L k)→
 ls.length=ls'.length∧∀(q:Nat) l',ls'[q]? =some l'→∃l,ls[q]? =some l∧∀k i j k' i' j' v,LeafRel g w k i j v (renL ν l)→LeafRel (lentTags g) w k' i' j' v l'
 |[],ls',ks,cs,he,_,_=>by cases he;exact⟨rfl,fun q l' h=>by simp at h⟩
 |l::ls,ls',ks,cs,he,hc,hτ=>by
  simp only[lentLeaves]at he
  split at he
  ·rename_i l1 k1 c1 ls2 k2 c2 e1 e2
   cases he
   obtain⟨hc1,hc2⟩:=hc.app
   obtain⟨h1,h2⟩:=N1 h e2 hc2 fun k hk=>hτ k (List.mem_append_right _ hk)
   refine⟨by simp[h1],fun q l' hq=> ?_⟩
   cases q with
   |zero=>simp at hq;subst hq;exact⟨l,rfl,fun k i j k' i' j' v hr=>U3 h e1 hc1 (fun k hk=>hτ k (List.mem_append_left _ hk)) hr⟩
   |succ q=>obtain⟨l0,h3,h4⟩:=h2 q l' (by simpa using hq);exact⟨l0,by simpa using h3,h4⟩
  ·cases he
theorem a2B {w:World}(h:Rel E g w a τ){p':Part}(he:lentPart L p=some (p',ks,cs))(hc:AllP cs)(hτ:∀k∈ks,τ k=den ν L k)
 {k:Nat} (hr:PartRel g w k i v (renP ν p)):PartRel (lentTags g) w k' i' v p':=by
 cases p with
 |lf l=>
  simp only[lentPart]at he
  split at he
  ·rename_i l' k1 c1 e1
   cases he
   exact U3 h e1 hc hτ hr
  ·cases he
 |agg ls=>
  simp only[lentPart]at he
  split at he
  ·rename_i ls' k1 c1 e1
   cases he
   obtain⟨h1,h2⟩:=N1 h e1 hc hτ
   obtain⟨cs',hv,hsz,hl⟩:=hr
   refine⟨cs',hv,by rw[←h1];simpa using hsz,fun j l' v' h3 h4=> ?_⟩
   obtain⟨l0,h5,h6⟩:=h2 j l' h3
   exact h6 _ _ _ _ _ _ _ (hl j (renL ν l0) v' (by rw[List.getElem?_map,h5];rfl) h4)
  ·cases he
theorem a0W {E:Env}{g:Nat→Tag}{w:World}{a:Act}{ν:Nm}{L:SL}{τ:St}{R:List Nat}(h:Rel E g w a τ)(hR:∀k∈R,τ k=den ν L k):∀{xs:List Operand} {ps:List Part} {ks:List Nat} {cs:List Prop},partsY L xs=some (ps,ks,cs)→AllP cs→
 (∀k∈ks,k∈R)→(∀k∈oksX xs,k∈R)→xs.length=ps.length∧∀(i:Nat) p v,ps[i]? =some p→(xs.map a.eval)[i]? =some v→PartRel (lentTags g) w 0 i v p
 |[],ps,ks,cs,he,_,_,_=>by cases he;exact⟨rfl,fun i p v h=>by simp at h⟩
 |x::xs,ps,ks,cs,he,hc,hk,hx=>by
  simp only[partsY]at he
  split at he
  ·rename_i p ps2 k2 c2 e1 e2
   split at he
   ·rename_i p' k1 c1 e3
    cases he
    obtain⟨hc1,hc2⟩:=hc.app
    obtain⟨h1,h2⟩:=a0W h hR e2 hc2 (fun k h=>hk k (List.mem_append_right _ h)) (fun k h=>hx k (by simp[oksX,h]))
    refine⟨by simp[h1],fun i q v h3 h4=> ?_⟩
    cases i with
    |zero=>
     simp at h3 h4
     subst h3 h4
     have e4:=i8 hR (fun k hk=>hx k (by simp[oksX,hk])) e1
     have:=o9 h x
     rw[e4]at this
     exact a2B (k':=0) (i':=0) h e3 hc1 (fun k h=>hR k (hk k (List.mem_append_left _ h))) this
    |succ i=>
     have:=h2 i q v (by simpa using h3) (by simpa using h4)
     cases q with
     |lf l=>exact LeafRel.to this (fun sh b hb=>⟨hb,rfl⟩) (fun b hb=>by unfold lentTags at hb;cases e:g b<;>rw[e]at hb<;>cases hb)
     |agg ls=>exact PartRel.to this (fun sh b hb=>⟨hb,rfl⟩) (fun b j hb=>by unfold lentTags at hb;cases e:g b<;>rw[e]at hb<;>cases hb)
   ·cases he
  ·cases he
def xCall (P:Program)(d:Nat)(f:FuncId)(xs:List Operand)(L:SL)(w:Option Wit):Option Ex:=
 match partsX L xs with
 |none=>match partsY L xs,w with
  |some (ps,ks,cs),some (.ret s)=>bif s.closed&&s.apart then some ⟨oksX xs++ks,[(tk d,s)],[],cs++[Text P f,CallV P f ps (·=s)]⟩else none
  |_,_=>none
 |some ps=>match w with
  |some (.ret s)=>bif s.closed then some ⟨oksX xs,[(tk d,s)],[],[Text P f,CallV P f ps (·=s)]⟩else none
  |some (.retU e sz rows)=>newP d (oksX xs) [] d e sz rows [Text P f,CallV P f ps fun s=>∃b c,s= .lf (.u b c e sz rows)] none
  |some (.retN s nm)=>bif s.within nm then some ⟨oksX xs,[(tk d,s)],nm,[Text P f,CallV P f ps fun s'=>∃v:Nm,s'=renS v s]⟩else none
  |_=>none
theorem a2W {P:Program}{E:Env}{d:Nat}{f:FuncId}{xs:Array Operand}{ats:Array TypeId}{L:SL}{w:Option Wit}{ex:Ex}
 (ho:o.op= .call {callee:= .value (.func f),args:=xs,argTypes:=ats}) (hd:o.dst=some d) (hn:d<E.n)
 (he:xCall P d f xs.toList L w=some ex):SoundOp P E o L ex:=by
 unfold xCall at he
 split at he
 ·split at he
  ·rename_i ps ks cs s hps
   cases hb:s.closed&&s.apart with
   |false=>rw[hb]at he;cases he
   |true=>
    rw[hb]at he
    cases he
    rw[Bool.and_eq_true]at hb
    refine SoundOp.plain fun hc ν τ hτ=> ?_
    obtain⟨hc1,hc2⟩:=hc.app
    simp only[renW,List.map,updL,H7 hb.1]
    refine(a1J d f xs ats ps ho hd hn hc2.1 (fun g w a hr=>a0W hr hτ hps hc1 (fun k h=>List.mem_append_right _ h) (fun k h=>List.mem_append_left _ h)) hc2.2.1 (fun s' e=>by subst e;exact hb.2)).mono fun τ' ⟨s',e,h⟩=>by subst e;exact h
  ·cases he
 ·rename_i ps hps
  split at he
  ·rename_i s
   cases hb:s.closed with
   |false=>rw[hb]at he;cases he
   |true=>
    rw[hb]at he
    cases he
    refine SoundOp.plain fun hc ν τ hτ=> ?_
    have h1:=z5 hτ (fun k hk=>hk) hps
    simp only[renW,List.map,updL,H7 hb]
    exact a4e d f xs ats ps ho hd hn hc.1 h1 hc.2.1
  ·rename_i e sz rows
   refine G5 he fun hc ν τ hτ=> ?_
   have h1:=z5 hτ (fun k hk=>hk) hps
   exact(Z9 d f xs ats ps ho hd hn hc.1 h1 hc.2.1).mono fun τ' ⟨s,⟨b,c,hs⟩,e0⟩=>⟨s,.inl ⟨b,c,hs⟩,e0⟩
  ·rename_i s nm
   cases hb:s.within nm with
   |false=>rw[hb]at he;cases he
   |true=>
    rw[hb]at he
    cases he
    intro hc ν τ hτ
    have h1:=z5 hτ (fun k hk=>hk) hps
    refine(Z9 d f xs ats ps ho hd hn hc.1 h1 hc.2.1).mono fun τ' ⟨s',⟨v,hs⟩,e0⟩=>⟨v,?_⟩
    subst hs e0
    simp only[renW,List.map,updL]
    rw[r7 (ν:=setN ν nm v) (ν':=v) hb fun b h=>F0 h]
    exact Weak.refl _
  ·cases he
def xCallM (P:Program)(d:Nat)(f:FuncId)(xs:List Operand)(L:SL)(ls':List Leaf)(bs':List Blk)(s:Slot):Option Ex:=
 match xs with
 |[]=>none
 |x::xs=>match ox L x with
  | .one (.lf (.ptr b off))=>match home b L with
   |none=>none
   |some k=>match look L (ck (k/2)),partsX L xs with
    | .cell b' ls,some ps=>bif ((Nat.beq b' b&&Nat.beq off 0)&&(ls.all Leaf.firm&&ls'.all Leaf.firm))&&((ls.all (Leaf.within [b'])&&ls'.all (Leaf.within [obN]))&&(s.closed&&bs'.isEmpty))then
     some ⟨ck (k/2)::(ok x++oksX xs),[(ck (k/2),(Slot.cell obN ls').mapN (atO [b'])),(tk d,s)],[],[Text P f,CallM P f ps ((Slot.cell b' ls).mapN (posO [b'])) (.cell obN ls') s]⟩else none
    | .own b' ls bs,some ps=>match blkNames bs with
     |some ms=>bif ((Nat.beq b' b&&Nat.beq off 0)&&(ls.all Leaf.firm&&ls'.all Leaf.firm))&&(((Slot.own b' ls bs).within (b'::ms)&&(Slot.own obN ls' bs').within (upN (b'::ms).length obN))&&(s.closed&&nodupN (b'::ms)))then
      some ⟨ck (k/2)::(ok x++oksX xs),[(ck (k/2),(Slot.own obN ls' bs').mapN (atO (b'::ms))),(tk d,s)],ms,[Text P f,CallM P f ps ((Slot.own b' ls bs).mapN (posO (b'::ms))) (.own obN ls' bs') s]⟩else none
     |none=>none
    |_,_=>none
  |_=>none
theorem a0T {P:Program}{E:Env}{d k:Nat}{f:FuncId}{x:Operand}{xs':List Operand}{xs:Array Operand}{ats:Array TypeId}{ν:Nm}{τ:St}{ps:List Part}{so o' s:Slot}{b:Nat}{ms:List Nat}{p:Nat×Nat}
 (ho:o.op= .call {callee:= .value (.func f),args:=xs,argTypes:=ats}) (hxs:xs.toList=x::xs') (hd:o.dst=some d) (hn:d<E.n) (hf:Text P f) (hν:ν b=some p) (hx:opd τ x= .lf (.ptr p.1 0)) (hc:τ (ck k)=renS ν so) (hps:opParts τ xs'=some ps)
 (hw:so.within (b::ms)=true) (hw':o'.within (upN (b::ms).length obN)=true) (hs:s.closed=true) (hnd:nodupN (b::ms)=true) (hm:CallM P f ps (so.mapN (posO (b::ms))) o' s) (hfs:so.firmO=true) (hfo:o'.firmO=true):
 Step P E o τ fun τ'=>∃v:Nm,Weak τ' (updL τ (renW (setN ν ms v) [(ck k,o'.mapN (atO (b::ms))),(tk d,s)])):=by
 have e1:renS (fun i=>ν (atO (b::ms) i)) (so.mapN (posO (b::ms)))=renS ν so:=by
  rw[u6]
  exact r7 hw fun x hx=>by rw[P5 hx]
 have e0:atO (b::ms) obN=b:=by unfold atO;rw[Nat.sub_self];rfl
 have hcall:=hm (fun i=>ν (atO (b::ms) i)) p.1 p.2 (by show ν (atO (b::ms) obN)=_;rw[e0];exact hν)
 rw[e1]at hcall
 have hbare:∀so' s':Slot,(∃ν':Nm,ν' obN=ν (atO (b::ms) obN)∧so'=renS ν' o'∧s'=s)→s'.bare=true∧s'.firm=true∧so'.firm=true:=by
  rintro _ s' ⟨_,_,rfl,rfl⟩
  refine⟨?_,Slot.closed_firm hs,u7 hfo⟩
  cases s' with
  |one p=>exact Part.closed_bare hs
  |tup ps=>exact List.all_eq_true.2 fun p hp=>Part.closed_bare (List.all_eq_true.1 hs p hp)
  |cell b ls=>cases hs
  |obj b T e s=>cases hs
  |own b ls bs=>cases hs
 refine(a32 d k f x xs' xs ats ps p.1 (renS ν so) _ ho hxs hd hn hf hx hc hps hcall hbare (u7 hfs)).mono ?_
 rintro τ' ⟨so',s',⟨ν',h0,rfl,rfl⟩,rfl⟩
 refine⟨fun x=>ν' (posO (b::ms) x),?_⟩
 simp only[renW,List.map,updL,H7 hs]
 rw[u6]
 rw[r7 (ν:=fun i=>setN ν ms (fun x=>ν' (posO (b::ms) x)) (atO (b::ms) i)) (ν':=ν') hw' fun i hi=> ?_]
 ·exact Weak.refl _
 ·obtain⟨hge,hlt⟩:=a1j hi
  obtain⟨q,rfl⟩:=Nat.exists_eq_add_of_le hge
  have hq:q<(b::ms).length:=by omega
  have ea:atO (b::ms) (obN+q)=atN (b::ms) q:=by unfold atO;rw[Nat.add_sub_cancel_left]
  rw[ea]
  cases q with
  |zero=>
   simp only[nodupN,Bool.and_eq_true,Bool.not_eq_true']at hnd
   show setN ν ms _ b=ν' obN
   rw[w8 (by intro hm';have h7:inN ms b=true:=u2.2 hm';rw[h7]at hnd;cases hnd.1),h0,e0]
  |succ q=>
   have hmem:atN (b::ms) (q+1)∈ms:=O3 (ns:=ms) (by simpa using hq)
   rw[F0 hmem]
   unfold posO
   rw[Q7 hnd hq]
theorem a2x {P:Program}{E:Env}{d:Nat}{f:FuncId}{xs:Array Operand}{ats:Array TypeId}{L:SL}{ls':List Leaf}{bs':List Blk}{s:Slot}{ex:Ex}
 (ho:o.op= .call {callee:= .value (.func f),args:=xs,argTypes:=ats}) (hd:o.dst=some d) (hn:d<E.n)
 (he:xCallM P d f xs.toList L ls' bs' s=some ex):SoundOp P E o L ex:=by
 generalize hxs:xs.toList=l at he
 unfold xCallM at he
 split at he
 ·cases he
 ·rename_i x xs'
  split at he
  ·rename_i b off hx
   split at he
   ·cases he
   ·rename_i k hk
    split at he
    ·rename_i b' ls ps hobj hps
     cases hb:((Nat.beq b' b&&Nat.beq off 0)&&(ls.all Leaf.firm&&ls'.all Leaf.firm))&&((ls.all (Leaf.within [b'])&&ls'.all (Leaf.within [obN]))&&(s.closed&&bs'.isEmpty))with
     |false=>rw[hb]at he;cases he
     |true=>
      rw[hb]at he
      cases he
      simp only[Bool.and_eq_true]at hb
      obtain⟨⟨⟨hb1,hb2⟩,hf1,hf2⟩,⟨hb3,hb4⟩,hb5,-⟩:=hb
      obtain rfl:=Nat.eq_of_beq_eq_true hb1
      obtain rfl:=Nat.eq_of_beq_eq_true hb2
      intro hc ν τ hτ
      have h1:=z5 hτ (xs:=xs') (fun k hk=>by simp[hk]) hps
      have h:=i8 hτ (fun k hk=>by simp[hk]) hx
      have h2:=hτ (ck (k/2)) (by simp)
      simp only[den,hobj]at h2
      simp only[renS,renP,renL]at h
      cases hν:ν b' with
      |none=>rw[hν]at h;exact Step.absurd fun g w a hr=>u9 hr h
      |some q=>
       rw[hν]at h
       exact a0T (ms:=[]) ho hxs hd hn hc.1 hν h h2 h1 (by simp[Slot.within,inN,hb3]) (by simp[Slot.within,inN,upN,hb4]) hb5 rfl hc.2.1 hf1 hf2
    ·rename_i b' ls bs ps hobj hps
     split at he
     ·rename_i ms hms
      cases hb:((Nat.beq b' b&&Nat.beq off 0)&&(ls.all Leaf.firm&&ls'.all Leaf.firm))&&(((Slot.own b' ls bs).within (b'::ms)&&(Slot.own obN ls' bs').within (upN (b'::ms).length obN))&&(s.closed&&nodupN (b'::ms)))with
      |false=>rw[hb]at he;cases he
      |true=>
       rw[hb]at he
       cases he
       simp only[Bool.and_eq_true]at hb
       obtain⟨⟨⟨hb1,hb2⟩,hf1,hf2⟩,⟨hb3,hb4⟩,hb5,hb6⟩:=hb
       obtain rfl:=Nat.eq_of_beq_eq_true hb1
       obtain rfl:=Nat.eq_of_beq_eq_true hb2
       intro hc ν τ hτ
       have h1:=z5 hτ (xs:=xs') (fun k hk=>by simp[hk]) hps
       have h:=i8 hτ (fun k hk=>by simp[hk]) hx
       have h2:=hτ (ck (k/2)) (by simp)
       simp only[den,hobj]at h2
       simp only[renS,renP,renL]at h
       cases hν:ν b' with
       |none=>rw[hν]at h;exact Step.absurd fun g w a hr=>u9 hr h
       |some q=>
        rw[hν]at h
        exact a0T ho hxs hd hn hc.1 hν h h2 h1 hb3 hb4 hb5 hb6 hc.2.1 hf1 hf2
     ·cases he
    ·cases he
  ·cases he
def Tab.isBool (T:Tab)(t:TypeId):Bool:=match T.get t with
 |some ti=>match ti.sh with
  | .bool=>true
  |_=>false
 |none=>false
def xMin (d:Nat)(x y:Operand)(L:SL)(w:Option Wit):Option Ex:=
 match ox L x,ox L y with
 | .one (.lf (.im _ (.int .i64 a))),.one (.lf (.im _ (.int .i64 b)))=>fin1 d (ok x++ok y) (.int (if b<a then b else a)) [] w
 |_,_=>none
theorem a4a {P:Program}{E:Env}{d:Nat}{x y:Operand}{ats:Array TypeId}{L:SL}{w:Option Wit}{ex:Ex}
 (ho:o.op= .call {callee:= .builtin .min,args:= #[x,y],argTypes:=ats}) (hd:o.dst=some d) (hn:d<E.n)
 (he:xMin d x y L w=some ex):SoundOp P E o L ex:=by
 unfold xMin at he
 split at he
 ·rename_i s1 a s2 b h1 h2
  refine l7 he fun _ ν τ hτ=> ?_
  have e1:=o8 hτ (fun k hk=>List.mem_append.2 (.inl hk)) h1
  have e2:=o8 hτ (fun k hk=>List.mem_append.2 (.inr hk)) h2
  refine D0 d (.int .i64 _) (.int .i64 (if b<a then b else a)) rfl hd hn fun g w a' h=> ?_
  simp[execOp,ho,resolve,invoke,builtin,Builtin.min_,Builtin.min2,y6 h e1,y6 h e2]
 ·cases he
def exec0 (P:Program)(T:Tab)(n:Nat)(o:Oper)(L:SL)(w:Option Wit):Option Ex:=
 match o.dst with
 |none=>match o.op with
  | .store t x y=>xStore T t x y L w
  |_=>none
 |some d=>bif Nat.blt d n then(match o.op with
  | .move x=>xCopy true d x L w
  | .assign x=>xCopy false d x L w
  | .pick c x y=>xPick d c x y L w
  | .binOp op t x y _=>match w with
   |some (.num r)=>xNum d op x y L r
   |w=>xBin (T.isBool t) d op x y L w
  | .unOp op _ x=>xUn d op x L w
  | .load t x=>xLoad T t d x L w
  | .fieldAddr t x j=>xField T t d x j L w
  | .field t x j=>xFieldV P t d x j L w
  | .indexAddr t x y=>xIndexAddr T t d x y L w
  | .index t x y=>xIndex T t d x y L w
  | .box _ x=>xBox d x L
  | .alloc t=>xAlloc T t d L
  | .build t parts=>xBuild T t d parts.toList L w
  | .buildSlice t m parts=>xBuildSlice T t d m parts.toList L w
  | .extract x i=>xExtract d x i L w
  | .nilCheck x=>xNilCheck d x L w
  | .convert t t' x=>match xBytes T t t' d x L w with
   |some ex=>some ex
   |none=>xConvert T t t' d x L w
  | .slice t x lo hi mx=>xSlice T t d x lo hi mx L w
  | .call {callee:= .builtin .len,args:=⟨[x]⟩,argTypes:=⟨[t]⟩}=>xLen T t d x L w
  | .call {callee:= .builtin .min,args:=⟨[x,y]⟩,argTypes:=_}=>xMin d x y L w
  | .call {callee:= .builtin .append,args:=⟨[x,y]⟩,argTypes:=⟨[t,t']⟩}=>bif Nat.beq t' t then xAppend T t d x y L w else none
  | .call {callee:= .value (.func f),args:=xs,argTypes:=_}=>match w with
   |some (.mth ls' bs' s)=>xCallM P d f xs.toList L ls' bs' s
   |w=>xCall P d f xs.toList L w
  |_=>none)else none
theorem a5J (hT:TabOK P T){t:TypeId}(h:T.isBool t=true):P.underlying t=some .bool:=by
 unfold Tab.isBool at h
 split at h
 ·rename_i ti hti
  have:=(hT.get hti).sh
  split at h
  ·rename_i hs;rw[hs]at this;exact this
  ·cases h
 ·cases h
variable {n:Nat}
theorem a3a (hT:TabOK P T)(hE:E.n=n)(he:exec0 P T n o L w=some ex):SoundOp P E o L ex:=by
 unfold exec0 at he
 split at he
 ·rename_i hd
  split at he
  ·rename_i t x y ho
   exact a2e hT ho hd he
  ·cases he
 ·rename_i d hd
  cases hb:Nat.blt d n with
  |false=>rw[hb]at he;cases he
  |true=>
   rw[hb]at he
   have hn:d<E.n:=by rw[hE];exact Nat.le_of_ble_eq_true hb
   simp only[cond_true]at he
   split at he
   ·rename_i x ho;exact X8 (.inl ho) hd hn he
   ·rename_i x ho;exact X8 (.inr ho) hd hn he
   ·rename_i c x y ho;exact a22 ho hd hn he
   ·rename_i op t x y t' ho
    split at he
    ·exact a3T ho hd hn he
    ·exact a3W ho hd hn (a5J hT) he
   ·rename_i op t x ho;exact a5j ho hd hn he
   ·rename_i t x ho;exact a3c hT ho hd hn he
   ·rename_i t x j ho;exact a2A hT ho hd hn he
   ·rename_i t x j ho;exact a1p ho hd hn he
   ·rename_i t x y ho;exact U8 hT ho hd hn he
   ·rename_i t x y ho;exact a2p hT ho hd hn he
   ·rename_i t x ho;exact a39 ho hd hn he
   ·rename_i t ho;exact a2G hT ho hd hn he
   ·rename_i t parts ho;exact a1X hT ho hd hn he
   ·rename_i t m parts ho;exact S1 hT ho hd hn he
   ·rename_i x i ho;exact a0v ho hd hn he
   ·rename_i x ho;exact a0i ho hd hn he
   ·rename_i t t' x ho
    split at he
    ·rename_i ex' hex;cases he;exact a1W hT ho hd hn hex
    ·exact a0z hT ho hd hn he
   ·rename_i t x lo hi mx ho;exact a12 hT ho hd hn he
   ·rename_i x t ho;exact a36 hT ho hd hn he
   ·rename_i x y ats ho;exact a4a ho hd hn he
   ·rename_i x y t t' ho
    cases hb2:Nat.beq t' t with
    |false=>rw[hb2]at he;cases he
    |true=>
     rw[hb2]at he
     obtain rfl:=Nat.eq_of_beq_eq_true hb2
     exact a1B hT ho hd hn he
   ·rename_i f xs ats ho
    split at he
    ·exact a2x ho hd hn he
    ·exact a2W ho hd hn he
   ·cases he
def sweep (nm:List Nat)(τ:St):St:=bif inN nm apN then still τ else τ
theorem a37 (nm:List Nat)(τ:St):Weak τ (sweep nm τ):=fun k=>by
 unfold sweep
 cases inN nm apN with
 |true=>exact G7 τ k
 |false=>exact .inl rfl
theorem I6 (nm:List Nat)(τ:St)(h:inN nm apN=true):sweep nm τ=still τ:=by unfold sweep;rw[h];rfl
theorem z0 {τ2:St}(h:Weak τ τ2)(k:Nat)(s:Slot):Weak (upd τ k s) (upd τ2 k s):=fun k'=>by
 unfold upd
 split
 ·exact .inl rfl
 ·exact h k'
theorem a0a :∀(ws:SL) {τ τ2:St},Weak τ τ2→Weak (updL τ ws) (updL τ2 ws)
 |[],_,_,h=>h
 |(k,s)::ws,_,_,h=>a0a ws (z0 h k s)
def SoundK (P:Program)(E:Env)(o:Oper)(L:SL)(ex:Ex):Prop:=
 AllP ex.c→∀(ν:Nm) (τ:St),(∀k∈ex.R,τ k=den ν L k)→Step P E o τ fun τ'=>∃v,Weak τ' (updL (sweep ex.nm τ) (renW (setN ν ex.nm v) ex.ws))
theorem SoundOp.k (h:SoundOp P E o L ex):SoundK P E o L ex:=
 fun hc ν τ hτ=>(h hc ν τ hτ).mono fun τ' ⟨v,hw⟩=>⟨v,hw.trans (a0a _ (a37 _ _))⟩
variable {N:Nat}
theorem Leaf.firm_upto (h:l.firm=true):l.upto N=true:=by cases l<;>first|rfl|cases h
theorem Leaf.all_upto (h:ls.all Leaf.firm=true):ls.all (Leaf.upto N)=true:=List.all_eq_true.2 fun l hl=>Leaf.firm_upto (List.all_eq_true.1 h l hl)
theorem Part.firm_upto (h:p.firm=true):p.upto N=true:=by
 cases p with
 |lf l=>exact Leaf.firm_upto h
 |agg ls=>exact Leaf.all_upto h
theorem Slot.firm_upto (h:s.firm=true):s.upto N=true:=by
 cases s with
 |one p=>exact Part.firm_upto h
 |tup ps=>exact List.all_eq_true.2 fun p hp=>Part.firm_upto (List.all_eq_true.1 h p hp)
 |cell b ls=>exact Leaf.all_upto h
 |own b ls bs=>exact Leaf.all_upto h
 |obj b T e s=>rfl
theorem a4f (N:Nat)(τ:St):Weak (kill N τ) (still τ):=fun k=>by
 unfold kill still
 cases h:(τ k).firm with
 |false=>exact .inr rfl
 |true=>rw[Slot.firm_upto h];exact .inl rfl
def sameC (L:SL)(kt:Nat):List Nat→List Prop
 |[]=>[]
 |r::rs=>(look L (tk r)=look L (tk kt))::sameC L kt rs
theorem R7 {L:SL}{kt:Nat}:∀{rs:List Nat},AllP (sameC L kt rs)→∀r∈rs,look L (tk r)=look L (tk kt)
 |[],_,r,h=>by cases h
 |q::rs,hc,r,h=>by
  rcases List.mem_cons.1 h with rfl|h
  ·exact hc.1
  ·exact R7 hc.2 r h
def againW (s:Slot)(rs:List Nat):SL:=rs.reverse.map fun r=>(tk r,s)
theorem O4 {σ:St}{ν:Nm}{s:Slot}:∀{rs:List Nat},updL σ (renW ν (againW s rs))=putAll σ (renS ν s) rs
 |[]=>rfl
 |r::rs=>by
  have ih:=O4 (σ:=σ) (ν:=ν) (s:=s) (rs:=rs)
  simp only[againW,List.reverse_cons,List.map_append,List.map_cons,List.map_nil,putAll]at ih⊢
  rw[renW,List.map_append,←renW,F2,ih]
  rfl
def xAppendW (T:Tab)(t:TypeId)(d nm:Nat)(rows3:List (List SV))(rs:List Nat)(x y:Operand)(L:SL):Option Ex:=
 match T.get t with
 |none=>none
 |some ti=>match ti.sh,x with
  | .sl e,.tmp kt=>match T.get e,ox L y,look L (tk kt)with
   |some te,.one (.lf (.im true (.sl sz rows2))),.one (.lf (.ap b c e' sz' rows))=>
    bif Nat.beq sz te.size&&(Nat.beq e' e&&Nat.beq sz' sz)then
     some ⟨tk kt::(ok y++rs.map tk),(bif !Nat.beq nm b&& !Nat.beq apN b then againW (.lf (.ap b c e sz rows)) rs else [])++[(tk d,.lf (.ap nm 0 e sz rows3))],[nm,apN],
      [rows++rows2=rows3,rows2≠[],(rows.length+rows2.length)*te.bytes≤140737488355328,rows.length+rows2.length≤maxLen]++sameC L kt rs⟩else none
   |_,_,_=>none
  |_,_=>none
theorem a0p {E:Env}{t:TypeId}{d nm:Nat}{rows3:List (List SV)}{rs:List Nat}{x y:Operand}{L:SL}{ex:Ex}(hT:TabOK P T)
 (ho:o.op= .call {callee:= .builtin .append,args:= #[x,y],argTypes:= #[t,t]}) (hd:o.dst=some d) (hn:d<E.n)
 (he:xAppendW T t d nm rows3 rs x y L=some ex):SoundK P E o L ex:=by
 unfold xAppendW at he
 split at he
 ·cases he
 ·rename_i ti hti
  split at he
  ·rename_i e kt hsh
   split at he
   ·rename_i te sz rows2 b c e' sz' rows hte hy hx
    cases hb:Nat.beq sz te.size&&(Nat.beq e' e&&Nat.beq sz' sz)with
    |false=>rw[hb]at he;cases he
    |true=>
     rw[hb]at he
     simp only[cond_true,Option.some.injEq]at he
     simp only[Bool.and_eq_true]at hb
     obtain⟨hb1,hb2,hb3⟩:=hb
     obtain rfl:=Nat.eq_of_beq_eq_true hb2
     obtain rfl:=Nat.eq_of_beq_eq_true hb3
     have hel:=(hT.get hti).elem hsh (hT.get hte)
     rw[←Nat.eq_of_beq_eq_true hb1]at hel
     subst he
     intro hc ν τ hτ
     obtain⟨hcA,hcB⟩:=hc.app
     obtain⟨hc0,hc1,hc2,hc3,-⟩:=hcA
     subst hc0
     have hy':=o8 hτ (fun k hk=>List.mem_cons_of_mem _ (List.mem_append_left _ hk)) hy
     have h:=hτ (tk kt) (by simp)
     have hrs:∀r∈rs,τ (tk r)=τ (tk kt):=fun r hr=>by
      rw[h,hτ (tk r) (List.mem_cons_of_mem _ (List.mem_append_right _ (List.mem_map_of_mem hr)))]
      simp only[den,R7 hcB r hr]
     simp only[den,hx,renS,renP,renL]at h
     show Step P E o τ fun τ'=>∃v:Nm,Weak τ' (updL (sweep [nm,apN] τ) (renW (setN ν [nm,apN] v) _))
     rw[I6 _ _ (by simp[inN])]
     have fin:∀(τ':St) (b' c':Nat),Weak τ' (upd (putAll (still τ) (τ (tk kt)) rs) (tk d) (.lf (.ap b' c' e' sz' (rows++rows2))))→Weak τ' (upd (still τ) (tk d) (.lf (.ap b' c' e' sz' (rows++rows2))))→
      ∃v:Nm,Weak τ' (updL (still τ) (renW (setN ν [nm,apN] v) ((bif !Nat.beq nm b&& !Nat.beq apN b then againW (Slot.lf (.ap b c e' sz' rows)) rs else [])++[(tk d,Slot.lf (.ap nm 0 e' sz' (rows++rows2)))]))):=by
      intro τ' b' c' h1 h2
      refine⟨fun _=>some (b',c'),?_⟩
      have e1:renS (setN ν [nm,apN] (fun _=>some (b',c'))) (.lf (.ap nm 0 e' sz' (rows++rows2)))= .lf (.ap b' c' e' sz' (rows++rows2)):=by
       simp only[renS,renP,renL];rw[F0 (by simp)]
      cases hk: !Nat.beq nm b&& !Nat.beq apN b with
      |false=>
       simp only[cond_false,List.nil_append,renW,List.map,updL,e1]
       exact h2
      |true=>
       simp only[Bool.and_eq_true,Bool.not_eq_true']at hk
       have hbn:b∉[nm,apN]:=by
        intro hm
        simp only[List.mem_cons,List.not_mem_nil,or_false]at hm
        rcases hm with rfl|rfl
        ·simp at hk
        ·simp at hk
       have e2:renS (setN ν [nm,apN] (fun _=>some (b',c'))) (.lf (.ap b c e' sz' rows))=τ (tk kt):=by
        rw[h];simp only[renS,renP,renL];rw[w8 hbn]
       simp only[cond_true]
       rw[renW,List.map_append,←renW,F2,O4,e2]
       simp only[List.map,updL,e1]
       exact h1
     have last:∀(τ0 τ':St) (b' c':Nat),Weak τ0 (still τ)→(∀r∈rs,τ0 (tk r)=τ (tk kt))→τ'=upd τ0 (tk d) (.lf (.ap b' c' e' sz' (rows++rows2)))→
      Weak τ' (upd (putAll (still τ) (τ (tk kt)) rs) (tk d) (.lf (.ap b' c' e' sz' (rows++rows2))))∧Weak τ' (upd (still τ) (tk d) (.lf (.ap b' c' e' sz' (rows++rows2)))):=by
      intro τ0 τ' b' c' hw hk e0
      subst e0
      refine⟨z0 (fun k=> ?_) _ _,z0 hw _ _⟩
      by_cases ek:k∈rs.map tk
      ·rw[R1 ek]
       obtain⟨r,hr,rfl⟩:=List.mem_map.1 ek
       exact .inl (hk r hr).symm
      ·rw[H4 ek];exact hw k
     cases hν:ν b with
     |some q=>
      rw[hν]at h
      refine(a0F d t o.type e' sz' te.bytes (.tmp kt) y q.1 q.2 rows rows2 ho rfl hd hn hel h hy' hc1 hc2 hc3).mono fun τ' ⟨b',c',e0⟩=> ?_
      obtain⟨k1,k2⟩:=last _ _ b' c' (a4f _ τ) (fun r hr=>by
       unfold kill
       rw[hrs r hr,h]
       have hbl:Nat.ble (rows.length*sz') (rows.length*sz')=true:=Nat.ble_self_eq_true _
       simp only[Slot.lf,Slot.upto,Part.upto,Leaf.upto,hbl]
       rfl) e0
      exact fin _ b' c' k1 k2
     |none=>
      rw[hν]at h
      cases rows with
      |cons r rs=>exact Step.absurd fun g w a hr=>u9 (x:= .tmp kt) hr h
      |nil=>
       simp only[List.isEmpty_nil,if_true]at h
       have hg:=J9 ho hd hn hel (x:= .tmp kt) h hy' (.inl rfl) (by simpa using hc2) (by simpa using hc3)
       refine(hg.turn (N:=fun τ'=>∃b' c',τ'=upd τ (tk d) (.lf (.ap b' c' e' sz' rows2))) fun τ' ⟨s,hs,e0⟩=> ?_).mono fun τ' ⟨b',c',e0⟩=> ?_
       ·subst e0
        rcases hs with⟨b',c',rfl⟩|⟨h0,-⟩
        ·intro g w a hr
         obtain⟨g',τ2,k1,k2⟩:=a17 d b' c' e' sz' rows2 (a8 ..) g w a hr
         exact⟨g',τ2,⟨b',c',by rw[k1,j7]⟩,k2⟩
        ·exact absurd h0 hc1
       ·obtain⟨k1,k2⟩:=last τ τ' b' c' (G7 τ) hrs e0
        exact fin _ b' c' k1 k2
   ·cases he
  ·cases he
def waN :Nat:=500000
def rsN :Nat:=500001
def CallUX (P:Program)(f:FuncId)(args:List Part)(o o' s:Slot)(kq:Option Nat):Prop:=
 ∀ν:Nm,CallU P f (args.map (renP ν)) (renS ν o) (fun so' s'=>∃ν' ν2:Nm,ν' obN=ν obN∧so'=renS ν' o'∧s'=renS ν2 s) kq
def partU (nm:Nat):Part→Option (Part×List Nat)
 | .lf (.ap b _ e sz rows)=>some (.lf (.ap nm 0 e sz rows),[b])
 |p=>bif p.closed then some (p,[])else none
def partsU (nm:Nat)(L:SL):List Operand→Option (List Part×List Nat)
 |[]=>some ([],[])
 |x::xs=>match ox L x,partsU nm L xs with
  | .one p,some (ps,bs)=>match partU nm p with
   |some (p',b')=>some (p'::ps,b'++bs)
   |none=>none
  |_,_=>none
theorem O8 {ν νs:Nm}{nm:Nat}{L:SL}{τ:St}{R:List Nat}(hτ:∀k∈R,τ k=den ν L k):∀{xs:List Operand} {ps:List Part} {bs:List Nat},(∀k∈oksX xs,k∈R)→partsU nm L xs=some (ps,bs)→(∀b∈bs,νs nm=ν b)→opPartsU τ xs=some (ps.map (renP νs))
 |[],ps,bs,_,h,_=>by cases h;rfl
 |x::xs,ps,bs,hR,h,hb=>by
  simp only[partsU]at h
  split at h
  ·rename_i p ps' bs' h1 h2
   split at h
   ·rename_i p' b' h3
    cases h
    have e1:=i8 hτ (fun k hk=>hR k (by simp[oksX,hk])) h1
    have e2:=O8 (νs:=νs) hτ (fun k hk=>hR k (by simp[oksX,hk])) h2 fun b hm=>hb b (List.mem_append_right _ hm)
    have e3:renP ν p=renP νs p'∧(renP νs p').bare=true:=by
     unfold partU at h3
     split at h3
     ·rename_i b c e sz rows
      cases h3
      have:=hb b (by simp)
      refine⟨?_,A0 rfl⟩
      simp only[renP,renL,this]
     ·cases hcl:p.closed with
      |false=>rw[hcl]at h3;cases h3
      |true=>
       rw[hcl]at h3
       cases h3
       rw[n7 hcl,n7 hcl]
       exact⟨rfl,Part.closed_bare hcl⟩
    simp only[renS,e3.1]at e1
    simp only[opPartsU,e1,e2,e3.2,if_true,List.map_cons]
   ·cases h
  ·cases h
def keptW (L:SL)(xs:List Operand)(d nm:Nat)(rs:List Nat):Option Nat→Option (SL×List Prop)
 |none=>some ([],[])
 |some q=>match xs[q]? with
  |some (.tmp kt)=>match look L (tk kt)with
   | .one (.lf (.ap b c e sz rows))=>bif (!Nat.beq kt d&& !inN rs d)&&(!Nat.beq nm b&& !Nat.beq apN b)then some (againW (.lf (.ap b c e sz rows)) (kt::rs),sameC L kt rs)else none
   |_=>none
  |_=>none
theorem a3t {t:Nat}:∀{xs:List Operand} {q:Nat},xs[q]? =some (.tmp t)→tk t∈oksX xs
 |[],q,h=>by simp at h
 |x::xs,0,h=>by simp at h;subst h;simp[oksX,ok]
 |x::xs,q+1,h=>by
  have:=a3t (xs:=xs) (q:=q) (by simpa using h)
  simp only[oksX];exact List.mem_append_right _ this
variable {rs:List Nat} {kq:Option Nat}
theorem a0Q {v:Nm}{xs:List Operand}{ws:SL}(hτ:∀k∈oksX xs++rs.map tk,τ k=den ν L k)(h:keptW L xs d nm rs kq=some (ws,cs))(hc:AllP cs)
 (hbad:∀kt b c e sz rows,kt∈rs∨True→look L (tk kt)= .lf (.ap b c e sz rows)→ν b=none→τ (tk kt)=den ν L (tk kt)→rows=[]):
 (∀q kt,kq=some q→xs[q]? =some (.tmp kt)→(∀r∈kt::rs,r≠d∧τ (tk r)=τ (tk kt))∧((∃b c e sz rows,τ (tk kt)= .lf (.ap b c e sz rows))∨τ (tk kt)= .lf .nil))∧updL (still τ) (renW (setN ν [nm,apN] v) ws)=keptS τ xs rs kq:=by
 cases kq with
 |none=>cases h;exact⟨fun q kt e=>(by cases e),rfl⟩
 |some q=>
  simp only[keptW]at h
  split at h
  ·rename_i kt hx
   split at h
   ·rename_i b c e sz rows hl
    cases hk:(!Nat.beq kt d&& !inN rs d)&&(!Nat.beq nm b&& !Nat.beq apN b)with
    |false=>rw[hk]at h;cases h
    |true=>
     rw[hk]at h
     cases h
     simp only[Bool.and_eq_true,Bool.not_eq_true']at hk
     have hbn:b∉[nm,apN]:=by
      intro hm
      simp only[List.mem_cons,List.not_mem_nil,or_false]at hm
      rcases hm with rfl|rfl
      ·simp at hk
      ·simp at hk
     have h1:=hτ (tk kt) (List.mem_append_left _ (a3t hx))
     have h0:=h1
     simp only[den,hl]at h1
     refine⟨fun q' kt' e1 e2=> ?_,?_⟩
     ·cases e1
      rw[hx]at e2
      cases e2
      refine⟨fun r hr=> ?_,?_⟩
      ·rcases List.mem_cons.1 hr with rfl|hr
       ·exact⟨fun e0=>by rw[e0]at hk;simp at hk,rfl⟩
       ·refine⟨fun e0=>by rw[e0]at hr;rw[u2.2 hr]at hk;simp at hk,?_⟩
        rw[hτ (tk r) (List.mem_append_right _ (List.mem_map_of_mem hr)),h0]
        simp only[den,R7 hc r hr]
      ·rw[h1]
       simp only[renS,renP,renL]
       cases hν:ν b with
       |some p=>exact .inl ⟨_,_,_,_,_,rfl⟩
       |none=>rw[hbad kt b c e sz rows (.inr trivial) hl hν h0];exact .inr rfl
     ·simp only[keptS,hx]
      rw[O4,h1]
      simp only[renS,renP,renL]
      rw[w8 hbn]
   ·cases h
  ·cases h
def xCallU0 (P:Program)(d:Nat)(f:FuncId)(xs:List Operand)(L:SL)(s:Slot)(nm:Nat)(kq:Option Nat)(rs:List Nat):Option Ex:=
 match partsU (match kq with|some _=>obN|none=>waN) L xs,keptW L xs d nm rs kq with
 |some (ps,b::bs),some (ws,cs)=>bif (bs.all (Nat.beq b))&&(s.within [nm]&&s.bare)then
  some ⟨oksX xs++rs.map tk,ws++[(ck 7777,Slot.hole),(tk d,s)],[nm,apN],cs++[Text P f,CallUX P f ps Slot.hole Slot.hole (s.mapN fun _=>rsN) kq]⟩else none
 |_,_=>none
theorem a1k {P:Program}{E:Env}{d:Nat}{f:FuncId}{xs:Array Operand}{ats:Array TypeId}{L:SL}{s:Slot}{nm:Nat}{kq:Option Nat}{rs:List Nat}{ex:Ex}
 (ho:o.op= .call {callee:= .value (.func f),args:=xs,argTypes:=ats}) (hd:o.dst=some d) (hn:d<E.n)
 (he:xCallU0 P d f xs.toList L s nm kq rs=some ex):SoundK P E o L ex:=by
 unfold xCallU0 at he
 split at he
 ·rename_i ps b bs ws cs hps hws
  cases hb:(bs.all (Nat.beq b))&&(s.within [nm]&&s.bare)with
  |false=>rw[hb]at he;cases he
  |true=>
   rw[hb]at he
   cases he
   simp only[Bool.and_eq_true]at hb
   obtain⟨hb1,hb2,hb3⟩:=hb
   intro hc ν τ hτ
   obtain⟨hc1,hc2⟩:=hc.app
   show Step P E o τ fun τ'=>∃v:Nm,Weak τ' (updL (sweep [nm,apN] τ) (renW (setN ν [nm,apN] v) _))
   rw[I6 _ _ (by simp[inN])]
   have hparts:=O8 (νs:=fun _=>ν b) hτ (fun k hk=>List.mem_append_left _ hk) hps (fun b' hb'=>by
    rcases List.mem_cons.1 hb' with rfl|hb'
    ·rfl
    ·rw[Nat.eq_of_beq_eq_true (List.all_eq_true.1 hb1 b' hb')])
   by_cases hbad:∀kt b c e sz rows,kt∈rs∨True→look L (tk kt)= .lf (.ap b c e sz rows)→ν b=none→τ (tk kt)=den ν L (tk kt)→rows=[]
   ·obtain⟨hkd,-⟩:=a0Q (v:=ν) hτ hws hc1 hbad
    refine(M2 d 7777 f xs ats _ Slot.hole _ kq rs ho hd hn hc2.1 (.inr rfl) hparts (hc2.2.1 _) ?_ rfl hkd).mono ?_
    ·rintro so' s' ⟨ν',ν2,-,rfl,rfl⟩
     refine⟨?_,rfl⟩
     rw[u6];exact G6 hb3
    ·rintro τ' ⟨so',s',⟨ν',ν2,-,rfl,rfl⟩,rfl⟩
     refine⟨fun _=>ν2 rsN,?_⟩
     rw[renW,List.map_append,←renW,F2,(a0Q hτ hws hc1 hbad).2]
     simp only[List.map,updL]
     rw[u6,r7 (ν:=setN ν [nm,apN] fun _=>ν2 rsN) (ν':=fun _=>ν2 rsN) hb2 fun b hb=>by
      rw[F0 (by simp at hb;simp[hb])]]
     exact Weak.refl _
   ·refine Step.absurd fun g w a hr=>hbad fun kt b c e sz rows _ h1 h2 h3=> ?_
    cases rows with
    |nil=>rfl
    |cons r0 rs0=>
     simp only[den,h1,renS,renP,renL,h2]at h3
     exact(z2 hr h3).elim
 ·cases he
def soNames :Slot→Option (List Nat)
 | .cell b _=>some [b]
 | .own b _ bs=>match blkNames bs with
  |some ms=>some (b::ms)
  |none=>none
 |_=>none
def xCallU1 (P:Program)(d:Nat)(f:FuncId)(xs:List Operand)(L:SL)(o' s:Slot)(nm:Nat):Option Ex:=
 match xs with
 |[]=>none
 |x::xs=>match ox L x with
  | .one (.lf (.ptr b off))=>match home b L with
   |none=>none
   |some k=>match soNames (look L (ck (k/2))),partsU waN L xs with
    |some (b'::ms),some (ps,bw::bws)=>
     bif (Nat.beq b' b&&(Nat.beq off 0&&(bws.all (Nat.beq bw)&&(s.within [nm]&&s.bare))))&&((((look L (ck (k/2))).firmO&&o'.firmO)&&((look L (ck (k/2))).within (b'::ms)&&o'.within (upN (b'::ms).length obN)))&&(nodupN (b'::ms)&&(!inN (b'::ms) nm&& !inN (b'::ms) apN)))then
      some ⟨ck (k/2)::(ok x++oksX xs),[(ck (k/2),o'.mapN (atO (b'::ms))),(tk d,s)],nm::apN::ms,
       [Text P f,CallUX P f (.lf (.ptr obN 0)::ps) ((look L (ck (k/2))).mapN (posO (b'::ms))) o' (s.mapN fun _=>rsN) none]⟩else none
    |_,_=>none
  |_=>none
theorem a1M {P:Program}{E:Env}{d:Nat}{f:FuncId}{xs:Array Operand}{ats:Array TypeId}{L:SL}{o' s:Slot}{nm:Nat}{ex:Ex}
 (ho:o.op= .call {callee:= .value (.func f),args:=xs,argTypes:=ats}) (hd:o.dst=some d) (hn:d<E.n)
 (he:xCallU1 P d f xs.toList L o' s nm=some ex):SoundK P E o L ex:=by
 generalize hxs:xs.toList=l at he
 unfold xCallU1 at he
 split at he
 ·cases he
 ·rename_i x xs'
  split at he
  ·rename_i b off hx
   split at he
   ·cases he
   ·rename_i k hk
    generalize hso:look L (ck (k/2))=so at he
    split at he
    ·rename_i b' ms ps bw bws hms hps
     cases hb:(Nat.beq b' b&&(Nat.beq off 0&&(bws.all (Nat.beq bw)&&(s.within [nm]&&s.bare))))&&(((so.firmO&&o'.firmO)&&(so.within (b'::ms)&&o'.within (upN (b'::ms).length obN)))&&(nodupN (b'::ms)&&(!inN (b'::ms) nm&& !inN (b'::ms) apN)))with
     |false=>rw[hb]at he;cases he
     |true=>
      rw[hb]at he
      cases he
      simp only[Bool.and_eq_true,Bool.not_eq_true']at hb
      obtain⟨⟨hb1,hb2,hb3,hb4,hb5⟩,⟨⟨hb6,hb7⟩,hb8,hb9⟩,hnd,hb10,hb11⟩:=hb
      obtain rfl:=Nat.eq_of_beq_eq_true hb1
      obtain rfl:=Nat.eq_of_beq_eq_true hb2
      intro hc ν τ hτ
      show Step P E o τ fun τ'=>∃v:Nm,Weak τ' (updL (sweep (nm::apN::ms) τ) (renW (setN ν (nm::apN::ms) v) _))
      rw[I6 _ _ (by simp[inN])]
      let νs:Nm:=fun i=>if i=waN then ν bw else ν (atO (b'::ms) i)
      have hge:∀x,posO (b'::ms) x≠waN:=fun x e=>by unfold posO obN waN at e;omega
      have e0:atO (b'::ms) obN=b':=by unfold atO;rw[Nat.sub_self];rfl
      have hob:νs obN=ν b':=by
       show(if obN=waN then _ else _)=_
       rw[if_neg (by unfold obN waN;omega),e0]
      have e1:renS νs (so.mapN (posO (b'::ms)))=renS ν so:=by
       rw[u6]
       exact r7 hb8 fun x hx=>by
        show(if _=waN then _ else _)=_
        rw[if_neg (hge x),P5 hx]
      have hparts:opPartsU τ xs.toList=some ((Part.lf (.ptr obN 0)::ps).map (renP νs)):=by
       rw[hxs]
       have h1:=O8 (νs:=νs) hτ (xs:=xs') (fun k hk=>by simp[hk]) hps (fun b2 hb2=>by
        show(if waN=waN then _ else _)=_
        rw[if_pos rfl]
        rcases List.mem_cons.1 hb2 with rfl|hb2
        ·rfl
        ·rw[Nat.eq_of_beq_eq_true (List.all_eq_true.1 hb3 b2 hb2)])
       have h:=i8 hτ (fun k hk=>by simp[hk]) hx
       have h2:renP ν (.lf (.ptr b' 0))=renP νs (.lf (.ptr obN 0)):=by simp only[renP,renL,hob]
       simp only[renS,h2]at h
       simp only[opPartsU,h,h1,A0 (ν:=νs) (p:= .lf (.ptr obN 0)) rfl,if_true,List.map_cons]
      have hcell:=hτ (ck (k/2)) (by simp)
      simp only[den,hso]at hcell
      have hcall:=hc.2.1 νs
      rw[e1]at hcall
      refine(M2 d (k/2) f xs ats _ (renS ν so) _ none [] ho hd hn hc.1 (.inl hcell.symm) hparts hcall ?_ (u7 hb6) (fun q kt e=>by cases e)).mono ?_
      ·rintro so' s' ⟨ν',ν2,-,rfl,rfl⟩
       refine⟨?_,u7 hb7⟩
       rw[u6];exact G6 hb5
      ·rintro τ' ⟨so',s',⟨ν',ν2,h0,rfl,rfl⟩,rfl⟩
       refine⟨fun x=>if x=nm then ν2 rsN else ν' (posO (b'::ms) x),?_⟩
       have hnm:∀x∈b'::ms,x≠nm:=fun x hx e=>by rw[e]at hx;rw[u2.2 hx]at hb10;cases hb10
       have hap:∀x∈b'::ms,x≠apN:=fun x hx e=>by rw[e]at hx;rw[u2.2 hx]at hb11;cases hb11
       simp only[renW,List.map,updL,keptS]
       rw[u6,r7 (ν:=setN ν (nm::apN::ms) fun x=>if x=nm then ν2 rsN else ν' (posO (b'::ms) x)) (ν':=fun _=>ν2 rsN) hb4 fun b hb=>by
        simp only[List.mem_singleton]at hb
        subst hb
        rw[F0 (by simp),if_pos rfl]]
       rw[u6,r7 (ν:=fun i=>setN ν (nm::apN::ms) (fun x=>if x=nm then ν2 rsN else ν' (posO (b'::ms) x)) (atO (b'::ms) i)) (ν':=ν') hb9 fun i hi=> ?_]
       ·exact Weak.refl _
       ·obtain⟨hge,hlt⟩:=a1j hi
        obtain⟨q,rfl⟩:=Nat.exists_eq_add_of_le hge
        have hq:q<(b'::ms).length:=by omega
        have ea:atO (b'::ms) (obN+q)=atN (b'::ms) q:=by unfold atO;rw[Nat.add_sub_cancel_left]
        rw[ea]
        have hin:=O3 (ns:=b'::ms) hq
        cases q with
        |zero=>
         simp only[nodupN,Bool.and_eq_true,Bool.not_eq_true']at hnd
         show setN ν (nm::apN::ms) _ b'=ν' obN
         rw[w8 (by
          intro hm'
          rcases List.mem_cons.1 hm' with h|hm'
          ·exact hnm b' (by simp) h
          ·rcases List.mem_cons.1 hm' with h|hm'
           ·exact hap b' (by simp) h
           ·have h7:inN ms b'=true:=u2.2 hm';rw[h7]at hnd;cases hnd.1),h0,hob]
        |succ q=>
         have hmem:atN (b'::ms) (q+1)∈ms:=O3 (ns:=ms) (by simpa using hq)
         rw[F0 (by simp[hmem]),if_neg (hnm _ hin)]
         unfold posO
         rw[Q7 hnd hq]
    ·cases he
  ·cases he
theorem a21 {P:Program}{E:Env}{d k:Nat}{f:FuncId}{x:Operand}{xs':List Operand}{xs:Array Operand}{ats:Array TypeId}{ν:Nm}{τ:St}{ps:List Part}{so o' s:Slot}{b:Nat}{ms:List Nat}{p:Nat×Nat}
 (ho:o.op= .call {callee:= .value (.func f),args:=xs,argTypes:=ats}) (hxs:xs.toList=x::xs') (hd:o.dst=some d) (hn:d<E.n) (hf:Text P f) (hν:ν b=some p) (hx:opd τ x= .lf (.ptr p.1 0)) (hc:τ (ck k)=renS ν so) (hps:∀g w a,Rel E g w a τ→xs'.length=ps.length∧∀(i:Nat) p v,ps[i]? =some p→(xs'.map a.eval)[i]? =some v→PartRel (lobjTags (ck k) g) w 0 i v p)
 (hw:so.within (b::ms)=true) (hw':o'.within (upN (b::ms).length obN)=true) (hs:s.closed=true) (hnd:nodupN (b::ms)=true) (hm:CallM P f ps (so.mapN (posO (b::ms))) o' s) (hfs:so.firmO=true) (hap:s.apart=true) (hfo:∀ν':Nm,ν' obN=some p→(renS ν' o').apartO=true):
 Step P E o τ fun τ'=>∃v:Nm,Weak τ' (updL τ (renW (setN ν ms v) [(ck k,o'.mapN (atO (b::ms))),(tk d,s)])):=by
 have e1:renS (fun i=>ν (atO (b::ms) i)) (so.mapN (posO (b::ms)))=renS ν so:=by
  rw[u6]
  exact r7 hw fun x hx=>by rw[P5 hx]
 have e0:atO (b::ms) obN=b:=by unfold atO;rw[Nat.sub_self];rfl
 have hcall:=hm (fun i=>ν (atO (b::ms) i)) p.1 p.2 (by show ν (atO (b::ms) obN)=_;rw[e0];exact hν)
 rw[e1]at hcall
 have hbare:∀so' s':Slot,(∃ν':Nm,ν' obN=ν (atO (b::ms) obN)∧so'=renS ν' o'∧s'=s)→s'.bare=true∧s'.apart=true∧so'.apartO=true:=by
  rintro _ s' ⟨ν',h0,rfl,rfl⟩
  refine⟨?_,hap,hfo ν' (by rw[h0,e0];exact hν)⟩
  cases s' with
  |one p=>exact Part.closed_bare hs
  |tup ps=>exact List.all_eq_true.2 fun p hp=>Part.closed_bare (List.all_eq_true.1 hs p hp)
  |cell b ls=>cases hs
  |obj b T e s=>cases hs
  |own b ls bs=>cases hs
 refine(a3l d k f x xs' xs ats ps p.1 (renS ν so) _ ho hxs hd hn hf hx hc hps hcall hbare (u7 hfs)).mono ?_
 rintro τ' ⟨so',s',⟨ν',h0,rfl,rfl⟩,rfl⟩
 refine⟨fun x=>ν' (posO (b::ms) x),?_⟩
 simp only[renW,List.map,updL,H7 hs]
 rw[u6]
 rw[r7 (ν:=fun i=>setN ν ms (fun x=>ν' (posO (b::ms) x)) (atO (b::ms) i)) (ν':=ν') hw' fun i hi=> ?_]
 ·exact Weak.refl _
 ·obtain⟨hge,hlt⟩:=a1j hi
  obtain⟨q,rfl⟩:=Nat.exists_eq_add_of_le hge
  have hq:q<(b::ms).length:=by omega
  have ea:atO (b::ms) (obN+q)=atN (b::ms) q:=by unfold atO;rw[Nat.add_sub_cancel_left]
  rw[ea]
  cases q with
  |zero=>
   simp only[nodupN,Bool.and_eq_true,Bool.not_eq_true']at hnd
   show setN ν ms _ b=ν' obN
   rw[w8 (by intro hm';have h7:inN ms b=true:=u2.2 hm';rw[h7]at hnd;cases hnd.1),h0,e0]
  |succ q=>
   have hmem:atN (b::ms) (q+1)∈ms:=O3 (ns:=ms) (by simpa using hq)
   rw[F0 hmem]
   unfold posO
   rw[Q7 hnd hq]
theorem a4b (h:l.apart=true):(renL ν l).apart=true:=by
 cases l with
 |u b c e sz rows=>simp only[renL];cases ν b with
  |some p=>rfl
  |none=>cases rows<;>rfl
 |hd b n c=>simp only[renL];cases ν b with
  |some p=>rfl
  |none=>simp only;split<;>rfl
 |ap b c e sz rows=>cases h
 |ul b c e sz rows=>cases h
 |ptr b off=>cases h
 |nst sz rows i j b n c=>cases h
 |im sh v=>exact h
 |sref sh r=>exact h
 |nil=>rfl
 |hole=>rfl
def nstLeaf (L:SL):Leaf→Option (Leaf×List Nat×List Prop)
 | .nst sz rows i j b n _=>match homeB b L with
  |some (k,jb)=>match look L (ck (k/2))with
   | .own b0 ls bs=>match bs[jb]? with
    |some (.mk b' _ _ sz2 rows2)=>bif Nat.beq b' b then some (.im false (.sl sz (putHd rows i j (.sl sz2 rows2))),[ck (k/2)],[n=rows2.length])else none
    |_=>none
   |_=>none
  |none=>match home b L with
   |some k=>match look L (tk (k/2))with
    | .one (.lf (.u b' _ _ sz2 rows2))=>bif Nat.beq b' b then some (.im false (.sl sz (putHd rows i j (.sl sz2 rows2))),[tk (k/2)],[n=rows2.length])else none
    |_=>none
   |none=>none
 | .hd b n _=>match home b L with
  |some k=>match look L (tk (k/2))with
   | .one (.lf (.u b' _ _ sz2 rows2))=>bif Nat.beq b' b then some (.im false (.sl sz2 rows2),[tk (k/2)],[n=rows2.length])else none
   |_=>none
  |none=>none
 |_=>none
theorem Y2 {w:World}{t0:Nat}(h:Rel E g w a τ)(he:nstLeaf L l=some (l',ks,cs))(hc:AllP cs)(hτ:∀k∈ks,τ k=den ν L k)(hk0:∀k∈ks,k≠ck t0)
 {k:Nat} (hr:LeafRel g w k i j v (renL ν l)):LeafRel (lobjTags (ck t0) g) w k' i' j' v l':=by
 unfold nstLeaf at he
 split at he
 ·rename_i sz rows i0 j0 b n c
  simp only[renL]at hr
  cases hν:ν b with
  |none=>rw[hν]at hr;exact(y8 (k:=k) (i:=i) (j:=j) hr).elim
  |some p=>
   rw[hν]at hr
   have hr:SRep (Imm g false) w v (.sl sz (putHd rows i0 j0 (.hd p.1 n p.2))):=hr
   split at he
   ·rename_i k1 jb hkb
    split at he
    ·rename_i b0 ls bs hl
     split at he
     ·rename_i b' c' e sz2 rows2 hjb
      cases hb:Nat.beq b' b with
      |false=>rw[hb]at he;cases he
      |true=>
       rw[hb]at he
       cases he
       obtain rfl:=Nat.eq_of_beq_eq_true hb
       have hn:n=rows2.length:=hc.1
       have h2:=hτ (ck (k1/2)) (by simp)
       have hne:k1/2≠t0:=fun e0=>hk0 (ck (k1/2)) (by simp) (by rw[e0])
       simp only[den,hl,renS]at h2
       cases hν0:ν b0 with
       |none=>rw[hν0]at h2;exact(i6 h h2).elim
       |some p0=>
        rw[hν0]at h2
        exact hr.put rfl (fun b hb=>z7 hb) (a6d (e:=e) h hne h2 (by rw[List.getElem?_map,hjb];simp only[Option.map_some,renB,hν]) hn)
     ·cases he
    ·cases he
   ·split at he
    ·rename_i k1 hkb
     split at he
     ·rename_i b' c' e sz2 rows2 hl
      cases hb:Nat.beq b' b with
      |false=>rw[hb]at he;cases he
      |true=>
       rw[hb]at he
       cases he
       obtain rfl:=Nat.eq_of_beq_eq_true hb
       have hn:n=rows2.length:=hc.1
       have h2:=hτ (tk (k1/2)) (by simp)
       simp only[den,hl,renS,renP,renL,hν]at h2
       exact hr.put rfl (fun b hb=>z7 hb) (a6L h h2 hn)
     ·cases he
    ·cases he
 ·rename_i b n c
  split at he
  ·rename_i k1 hkb
   split at he
   ·rename_i b' c' e sz2 rows2 hl
    cases hb:Nat.beq b' b with
    |false=>rw[hb]at he;cases he
    |true=>
     rw[hb]at he
     cases he
     obtain rfl:=Nat.eq_of_beq_eq_true hb
     have hn:n=rows2.length:=hc.1
     have h2:=hτ (tk (k1/2)) (by simp)
     simp only[den,hl,renS,renP,renL]at h2
     simp only[renL]at hr
     cases hν:ν b' with
     |some p=>
      rw[hν]at h2 hr
      have hr:v= .slice (some ⟨p.1,0,none⟩) n p.2:=hr
      rw[hr]
      exact a6L h h2 hn
     |none=>
      rw[hν]at h2 hr
      cases rows2 with
      |cons r rs=>exact(z2 h h2).elim
      |nil=>
       have hn0:n=0:=hn
       subst hn0
       have hr:v= .slice none 0 0:=hr
       rw[hr]
       exact .nil _ _ _
   ·cases he
  ·cases he
 ·cases he
def partsN (L:SL):List Operand→Option (List Part×List Nat×List Prop)
 |[]=>some ([],[],[])
 |x::xs=>match ox L x,partsN L xs with
  | .one p,some (ps,k2,c2)=>match p with
   | .lf (.nst sz rows i j b n c)=>match nstLeaf L (.nst sz rows i j b n c)with
    |some (l',k1,c1)=>some (.lf l'::ps,k1++k2,c1++c2)
    |none=>none
   | .lf (.hd b n c)=>match nstLeaf L (.hd b n c)with
    |some (l',k1,c1)=>some (.lf l'::ps,k1++k2,c1++c2)
    |none=>none
   |p=>bif p.closed then some (p::ps,k2,c2)else none
  |_,_=>none
theorem L9 {E:Env}{g:Nat→Tag}{w:World}{a:Act}{ν:Nm}{L:SL}{τ:St}{R:List Nat}{t0:Nat}(h:Rel E g w a τ)(hR:∀k∈R,τ k=den ν L k):∀{xs:List Operand} {ps:List Part} {ks:List Nat} {cs:List Prop},partsN L xs=some (ps,ks,cs)→AllP cs→
 (∀k∈ks,k∈R)→(∀k∈ks,k≠ck t0)→(∀k∈oksX xs,k∈R)→xs.length=ps.length∧∀(i:Nat) p v,ps[i]? =some p→(xs.map a.eval)[i]? =some v→PartRel (lobjTags (ck t0) g) w 0 i v p
 |[],ps,ks,cs,he,_,_,_,_=>by cases he;exact⟨rfl,fun i p v h=>by simp at h⟩
 |x::xs,ps,ks,cs,he,hc,hk,hk0,hx=>by
  have keep:∀{q:Part} {i i':Nat} {v:Value},PartRel (lobjTags (ck t0) g) w 0 i v q→(∀b i j,lobjTags (ck t0) g b≠.own 0 i j)→PartRel (lobjTags (ck t0) g) w 0 i' v q:=fun{q i i' v} hq hno=>by
   cases q with
   |lf l=>exact LeafRel.to hq (fun sh b hb=>⟨hb,rfl⟩) (fun b hb=>absurd hb (hno _ _ _)) fun b hb=>⟨hb,rfl⟩
   |agg ls=>exact PartRel.to (p:= .agg ls) hq (fun sh b hb=>⟨hb,rfl⟩) (fun b j hb=>absurd hb (hno _ _ _)) fun b hb=>⟨hb,rfl⟩
  have hno:∀b i j,lobjTags (ck t0) g b≠.own 0 i j:=fun b i j e=>by have:=(r8 e).1;omega
  simp only[partsN]at he
  split at he
  ·rename_i p ps2 k2 c2 e1 e2
   have e4:=i8 hR (fun k hk=>hx k (by simp[oksX,hk])) e1
   have e5:=o9 h x
   rw[e4]at e5
   split at he
   ·rename_i sz rows i0 j0 b n c
    split at he
    ·rename_i l' k1 c1 e3
     cases he
     obtain⟨hc1,hc2⟩:=hc.app
     obtain⟨h1,h2⟩:=L9 h hR e2 hc2 (fun k h=>hk k (List.mem_append_right _ h)) (fun k h=>hk0 k (List.mem_append_right _ h)) (fun k h=>hx k (by simp[oksX,h]))
     refine⟨by simp[h1],fun i q v h3 h4=> ?_⟩
     cases i with
     |zero=>
      simp at h3 h4
      subst h3 h4
      exact Y2 (k':=0) (i':=0) (j':=0) h e3 hc1 (fun k h=>hR k (hk k (List.mem_append_left _ h))) (fun k h=>hk0 k (List.mem_append_left _ h)) e5
     |succ i=>exact keep (h2 i q v (by simpa using h3) (by simpa using h4)) hno
    ·cases he
   ·rename_i b n c
    split at he
    ·rename_i l' k1 c1 e3
     cases he
     obtain⟨hc1,hc2⟩:=hc.app
     obtain⟨h1,h2⟩:=L9 h hR e2 hc2 (fun k h=>hk k (List.mem_append_right _ h)) (fun k h=>hk0 k (List.mem_append_right _ h)) (fun k h=>hx k (by simp[oksX,h]))
     refine⟨by simp[h1],fun i q v h3 h4=> ?_⟩
     cases i with
     |zero=>
      simp at h3 h4
      subst h3 h4
      exact Y2 (k':=0) (i':=0) (j':=0) h e3 hc1 (fun k h=>hR k (hk k (List.mem_append_left _ h))) (fun k h=>hk0 k (List.mem_append_left _ h)) e5
     |succ i=>exact keep (h2 i q v (by simpa using h3) (by simpa using h4)) hno
    ·cases he
   ·cases hb:p.closed with
    |false=>rw[hb]at he;cases he
    |true=>
     rw[hb]at he
     cases he
     obtain⟨h1,h2⟩:=L9 h hR e2 hc hk hk0 (fun k h=>hx k (by simp[oksX,h]))
     refine⟨by simp[h1],fun i q v h3 h4=> ?_⟩
     cases i with
     |zero=>
      simp at h3 h4
      subst h3 h4
      simp only[renS,n7 hb]at e5
      exact PartRel.firm e5 (Part.closed_bare hb) (Part.closed_firm hb) fun sh b hh=>z7 hh
     |succ i=>exact keep (h2 i q v (by simpa using h3) (by simpa using h4)) hno
  ·cases he
def xCallML (P:Program)(d:Nat)(f:FuncId)(xs:List Operand)(L:SL)(ls':List Leaf)(s:Slot):Option Ex:=
 match xs with
 |[]=>none
 |x::xs=>match ox L x with
  | .one (.lf (.ptr b off))=>match home b L with
   |none=>none
   |some k=>match look L (ck (k/2)),partsN L xs with
    | .cell b' ls,some (ps,ks,cs)=>bif ((Nat.beq b' b&&Nat.beq off 0)&&(ls.all Leaf.firm&&ls'.all Leaf.apart))&&((ls.all (Leaf.within [b'])&&ls'.all (Leaf.within [obN]))&&((s.closed&&s.apart)&& !inN ks (ck (k/2))))then
     some ⟨ck (k/2)::(ok x++(oksX xs++ks)),[(ck (k/2),(Slot.cell obN ls').mapN (atO [b'])),(tk d,s)],[],cs++[Text P f,CallM P f ps ((Slot.cell b' ls).mapN (posO [b'])) (.cell obN ls') s]⟩else none
    |_,_=>none
  |_=>none
theorem a1K {P:Program}{E:Env}{d:Nat}{f:FuncId}{xs:Array Operand}{ats:Array TypeId}{L:SL}{ls':List Leaf}{s:Slot}{ex:Ex}
 (ho:o.op= .call {callee:= .value (.func f),args:=xs,argTypes:=ats}) (hd:o.dst=some d) (hn:d<E.n)
 (he:xCallML P d f xs.toList L ls' s=some ex):SoundOp P E o L ex:=by
 generalize hxs:xs.toList=l at he
 unfold xCallML at he
 split at he
 ·cases he
 ·rename_i x xs'
  split at he
  ·rename_i b off hx
   split at he
   ·cases he
   ·rename_i k hk
    split at he
    ·rename_i b' ls ps ks cs hobj hps
     cases hb:((Nat.beq b' b&&Nat.beq off 0)&&(ls.all Leaf.firm&&ls'.all Leaf.apart))&&((ls.all (Leaf.within [b'])&&ls'.all (Leaf.within [obN]))&&((s.closed&&s.apart)&& !inN ks (ck (k/2))))with
     |false=>rw[hb]at he;cases he
     |true=>
      rw[hb]at he
      cases he
      simp only[Bool.and_eq_true,Bool.not_eq_true']at hb
      obtain⟨⟨⟨hb1,hb2⟩,hf1,hf2⟩,⟨hb3,hb4⟩,⟨hb5,hb6⟩,hb7⟩:=hb
      obtain rfl:=Nat.eq_of_beq_eq_true hb1
      obtain rfl:=Nat.eq_of_beq_eq_true hb2
      intro hc ν τ hτ
      obtain⟨hc1,hc2⟩:=hc.app
      have h:=i8 hτ (fun k hk=>by simp[hk]) hx
      have h2:=hτ (ck (k/2)) (by simp)
      simp only[den,hobj]at h2
      simp only[renS,renP,renL]at h
      cases hν:ν b' with
      |none=>rw[hν]at h;exact Step.absurd fun g w a hr=>u9 hr h
      |some q=>
       rw[hν]at h
       have h1:∀g w a,Rel E g w a τ→xs'.length=ps.length∧∀(i:Nat) p v,ps[i]? =some p→(xs'.map a.eval)[i]? =some v→PartRel (lobjTags (ck (k/2)) g) w 0 i v p:=
        fun g w a hr=>L9 hr hτ hps hc1 (fun k h=>by simp[h]) (fun k2 h e0=>by subst e0;rw[u2.2 h]at hb7;cases hb7) fun k h=>by simp[h]
       refine a21 (ms:=[]) ho hxs hd hn hc2.1 hν h h2 h1 (by simp[Slot.within,inN,hb3]) (by simp[Slot.within,inN,upN,hb4]) hb5 rfl hc2.2.1 hf1 hb6 fun ν' h0=> ?_
       simp only[renS,h0,Slot.apartO,List.all_map]
       exact List.all_eq_true.2 fun l hl=>a4b (List.all_eq_true.1 hf2 l hl)
    ·cases he
  ·cases he
def xAppendH (T:Tab)(t:TypeId)(d:Nat)(x y:Operand)(L:SL)(w:Option Wit):Option Ex:=
 match T.get t,x with
 |some ti,.tmp kt=>match ti.sh with
  | .sl e=>match T.get e,look L (tk kt),ox L y with
   |some te,.one (.lf (.u b _ e' sz rows)),.one (.lf (.hd b2 n _))=>match home b2 L with
    |none=>none
    |some k=>match look L (tk (k/2))with
     | .one (.lf (.u b3 _ _ sz3 rows2))=>bif Nat.beq b3 b2&&((Nat.beq sz te.size&&Nat.beq sz3 sz)&&Nat.beq e' e)then
      newP d (tk kt::(tk (k/2)::ok y)) [tk kt] b e sz (rows++rows2) [n=rows2.length,(rows.length+rows2.length)*te.bytes≤140737488355328,rows.length+rows2.length≤maxLen] w else none
     |_=>none
   |_,_,_=>none
  |_=>none
 |_,_=>none
theorem a0E {E:Env}{t:TypeId}{d:Nat}{x y:Operand}{L:SL}{w:Option Wit}{ex:Ex}(hT:TabOK P T)
 (ho:o.op= .call {callee:= .builtin .append,args:= #[x,y],argTypes:= #[t,t]}) (hd:o.dst=some d) (hn:d<E.n)
 (he:xAppendH T t d x y L w=some ex):SoundOp P E o L ex:=by
 unfold xAppendH at he
 split at he
 ·rename_i ti kt hti
  split at he
  ·rename_i e hsh
   split at he
   ·rename_i te b c e' sz rows b2 n c2 hte hx hy
    split at he
    ·cases he
    ·rename_i k hk
     split at he
     ·rename_i b3 c3 e3 sz3 rows2 hu
      cases hb:Nat.beq b3 b2&&((Nat.beq sz te.size&&Nat.beq sz3 sz)&&Nat.beq e' e)with
      |false=>rw[hb]at he;cases he
      |true=>
       rw[hb]at he
       simp only[cond_true]at he
       simp only[Bool.and_eq_true]at hb
       obtain⟨hb1,⟨hb2,hb3⟩,hb4⟩:=hb
       obtain rfl:=Nat.eq_of_beq_eq_true hb1
       obtain rfl:=Nat.eq_of_beq_eq_true hb3
       obtain rfl:=Nat.eq_of_beq_eq_true hb4
       have hel:=(hT.get hti).elem hsh (hT.get hte)
       rw[←Nat.eq_of_beq_eq_true hb2]at hel
       refine G5 he fun hc ν τ hτ=> ?_
       obtain⟨hc0,hc1,hc2,-⟩:=hc
       subst hc0
       have h:=hτ (tk kt) (by simp)
       have h2:=hτ (tk (k/2)) (by simp)
       have h3:=i8 (x:=y) hτ (fun k hk=>by simp[hk]) hy
       simp only[den,hx,renS,renP,renL]at h
       simp only[den,hu,renS,renP,renL]at h2
       simp only[renS,renP,renL]at h3
       have hsrc:∀g w a,Rel E g w a τ→Src g w (a.eval y) sz3 rows2:=by
        intro g w a hr
        cases hν:ν b3 with
        |some q=>rw[hν]at h2 h3;exact src_u hr hel.pos h2 h3 rfl
        |none=>
         rw[hν]at h2 h3
         cases rows2 with
         |cons r rs=>exact(z2 hr h2).elim
         |nil=>
          have h4:=J5 hr h3
          rw[h4]
          exact⟨_,_,_,rfl,rfl,Nat.le_refl _,(fun r hr=>by cases hr),fun hne=>absurd rfl hne⟩
       cases hν:ν b with
       |some q=>
        rw[hν]at h
        exact(Y6 d t o.type e' sz3 te.bytes (.tmp kt) y kt q.1 q.2 rows rows2 ho rfl hd hn hel h (.inl rfl) hsrc hc1 hc2).mono fun τ' ⟨b',c',e0⟩=>⟨_,.inl ⟨b',c',rfl⟩,e0⟩
       |none=>
        rw[hν]at h
        cases rows with
        |cons r rs=>exact Step.absurd fun g w a hr=>z2 hr h
        |nil=>
         simp only[List.isEmpty_nil,if_true]at h
         have hw:∀s,Weak (upd τ (tk d) s) (upd (updL τ (holes [tk kt])) (tk d) s):=fun s=>v9 _ _ _
         by_cases h0:rows2=[]
         ·subst h0
          exact(M5 d t o.type e' sz3 te.bytes (.tmp kt) y ho rfl hd hn hel h hsrc).weak fun τ' e0=>⟨_,⟨_,.inr ⟨rfl,rfl⟩,rfl⟩,by subst e0;exact hw _⟩
         ·exact(O2 d t o.type e' sz3 te.bytes (.tmp kt) y rows2 ho rfl hd hn hel h hsrc h0 (by simpa using hc1) (by simpa using hc2)).weak fun τ' ⟨b',c',e0⟩=>⟨_,⟨_,.inl ⟨b',c',rfl⟩,rfl⟩,by subst e0;exact hw _⟩
     ·cases he
   ·cases he
  ·cases he
 ·cases he
theorem a58 (h:Step P E o τ fun τ'=>∃s,Grown e sz rows s∧τ'=upd σ (tk d) s):Step P E o τ (·=upd σ (tk d) (.lf (.im true (.sl sz rows)))):=
 h.turn fun τ' ⟨s,hg,e0⟩=>by
  subst e0
  intro g w a hr
  rcases hg with⟨b,c0,rfl⟩|⟨hr0,rfl⟩
  ·obtain⟨g',τ',h1,h2⟩:=C0 d b c0 e sz rows (a8 ..) g w a hr
   subst h1
   rw[j7]at h2
   exact⟨g',_,rfl,h2⟩
  ·subst hr0
   obtain⟨g',τ',h1,h2⟩:=M0 d sz (a8 ..) g w a hr
   subst h1
   rw[j7]at h2
   exact⟨g',_,rfl,h2⟩
theorem a18 (a b:List (List SV))(i j:Nat)(x:SV):a++putHd b i j x=putHd (a++b) (a.length+i) j x:=by
 unfold putHd
 apply List.ext_getElem?
 intro q
 rw[List.getElem?_modify]
 by_cases h:q<a.length
 ·rw[List.getElem?_append_left h,List.getElem?_append_left h]
  have e:¬(a.length+i=q):=by omega
  simp[e]
 ·rw[List.getElem?_append_right (by omega),List.getElem?_append_right (by omega),List.getElem?_modify]
  by_cases h2:i=q-a.length
  ·have e:a.length+i=q:=by omega
   simp only[if_pos h2,if_pos e]
  ·have e:¬(a.length+i=q):=by omega
   simp only[if_neg h2,if_neg e]
def GrownL (e sz:Nat)(rows:List (List SV))(s:Slot):Prop:=(∃b c,s= .lf (.ul b c e sz rows))∨(rows=[]∧s= .lf .nil)
theorem Step.pre1 {σ':St}(ht:Turn E σ (·=σ'))(h:Step P E o σ' M):Step P E o σ M:=fun g w a next Q hr hn=>by
 obtain⟨g',τ,h1,h2⟩:=ht g w a hr
 subst h1
 exact h g' w a next Q h2 hn
variable {y:Operand}
theorem a7h {k:Nat}(h:y≠.tmp k):opd (upd σ (tk k) s) y=opd σ y:=z4 fun t e0 e=>h (by
 have e2:2*t=2*k:=e
 rw[e0,Nat.eq_of_mul_eq_mul_left (show 0<2 by decide) e2])
theorem grownL {P:Program}{E:Env}{τ:St}{t d kt e sz bytes:Nat}{y:Operand}{rows rows2:List (List SV)}{sh:Bool}(ho:o.op= .call {callee:= .builtin .append,args:= #[.tmp kt,y],argTypes:= #[t,t]})(hd:o.dst=some d)(hn:d<E.n)(hel:Elem P t e sz bytes)
 (h:(∃b c,τ (tk kt)= .lf (.u b c e sz rows)∨τ (tk kt)= .lf (.ul b c e sz rows))∨(τ (tk kt)= .lf .nil∧rows=[])) (hy:opd τ y= .lf (.im sh (.sl sz rows2)))
 (hc1:(rows.length+rows2.length)*bytes≤140737488355328) (hc2:rows.length+rows2.length≤maxLen):Step P E o τ fun τ'=>∃s,GrownL e sz (rows++rows2) s∧τ'=upd (upd τ (tk kt) Slot.hole) (tk d) s:=by
 rcases h with⟨b,c,h⟩|⟨h,h0⟩
 ·have hyk:y≠.tmp kt:=fun e=>by
   subst e
   have hy:τ (tk kt)= .lf (.im sh (.sl sz rows2)):=hy
   rcases h with h|h<;>rw[h]at hy<;>cases hy
  have go:∀σ,σ (tk kt)= .lf (.ul b c e sz rows)→(∀s,upd σ (tk kt) s=upd τ (tk kt) s)→opd σ y=opd τ y→Step P E o σ fun τ'=>∃s,GrownL e sz (rows++rows2) s∧τ'=upd (upd τ (tk kt) Slot.hole) (tk d) s:=fun σ h1 h2 h3=>
   (U9 d t o.type e sz bytes (.tmp kt) y kt b c rows rows2 ho rfl hd hn hel h1 (.inl rfl) (fun g w a hr=>a5K hr hel.pos (h3.trans hy)) hc1 hc2).mono fun τ' ⟨b',c',e0⟩=>⟨_,.inl ⟨b',c',rfl⟩,by rw[e0,h2]⟩
  rcases h with h|h
  ·exact Step.pre1 (a7q kt b c e sz rows h) (go _ (a8 ..) (fun s=>j7 ..) (a7h hyk))
  ·exact go τ h (fun _=>rfl) rfl
 ·subst h0
  have hw:∀s,Weak (upd τ (tk d) s) (upd (upd τ (tk kt) Slot.hole) (tk d) s):=fun s=>v9 _ _ _
  have hsrc:∀g w a,Rel E g w a τ→SrcL g w (a.eval y) sz rows2:=fun g w a hr=>a5K hr hel.pos hy
  by_cases h0:rows2=[]
  ·subst h0
   exact(K1 d t o.type e sz bytes (.tmp kt) y ho rfl hd hn hel h hsrc).weak fun τ' e0=>⟨_,⟨_,.inr ⟨rfl,rfl⟩,rfl⟩,by subst e0;exact hw _⟩
  ·exact(M4 d t o.type e sz bytes (.tmp kt) y rows2 ho rfl hd hn hel h hsrc h0 (by simpa using hc1) (by simpa using hc2)).weak fun τ' ⟨b',c',e0⟩=>⟨_,⟨_,.inl ⟨b',c',rfl⟩,rfl⟩,by subst e0;exact hw _⟩
def xAppendL (T:Tab)(t:TypeId)(d:Nat)(x y:Operand)(L:SL)(rows3:List (List SV)):Option Ex:=
 match T.get t,x with
 |some ti,.tmp kt=>match ti.sh with
  | .sl e=>match T.get e,look L (tk kt),ox L y with
   |some te,.one (.lf (.u b _ e' sz rows)),.one (.lf (.im sh (.sl sz2 rows2)))=>
    bif (Nat.beq sz te.size&&Nat.beq sz2 sz)&&Nat.beq e' e then
     some ⟨tk kt::ok y,[(tk kt,Slot.hole),(tk d,.lf (.ul b 0 e sz rows3))],[b],
      [rows++rows2=rows3,(rows.length+rows2.length)*te.bytes≤140737488355328,rows.length+rows2.length≤maxLen]⟩else none
   |_,_,_=>none
  |_=>none
 |_,_=>none
theorem a0H {E:Env}{t:TypeId}{d:Nat}{x y:Operand}{L:SL}{rows3:List (List SV)}{ex:Ex}(hT:TabOK P T)
 (ho:o.op= .call {callee:= .builtin .append,args:= #[x,y],argTypes:= #[t,t]}) (hd:o.dst=some d) (hn:d<E.n)
 (he:xAppendL T t d x y L rows3=some ex):SoundOp P E o L ex:=by
 unfold xAppendL at he
 split at he
 ·rename_i ti kt hti
  split at he
  ·rename_i e hsh
   split at he
   ·rename_i te b c e' sz rows sh sz2 rows2 hte hx hy
    cases hb:(Nat.beq sz te.size&&Nat.beq sz2 sz)&&Nat.beq e' e with
    |false=>rw[hb]at he;cases he
    |true=>
     rw[hb]at he
     cases he
     simp only[Bool.and_eq_true]at hb
     obtain⟨⟨hb1,hb2⟩,hb3⟩:=hb
     obtain rfl:=Nat.eq_of_beq_eq_true hb2
     obtain rfl:=Nat.eq_of_beq_eq_true hb3
     have hel:=(hT.get hti).elem hsh (hT.get hte)
     rw[←Nat.eq_of_beq_eq_true hb1]at hel
     intro hc ν τ hτ
     obtain⟨hc0,hc2,hc3,-⟩:=hc
     subst hc0
     have h:=hτ (tk kt) (by simp)
     have h3:=o8 (x:=y) hτ (fun k hk=>by simp[hk]) hy
     simp only[den,hx,renS,renP,renL]at h
     have go:(∃b c,τ (tk kt)= .lf (.u b c e' sz2 rows)∨τ (tk kt)= .lf (.ul b c e' sz2 rows))∨(τ (tk kt)= .lf .nil∧rows=[])→Step P E o τ fun τ'=>∃v:Nm,Weak τ' (updL τ (renW (setN ν [b] v) [(tk kt,Slot.hole),(tk d,.lf (.ul b 0 e' sz2 (rows++rows2)))])):=fun hx'=>by
      refine(grownL ho hd hn hel hx' h3 hc2 hc3).mono fun τ' ⟨s,hg,e0⟩=> ?_
      subst e0
      rcases hg with⟨b',c',rfl⟩|⟨h0,rfl⟩
      ·refine⟨fun _=>some (b',c'),?_⟩
       simp only[renW,List.map,updL,renS,renP,renL,y3]
       exact Weak.refl _
      ·refine⟨fun _=>none,?_⟩
       simp only[renW,List.map,updL,renS,renP,renL,y3,h0,List.isEmpty_nil,if_true]
       exact Weak.refl _
     cases hν:ν b with
     |some q=>rw[hν]at h;exact go (.inl ⟨_,_,.inl h⟩)
     |none=>
      rw[hν]at h
      cases rows with
      |cons r rs=>exact Step.absurd fun g w a hr=>z2 hr h
      |nil=>exact go (.inr ⟨h,rfl⟩)
   ·cases he
  ·cases he
 ·cases he
def hdIx (b:Nat):List Leaf→Nat→Nat
 |[],i=>i
 |l::ls,i=>bif l.has b then i else hdIx b ls (i+1)
def xAppendB (T:Tab)(t:TypeId)(d:Nat)(x y:Operand)(L:SL)(rows3:List (List SV)):Option Ex:=
 match T.get t,x with
 |some ti,.tmp kt=>match ti.sh with
  | .sl e=>match T.get e,look L (tk kt),ox L y with
   |some te,.one (.lf (.hd b n _)),.one (.lf (.im true (.sl sz2 rows2)))=>match homeB b L with
    |some (k,jb)=>match look L (ck (k/2))with
     | .own b0 ls bs=>match bs[jb]? with
      |some (.mk b' _ e' sz rows)=>
       bif ((Nat.beq sz te.size&&Nat.beq sz2 sz)&&(Nat.beq e' e&&Nat.beq b' b))&&((!Nat.beq b0 b&& !(ls.set (hdIx b ls 0) .hole).any (Leaf.has b))&&(!(bs.set jb .no).any (Blk.has b)&& !Nat.beq kt d))then
        some ⟨tk kt::(ck (k/2)::ok y),[(ck (k/2),.own b0 (ls.set (hdIx b ls 0) .hole) (bs.set jb .no)),(tk kt,Slot.hole),(tk d,.lf (.u b 0 e sz rows3))],[b],
         [rows++rows2=rows3,n=rows.length,(rows.length+rows2.length)*te.bytes≤140737488355328,rows.length+rows2.length≤maxLen,rows2≠[]]⟩else none
      |_=>none
     |_=>none
    |none=>none
   |_,_,_=>none
  |_=>none
 |_,_=>none
theorem a0G {E:Env}{t:TypeId}{d:Nat}{x y:Operand}{L:SL}{rows3:List (List SV)}{ex:Ex}(hT:TabOK P T)
 (ho:o.op= .call {callee:= .builtin .append,args:= #[x,y],argTypes:= #[t,t]}) (hd:o.dst=some d) (hn:d<E.n)
 (he:xAppendB T t d x y L rows3=some ex):SoundOp P E o L ex:=by
 unfold xAppendB at he
 split at he
 ·rename_i ti kt hti
  split at he
  ·rename_i e hsh
   split at he
   ·rename_i te b n c sz2 rows2 hte hx hy
    split at he
    ·rename_i k jb hkb
     split at he
     ·rename_i b0 ls bs hl
      split at he
      ·rename_i b' c' e' sz rows hjb
       cases hb:((Nat.beq sz te.size&&Nat.beq sz2 sz)&&(Nat.beq e' e&&Nat.beq b' b))&&((!Nat.beq b0 b&& !(ls.set (hdIx b ls 0) .hole).any (Leaf.has b))&&(!(bs.set jb .no).any (Blk.has b)&& !Nat.beq kt d))with
       |false=>rw[hb]at he;cases he
       |true=>
        rw[hb]at he
        cases he
        simp only[Bool.and_eq_true,Bool.not_eq_true']at hb
        obtain⟨⟨⟨hb1,hb2⟩,hb3,hb4⟩,⟨hb5,hb6⟩,hb7,hb8⟩:=hb
        obtain rfl:=Nat.eq_of_beq_eq_true hb2
        obtain rfl:=Nat.eq_of_beq_eq_true hb3
        obtain rfl:=Nat.eq_of_beq_eq_true hb4
        have hel:=(hT.get hti).elem hsh (hT.get hte)
        rw[←Nat.eq_of_beq_eq_true hb1]at hel
        intro hc ν τ hτ
        obtain⟨hc0,hcn,hc2,hc3,hne,-⟩:=hc
        subst hc0 hcn
        have hk:=hτ (tk kt) (by simp)
        have h2:=hτ (ck (k/2)) (by simp)
        have h3:=o8 (x:=y) hτ (fun k hk=>by simp[hk]) hy
        simp only[den,hx,renS,renP,renL]at hk
        simp only[den,hl,renS]at h2
        generalize hi:hdIx b' ls 0=i at*
        cases hν0:ν b0 with
        |none=>rw[hν0]at h2;exact Step.absurd fun g w a hr=>i6 hr h2
        |some p0=>
         rw[hν0]at h2
         simp only at h2
         by_cases hbadn:ν b'=none∧¬rows.length=0
         ·refine Step.absurd fun g w a hr=>z2 (t:=kt) hr ?_
          rw[hk,hbadn.1]
          simp only[if_neg hbadn.2]
         have hyk:∀t',y= .tmp t'→tk t'≠tk kt:=fun t' e0 e1=>by
          subst e0
          have h3':τ (tk t')= .lf (.im true (.sl sz2 rows2)):=h3
          rw[e1,hk]at h3'
          cases hν:ν b' with
          |some q=>rw[hν]at h3';cases h3'
          |none=>
           rw[hν]at h3'
           simp only at h3'
           split at h3'
           ·cases h3'
           ·rename_i h0
            exact hbadn ⟨hν,h0⟩
         have hset:∀v:Nm,renS (setN ν [b'] v) (.own b0 (ls.set i .hole) (bs.set jb .no))= .own p0.1 ((ls.map (renL ν)).set i .hole) ((bs.map (renB ν)).set jb .no):=fun v=>by
          have h5:setN ν [b'] v b0=some p0:=by rw[w8 (by simp only[List.mem_singleton];intro e0;subst e0;simp at hb5)];exact hν0
          simp only[renS,h5]
          have h6:(ls.set i .hole).map (renL (setN ν [b'] v))=(ls.map (renL ν)).set i .hole:=by
           rw[show(ls.map (renL ν)).set i .hole=(ls.set i .hole).map (renL ν)from by rw[List.map_set];rfl]
           refine List.map_congr_left fun l hl=>H9 fun b hb=> ?_
           simp only[List.mem_singleton]at hb
           subst hb
           rw[List.any_eq_false]at hb6
           simpa using hb6 l hl
          have h7:(bs.set jb .no).map (renB (setN ν [b'] v))=(bs.map (renB ν)).set jb .no:=by
           rw[show(bs.map (renB ν)).set jb .no=(bs.set jb .no).map (renB ν)from by rw[List.map_set];rfl]
           refine List.map_congr_left fun l hl=>a1S fun b hb=> ?_
           simp only[List.mem_singleton]at hb
           subst hb
           rw[List.any_eq_false]at hb7
           simpa using hb7 l hl
          rw[h6,h7]
         cases hν:ν b' with
         |some q=>
          rw[hν]at hk
          simp only at hk
          have hjν:(bs.map (renB ν))[jb]? =some (.mk q.1 q.2 e' sz2 rows):=by rw[List.getElem?_map,hjb];simp only[Option.map_some,renB,hν]
          refine Step.pre (V1 kt (k/2) p0.1 jb q.1 q.2 _ e' sz2 _ _ rows h2 hjν hk rfl) (Step.pre (K7 (k/2) p0.1 i (ls.map (renL ν)) ((bs.map (renB ν)).set jb .no) (by rw[d4 _ _ (j8 _ _),a8])) ?_)
          refine(I5 d t o.type e' sz2 te.bytes (.tmp kt) y kt q.1 q.2 rows rows2 ho rfl hd hn hel (by rw[d4 _ _ (v7 _ _),a8]) (.inl rfl) (by
           rw[z4 fun t' e0 e1=>(v7 _ _) e1,z4 hyk,z4 fun t' e0 e1=>(v7 _ _) e1];exact h3) (.inl rfl) hc2 hc3).mono fun τ' ⟨b2,c2,e0⟩=>⟨fun _=>some (b2,c2),?_⟩
          subst e0
          simp only[renW,List.map,updL,hset]
          simp only[renS,renP,renL,y3]
          refine fun q2=> .inl ?_
          by_cases e1:q2=tk d
          ·subst e1;rw[a8,a8]
          ·rw[d4 _ _ e1,d4 _ _ e1]
           by_cases e2:q2=tk kt
           ·subst e2;rw[a8,a8]
           ·rw[d4 _ _ e2,d4 _ _ e2]
            by_cases e3:q2=ck (k/2)
            ·subst e3;rw[a8,a8]
            ·rw[d4 _ _ e3,d4 _ _ e3,d4 _ _ e2,d4 _ _ e3]
         |none=>
          rw[hν]at hk
          simp only at hk
          cases rows with
          |cons r rs=>exact Step.absurd fun g w a hr=>A6 (j:=jb) hr h2 (by rw[List.getElem?_map,hjb];simp only[Option.map_some,renB,hν];rfl)
          |nil=>
           have hk:τ (tk kt)= .lf .nil:=by rw[hk];simp
           refine Step.pre (K7 (k/2) p0.1 i (ls.map (renL ν)) (bs.map (renB ν)) h2) ?_
           have h8:(bs.map (renB ν)).set jb .no=bs.map (renB ν):=by
            apply List.ext_getElem?
            intro q
            rw[List.getElem?_set]
            by_cases hq:jb=q
            ·subst hq
             rw[if_pos rfl,if_pos (by rw[List.length_map];exact(List.getElem?_eq_some_iff.1 hjb).1),List.getElem?_map,hjb]
             simp only[Option.map_some,renB,hν];rfl
            ·rw[if_neg hq]
           refine(J9 (rows2:=rows2) ho hd hn hel (x:= .tmp kt) (by show upd τ _ _ (tk kt)=_;rw[d4 _ _ (v7 _ _)];exact hk) (by rw[z4 fun t' e0 e1=>(v7 _ _) e1];exact h3) (.inl rfl) (by simpa using hc2) (by simpa using hc3)).mono fun τ' ⟨s,hg,e0⟩=> ?_
           subst e0
           have go:∀v:Nm,renS (setN ν [b'] v) (.lf (.u b' 0 e' sz2 ([]++rows2)))=s→∃v:Nm,Weak (upd (upd τ (ck (k/2)) (.own p0.1 ((ls.map (renL ν)).set i .hole) (bs.map (renB ν)))) (tk d) s) (updL τ (renW (setN ν [b'] v) [(ck (k/2),.own b0 (ls.set i .hole) (bs.set jb .no)),(tk kt,Slot.hole),(tk d,.lf (.u b' 0 e' sz2 ([]++rows2)))])):=fun v hv=>by
            refine⟨v,?_⟩
            simp only[renW,List.map,updL,hset,hv,h8]
            intro q2
            by_cases e1:q2=tk d
            ·subst e1;left;rw[a8,a8]
            ·rw[d4 _ _ e1,d4 _ _ e1]
             by_cases e2:q2=tk kt
             ·subst e2;right;rw[a8];rfl
             ·rw[d4 _ _ e2];exact .inl rfl
           rcases hg with⟨b2,c2,rfl⟩|⟨h0,-⟩
           ·exact go (fun _=>some (b2,c2)) (by simp only[renS,renP,renL,y3];rfl)
           ·exact absurd h0 hne
      ·cases he
     ·cases he
    ·cases he
   ·cases he
  ·cases he
 ·cases he
def xAppendN (T:Tab)(t:TypeId)(d:Nat)(x y:Operand)(L:SL)(rows3:List (List SV))(i3:Nat):Option Ex:=
 match T.get t,x with
 |some ti,.tmp kt=>match ti.sh with
  | .sl e=>match T.get e,look L (tk kt),ox L y with
   |some te,.one (.lf (.ul b _ e' sz rows)),.one (.lf (.nst sz2 rows2 i j b2 n _))=>
    bif (Nat.beq sz te.size&&Nat.beq sz2 sz)&&Nat.beq e' e then
     some ⟨tk kt::ok y,[(tk kt,Slot.hole),(tk d,.lf (.nst sz rows3 i3 j b2 n 0))],[],
      [rows++rows2=rows3,rows.length+i=i3,(rows.length+rows2.length)*te.bytes≤140737488355328,rows.length+rows2.length≤maxLen]⟩else none
   |_,_,_=>none
  |_=>none
 |_,_=>none
theorem a0o {E:Env}{t:TypeId}{d:Nat}{x y:Operand}{L:SL}{rows3:List (List SV)}{i3:Nat}{ex:Ex}(hT:TabOK P T)
 (ho:o.op= .call {callee:= .builtin .append,args:= #[x,y],argTypes:= #[t,t]}) (hd:o.dst=some d) (hn:d<E.n)
 (he:xAppendN T t d x y L rows3 i3=some ex):SoundOp P E o L ex:=by
 unfold xAppendN at he
 split at he
 ·rename_i ti kt hti
  split at he
  ·rename_i e hsh
   split at he
   ·rename_i te b c e' sz rows sz2 rows2 i j b2 n c2 hte hx hy
    cases hb:(Nat.beq sz te.size&&Nat.beq sz2 sz)&&Nat.beq e' e with
    |false=>rw[hb]at he;cases he
    |true=>
     rw[hb]at he
     cases he
     simp only[Bool.and_eq_true]at hb
     obtain⟨⟨hb1,hb2⟩,hb3⟩:=hb
     obtain rfl:=Nat.eq_of_beq_eq_true hb2
     obtain rfl:=Nat.eq_of_beq_eq_true hb3
     have hel:=(hT.get hti).elem hsh (hT.get hte)
     rw[←Nat.eq_of_beq_eq_true hb1]at hel
     refine SoundOp.plain fun hc ν τ hτ=> ?_
     obtain⟨hc0,hc1,hc2,hc3,-⟩:=hc
     subst hc0 hc1
     have h:=hτ (tk kt) (by simp)
     have h3:=i8 (x:=y) hτ (fun k hk=>by simp[hk]) hy
     simp only[den,hx,renS,renP,renL]at h
     simp only[renS,renP,renL]at h3
     cases hν2:ν b2 with
     |none=>rw[hν2]at h3;exact Step.absurd fun g w a hr=>u9 hr h3
     |some p=>
      rw[hν2]at h3
      simp only[renW,List.map,updL,renS,renP,renL,hν2]
      rw[←a18]
      have hl:(putHd rows2 i j (.hd p.1 n p.2)).length=rows2.length:=by simp[putHd]
      have go:(∃b c,τ (tk kt)= .lf (.u b c e' sz2 rows)∨τ (tk kt)= .lf (.ul b c e' sz2 rows))∨(τ (tk kt)= .lf .nil∧rows=[])→
       Step P E o τ (·=upd (upd τ (tk kt) Slot.hole) (tk d) (.lf (.im false (.sl sz2 (rows++putHd rows2 i j (.hd p.1 n p.2)))))):=fun hx'=>by
       refine(grownL ho hd hn hel hx' h3 (by rw[hl];exact hc2) (by rw[hl];exact hc3)).turn fun τ' ⟨s,hg,e0⟩=> ?_
       subst e0
       rcases hg with⟨b',c',rfl⟩|⟨h0,rfl⟩
       ·have h7:=a2C (E:=E) (σ:=upd (upd τ (tk kt) Slot.hole) (tk d) (.lf (.ul b' c' e' sz2 (rows++putHd rows2 i j (.hd p.1 n p.2))))) d _ _ _ _ _ (a8 ..)
        rw[j7]at h7
        exact h7
       ·intro g w a hr
        obtain⟨g',τ',k1,k2⟩:=M0 d sz2 (a8 ..) g w a hr
        subst k1
        obtain⟨g2,τ2,k3,k4⟩:=a0m d _ (a8 ..) g' w a k2
        subst k3
        rw[j7,j7]at k4
        exact⟨g2,_,by rw[h0],k4⟩
      cases hν:ν b with
      |some q=>rw[hν]at h;exact go (.inl ⟨_,_,.inr h⟩)
      |none=>
       rw[hν]at h
       cases rows with
       |cons r rs=>exact Step.absurd fun g w a hr=>z2 hr h
       |nil=>exact go (.inr ⟨h,rfl⟩)
   ·cases he
  ·cases he
 ·cases he
theorem O9 (d:Nat)(t e sz bytes n:Nat)(parts:Array (Nat×Operand))(ps:List (Nat×Part))(ls:List Leaf)(j:Nat)
 (ho:o.op= .buildSlice t n parts) (hd:o.dst=some d) (hn:d<E.n) (he:Elem P t e sz bytes) (hp:litParts σ parts.toList=some ps)
 (hf:fillL (fun i=>some (i*sz,sz)) (List.replicate (n*sz) .hole) ps=some ls) (hj:ls[j]? =some badLeaf):Step P E o σ M:=by
 refine Step.absurd fun g w a h=> ?_
 obtain⟨i,z,hi,hz,hsz,hby,hzs⟩:=he.ok
 obtain⟨hpl,hpr⟩:=F1 h hp
 obtain⟨zero,hzero⟩:∃zero:Array Value,zero=if n*sz=0 then#[]else z.cells:=⟨_,rfl⟩
 have hinit:LeavesRel g w 0 0 ((Array.range (n*sz)).map (zero[·%zero.size]!)) (List.replicate (n*sz) .hole):=by
  refine⟨by simp,fun j l v h1 h2=> ?_⟩
  rw[List.getElem?_replicate]at h1
  split at h1
  ·cases h1;trivial
  ·cases h1
 obtain⟨out,ho2,hro⟩:=W0 (k:=0) (i:=0) (fun i=>some (i*sz,sz)) ps _ _ _ ls hinit hpl hpr hf
 have hlt:j<out.size:=by rw[hro.1];exact(List.getElem?_eq_some_iff.1 hj).1
 exact y8 (k:=0) (i:=0) (j:=j) (hro.2 j badLeaf _ hj (Array.getElem?_eq_getElem hlt))
def hdAt :List Leaf→Nat→Option (Nat×Nat×Nat)
 |[],_=>none
 | .hd b n _::_,j=>some (j,b,n)
 |_::ls,j=>hdAt ls (j+1)
theorem a1N :∀{ls:List Leaf} {j0 j b n:Nat},hdAt ls j0=some (j,b,n)→∃c,j0≤j∧ls[j-j0]? =some (.hd b n c)
 |[],j0,j,b,n,h=>by cases h
 |l::ls,j0,j,b,n,h=>by
  cases l with
  |hd b' n' c=>simp only[hdAt,Option.some.injEq,Prod.mk.injEq]at h;obtain⟨rfl,rfl,rfl⟩:=h;exact⟨c,Nat.le_refl _,by simp⟩
  |_=>
   simp only[hdAt]at h
   obtain⟨c,h1,h2⟩:=a1N h
   refine⟨c,by omega,?_⟩
   have:j-j0=(j-(j0+1))+1:=by omega
   rw[this];simpa using h2
theorem LeavesIs.set :∀{ls:List Leaf} {xs:List SV} {j:Nat} {a b:Leaf} {y:SV},LeavesIs (ls.set j a) xs→LeafIs b y→LeavesIs (ls.set j b) (xs.set j y)
 |[],xs,j,a,b,y,h,_=>by
  cases xs with
  |nil=>exact trivial
  |cons x xs=>simp[LeavesIs]at h
 |l::ls,[],j,a,b,y,h,_=>by cases j<;>simp[LeavesIs]at h
 |l::ls,x::xs,0,a,b,y,h,hy=>⟨hy,h.2⟩
 |l::ls,x::xs,j+1,a,b,y,h,hy=>⟨h.1,LeavesIs.set h.2 hy⟩
def xBuildSliceN (T:Tab)(t:TypeId)(d:Nat)(parts:List (Nat×Operand))(L:SL)(x:SV):Option Ex:=
 match T.get t with
 |none=>none
 |some ti=>match ti.sh with
  | .sl e=>match T.get e,litX L parts with
   |some te,some ps=>match fillL (fun i=>some (i*te.size,te.size)) (List.replicate (1*te.size) .hole) ps with
    |some ls=>match hdAt ls 0 with
     |some (j,b,n)=>match isNew (ls.set j (.im true x)) te.zsv with
      |some new=>bif Nat.ble te.size (2^24)&&Nat.beq new.length te.size then some ⟨oks parts,[(tk d,.lf (.nst te.size [new] 0 j b n 0))],[],[n≠0]⟩else none
      |none=>none
     |none=>none
    |none=>none
   |_,_=>none
  |_=>none
variable {parts:Array (Nat×Operand)}
theorem Q6 {t:TypeId}{x:SV}(hT:TabOK P T)(ho:o.op= .buildSlice t 1 parts)(hd:o.dst=some d)(hn:d<E.n)
 (he:xBuildSliceN T t d parts.toList L x=some ex):SoundOp P E o L ex:=by
 unfold xBuildSliceN at he
 split at he
 ·cases he
 ·rename_i ti hti
  split at he
  ·rename_i e hsh
   split at he
   ·rename_i te ps hte hps
    have hel:=(hT.get hti).elem hsh (hT.get hte)
    split at he
    ·rename_i ls hls
     split at he
     ·rename_i j b n hj
      split at he
      ·rename_i new hnew
       cases hb:Nat.ble te.size (2^24)&&Nat.beq new.length te.size with
       |false=>rw[hb]at he;cases he
       |true=>
        rw[hb]at he
        cases he
        rw[Bool.and_eq_true]at hb
        refine SoundOp.plain fun hc ν τ hτ=> ?_
        have hn0:n≠0:=hc.1
        have h1:=H3 hτ (fun k hk=>hk) hps
        have h2:=J1 (ν:=ν) _ _ _ _ hls
        rw[List.map_replicate]at h2
        obtain⟨c,-,hg⟩:=a1N hj
        rw[Nat.sub_zero]at hg
        have hnl:=Nat.eq_of_beq_eq_true hb.2
        have hjl:j<new.length:=by
         have h5:=(LeavesIs.get (E1 (ν:=fun _=>none) hnew)).1
         simp only[List.length_map,List.length_set]at h5
         rw[←h5]
         exact(List.getElem?_eq_some_iff.1 hg).1
        cases hν:ν b with
        |none=>
         refine(O9 d t e te.size te.bytes 1 parts _ _ j ho hd hn hel h1 h2 ?_)
         rw[List.getElem?_map,hg]
         simp only[Option.map_some,renL,hν,if_neg hn0]
        |some p=>
         have h3:LeavesIs (ls.map (renL ν)) [new.set j (.hd p.1 n p.2)].flatten:=by
          have h4:=E1 (ν:=ν) hnew
          rw[List.map_set]at h4
          have h5:=LeavesIs.set (b:= .hd p.1 n p.2) (y:= .hd p.1 n p.2) h4 rfl
          have h6:(ls.map (renL ν)).set j (.hd p.1 n p.2)=ls.map (renL ν):=by
           apply List.ext_getElem?
           intro q
           rw[List.getElem?_set]
           by_cases hq:j=q
           ·subst hq
            rw[if_pos rfl,if_pos (by rw[List.length_map];exact(List.getElem?_eq_some_iff.1 hg).1),List.getElem?_map,hg]
            simp only[Option.map_some,renL,hν]
           ·rw[if_neg hq]
          rw[h6]at h5
          simpa using h5
         have hst:=A5 d t e te.size te.bytes 1 parts _ _ [new.set j (.hd p.1 n p.2)] ho hd hn hel (by rw[Nat.one_mul];exact Nat.le_of_ble_eq_true hb.1) h1 h2 (by intro r hr;simp only[List.mem_singleton]at hr;subst hr;simpa using hnl) h3 rfl
         have:=a58 (d:=d) (e:=e) (sz:=te.size) (σ:=τ) (hst.mono fun τ' ⟨b',e0⟩=>⟨_,.inl ⟨b',1,rfl⟩,e0⟩)
         simp only[renW,List.map,updL,renS,renP,renL,hν]
         refine this.turn fun τ' e0=> ?_
         subst e0
         have h7:=a0m (E:=E) (σ:=upd τ (tk d) (.lf (.im true (.sl te.size [new.set j (.hd p.1 n p.2)])))) d _ (a8 ..)
         rw[j7]at h7
         exact h7
      ·cases he
     ·cases he
    ·cases he
   ·cases he
  ·cases he
variable {r:List SV}
theorem a2s {x:SV}(h:rows[i]? =some r):(putHd rows i j x)[i]? =some (r.set j x):=by
 unfold putHd;rw[List.getElem?_modify,h];simp
theorem a5b {x:SV}(h:rows[i]? =some r)(hj:j<r.length):rows.set i (cutIn r j [x])=putHd rows i j x:=by
 have e:cutIn r j [x]=r.set j x:=by rw[List.set_eq_take_append_cons_drop,if_pos hj];simp[cutIn]
 rw[e]
 unfold putHd
 apply List.ext_getElem?
 intro q
 rw[List.getElem?_modify,List.getElem?_set]
 have hi:=(List.getElem?_eq_some_iff.1 h).1
 by_cases hq:i=q
 ·subst hq;rw[if_pos rfl,if_pos hi,h];simp
 ·rw[if_neg hq];simp[hq]
theorem a2S (rows:List (List SV))(i j:Nat)(x y:SV):putHd (putHd rows i j x) i j y=putHd rows i j y:=by
 unfold putHd
 apply List.ext_getElem?
 intro q
 rw[List.getElem?_modify,List.getElem?_modify,List.getElem?_modify]
 by_cases hq:i=q
 ·subst hq;cases rows[i]? <;>simp
 ·simp[hq]
def xLoadH (T:Tab)(t d:Nat)(x:Operand)(r:List SV)(L:SL):Option Ex:=
 match T.get t,ox L x with
 |some ti,.one (.lf (.ptr b off))=>match homeB b L with
  |some (k,jb)=>match look L (ck (k/2))with
   | .own _ _ bs=>match bs[jb]? with
    |some (.mkh b' _ _ sz rows i j b2 n2)=>bif Nat.beq b' b&&(Nat.beq ti.size 1&& !ti.sh.agg)then
     some ⟨ck (k/2)::ok x,[(tk d,.lf (.hd b2 n2 0))],[],[rows[i]? =some r,r.length=sz,off=i*sz+j,j+1≤sz]⟩else none
    |_=>none
   |_=>none
  |none=>none
 |_,_=>none
variable {t:Nat} {x:Operand}
theorem a2j (hT:TabOK P T)(ho:o.op= .load t x)(hd:o.dst=some d)(hn:d<E.n)
 (he:xLoadH T t d x r L=some ex):SoundOp P E o L ex:=by
 unfold xLoadH at he
 split at he
 ·rename_i ti b off hti hx
  split at he
  ·rename_i k jb hkb
   split at he
   ·rename_i b0 ls bs hl
    split at he
    ·rename_i b' c' e' sz rows i j b2 n2 hjb
     cases hb:Nat.beq b' b&&(Nat.beq ti.size 1&& !ti.sh.agg)with
     |false=>rw[hb]at he;cases he
     |true=>
      rw[hb]at he
      cases he
      simp only[Bool.and_eq_true,Bool.not_eq_true']at hb
      obtain⟨hb1,hb2,hb3⟩:=hb
      obtain rfl:=Nat.eq_of_beq_eq_true hb1
      have hs1:=Nat.eq_of_beq_eq_true hb2
      intro hc ν τ hτ
      obtain⟨hc1,hc2,hc3,hc4,-⟩:=hc
      have h1:=i8 hτ (fun k hk=>by simp[hk]) hx
      have h2:=hτ (ck (k/2)) (by simp)
      simp only[renS,renP,renL]at h1
      simp only[den,hl,renS]at h2
      cases hν0:ν b0 with
      |none=>rw[hν0]at h2;exact Step.absurd fun g w a hr=>i6 hr h2
      |some p0=>
       rw[hν0]at h2
       simp only at h2
       have hjν:(bs.map (renB ν))[jb]? =some (renB ν (.mkh b' c' e' sz rows i j b2 n2)):=by rw[List.getElem?_map,hjb];rfl
       cases hνb:ν b' with
       |none=>refine Step.absurd fun g w a hr=>A6 (j:=jb) hr h2 (by rw[hjν];simp only[renB,hνb])
       |some p=>
        cases hν2:ν b2 with
        |none=>refine Step.absurd fun g w a hr=>A6 (j:=jb) hr h2 (by rw[hjν];simp only[renB,hνb,hν2])
        |some p2=>
         rw[hνb]at h1
         simp only[renB,hνb,hν2]at hjν
         have hty:=(hT.get hti).ty
         rw[hb3,hs1]at hty
         refine Step.turn' (N3 d t 1 false x p.1 sz i j off _ (r.set j (.hd p2.1 n2 p2.2)) ho hd hn hty (fun _=>rfl) h1 (a3s h2 hjν) (a2s hc1) hc3 hc4) ?_
         rintro τ' rfl
         intro g w a hr
         have hjr:j<r.length:=by omega
         have e9:((r.set j (.hd p2.1 n2 p2.2)).drop j).take 1=[.hd p2.1 n2 p2.2]:=by
          rw[List.drop_eq_getElem_cons (by simpa using hjr)];simp
         rw[e9]at hr
         obtain⟨g',τ2,k1,k2⟩:=a4W d p2.1 n2 p2.2 _ (a8 ..) g w a hr
         subst k1
         refine⟨g',_,⟨ν,?_⟩,k2⟩
         rw[j7]
         simp only[renW,List.map,updL,a1m,renS,renP,renL,hν2]
         exact Weak.refl _
    ·cases he
   ·cases he
  ·cases he
 ·cases he
def xStoreH (T:Tab)(t:Nat)(x y:Operand)(i j:Nat)(r:List SV)(L:SL):Option Ex:=
 match T.get t,ox L x,ox L y with
 |some ti,.one (.lf (.ptr b off)),.one (.lf (.hd b2 n2 _))=>match homeB b L with
  |some (k,jb)=>match look L (ck (k/2))with
   | .own b0 ls bs=>match bs[jb]? with
    |some (.mk b' _ e sz rows)=>bif Nat.beq b' b&&Nat.beq ti.size 1 then
     some ⟨ck (k/2)::(ok x++ok y),[(ck (k/2),.own b0 ls (bs.set jb (.mkh b 0 e sz rows i j b2 n2)))],[],[rows[i]? =some r,r.length=sz,off=i*sz+j,j+1≤sz,n2≠0]⟩else none
    |some (.mkh b' _ e sz rows i' j' _ _)=>bif Nat.beq b' b&&Nat.beq ti.size 1 then
     some ⟨ck (k/2)::(ok x++ok y),[(ck (k/2),.own b0 ls (bs.set jb (.mkh b 0 e sz rows i j b2 n2)))],[],[rows[i]? =some r,r.length=sz,off=i*sz+j,j+1≤sz,n2≠0,i'=i,j'=j]⟩else none
    |_=>none
   |_=>none
  |none=>none
 |_,_,_=>none
theorem storeH (kc jb b0:Nat)(ls:List Leaf)(bs:List Blk)(t e sz:Nat)(x y:Operand)(b c i j off q n qc:Nat)(rows:List (List SV))(r:List SV)
 (ho:o.op= .store t x y) (hd:o.dst=none) (ht:(P.info? t).map (·.size)=some 1) (hx:opd σ x= .lf (.ptr b off)) (hk:σ (ck kc)= .own b0 ls bs) (hjb:bs[jb]? =some (.mk b c e sz rows)) (hy:opd σ y= .lf (.hd q n qc))
 (hr:rows[i]? =some r) (hl:r.length=sz) (hoff:off=i*sz+j) (hj:j+1≤sz):
 Step P E o σ (·=upd σ (ck kc) (.own b0 ls (bs.set jb (.mk b c e sz (putHd rows i j (.hd q n qc)))))):=by
 have:=N0 (E:=E) kc jb b0 ls bs t e sz 1 x y b c i j off rows r [.hd q n qc] (.lf (.hd q n qc)) ho hd ht hx hk hjb hy ⟨rfl,trivial⟩ rfl rfl hr hoff hj
 rwa[a5b hr (by omega)]at this
theorem a1E (hT:TabOK P T)(ho:o.op= .store t x y)(hd:o.dst=none)
 (he:xStoreH T t x y i j r L=some ex):SoundOp P E o L ex:=by
 unfold xStoreH at he
 split at he
 ·rename_i ti b off b2 n2 c2 hti hx hy
  split at he
  ·rename_i k jb hkb
   split at he
   ·rename_i b0 ls bs hl
    have go:∀(B:Blk) (cs:List Prop) (hjb:bs[jb]? =some B) (e sz:Nat) (rows:List (List SV)),(∀ν:Nm,(renB ν B=badBlk)∨(B= .no)∨(∃p rows',ν b=some p∧renB ν B= .mk p.1 p.2 e sz rows'∧(AllP cs→∃r',rows'[i]? =some r'∧r'.length=sz∧∀z,putHd rows' i j z=putHd rows i j z))∨(ν b=none∧renB ν B= .no))→
     B≠.no→(AllP cs→off=i*sz+j∧j+1≤sz∧n2≠0)→Nat.beq ti.size 1=true→
     SoundOp P E o L ⟨ck (k/2)::(ok x++ok y),[(ck (k/2),.own b0 ls (bs.set jb (.mkh b 0 e sz rows i j b2 n2)))],[],cs⟩:=by
     intro B cs hjb e sz rows hB hno hcs hs1 hc ν τ hτ
     obtain⟨hc3,hc4,hc5⟩:=hcs hc
     have hs1:=Nat.eq_of_beq_eq_true hs1
     have h1:=i8 hτ (fun k hk=>by simp[hk]) hx
     have h3:=i8 hτ (fun k hk=>by simp[hk]) hy
     have h2:=hτ (ck (k/2)) (by simp)
     simp only[renS,renP,renL]at h1 h3
     simp only[den,hl,renS]at h2
     cases hν0:ν b0 with
     |none=>rw[hν0]at h2;exact Step.absurd fun g w a hr=>i6 hr h2
     |some p0=>
      rw[hν0]at h2
      simp only at h2
      have hjν:(bs.map (renB ν))[jb]? =some (renB ν B):=by rw[List.getElem?_map,hjb];rfl
      rcases hB ν with h|h|⟨p,rows',hp,h,h'⟩|⟨h,-⟩
      ·exact Step.absurd fun g w a hr=>A6 (j:=jb) hr h2 (by rw[hjν,h])
      ·exact absurd h hno
      ·obtain⟨r',k1,k2,k3⟩:=h' hc
       rw[hp]at h1
       rw[h]at hjν
       cases hν2:ν b2 with
       |none=>
        rw[hν2]at h3
        simp only[hc5,if_false]at h3
        exact Step.absurd fun g w a hr=>u9 hr h3
       |some p2=>
        rw[hν2]at h3
        have hty:=(hT.get hti).size_eq
        rw[hs1]at hty
        refine(storeH (k/2) jb p0.1 _ _ t e sz x y p.1 p.2 i j off p2.1 n2 p2.2 rows' r' ho hd hty h1 h2 hjν h3 k1 k2 hc3 hc4).mono fun τ' e0=>⟨ν,?_⟩
        subst e0
        simp only[renW,List.map,updL,a1m,renS,hν0,List.map_set,renB,hp,hν2,k3]
        exact Weak.refl _
      ·rw[h]at h1
       exact Step.absurd fun g w a hr=>u9 hr h1
    split at he
    ·rename_i b' c' e sz rows hjb
     cases hb:Nat.beq b' b&&Nat.beq ti.size 1 with
     |false=>rw[hb]at he;cases he
     |true=>
      rw[hb]at he
      cases he
      rw[Bool.and_eq_true]at hb
      obtain rfl:=Nat.eq_of_beq_eq_true hb.1
      refine go _ _ hjb e sz rows (fun ν=> ?_) (by intro e0;cases e0) (fun hc=>⟨hc.2.2.1,hc.2.2.2.1,hc.2.2.2.2.1⟩) hb.2
      cases hν:ν b' with
      |some p=>exact .inr (.inr (.inl ⟨p,rows,rfl,by simp only[renB,hν],fun hc=>⟨r,hc.1,hc.2.1,fun _=>rfl⟩⟩))
      |none=>
       cases rows with
       |nil=>exact .inr (.inr (.inr ⟨rfl,by simp only[renB,hν];rfl⟩))
       |cons _ _=>exact .inl (by simp only[renB,hν];rfl)
    ·rename_i b' c' e sz rows i' j' b3 n3 hjb
     cases hb:Nat.beq b' b&&Nat.beq ti.size 1 with
     |false=>rw[hb]at he;cases he
     |true=>
      rw[hb]at he
      cases he
      rw[Bool.and_eq_true]at hb
      obtain rfl:=Nat.eq_of_beq_eq_true hb.1
      refine go _ _ hjb e sz rows (fun ν=> ?_) (by intro e0;cases e0) (fun hc=>⟨hc.2.2.1,hc.2.2.2.1,hc.2.2.2.2.1⟩) hb.2
      cases hν:ν b' with
      |none=>exact .inl (by simp only[renB,hν])
      |some p=>
       cases hν3:ν b3 with
       |none=>exact .inl (by simp only[renB,hν,hν3])
       |some p3=>
        refine .inr (.inr (.inl ⟨p,_,rfl,by simp only[renB,hν,hν3];rfl,fun hc=> ?_⟩))
        obtain⟨h1,h2,-,-,-,h3,h4,-⟩:=hc
        subst h3 h4
        exact⟨_,a2s h1,by rw[List.length_set];exact h2,fun z=>a2S ..⟩
    ·cases he
   ·cases he
  ·cases he
 ·cases he
def xAppendG (T:Tab)(t d nm kk jj:Nat)(x y:Operand)(L:SL)(rows3:List (List SV)):Option Ex:=
 match T.get t,x with
 |some ti,.tmp kt=>match ti.sh with
  | .sl e=>match T.get e,ox L y,look L (ck kk)with
   |some te,.one (.lf (.im true (.sl sz2 rows2))),.own b0 ls bs=>
    bif (Nat.beq sz2 te.size&&(!Nat.beq kt d&& !Nat.beq b0 nm))&&(!ls.any (Leaf.has nm)&& !(bs.set jj .no).any (Blk.has nm))then(match look L (tk kt),bs[jj]? with
     | .one (.lf (.hd b n _)),some (.mk b' _ e' sz rows)=>bif Nat.beq sz2 sz&&(Nat.beq e' e&&Nat.beq b' b)then
      some ⟨tk kt::(ck kk::ok y),[(tk kt,Slot.hole),(ck kk,.own b0 ls (bs.set jj (.mk nm 0 e sz rows3))),(tk d,.lf (.hd nm rows3.length 0))],[nm],
       [rows++rows2=rows3,n=rows.length,(rows.length+rows2.length)*te.bytes≤140737488355328,rows.length+rows2.length≤maxLen,rows2≠[],y≠.tmp kt]⟩else none
     | .one (.lf (.im _ .nl)),some .no=>
      some ⟨tk kt::(ck kk::ok y),[(tk kt,Slot.hole),(ck kk,.own b0 ls (bs.set jj (.mk nm 0 e sz2 rows3))),(tk d,.lf (.hd nm rows3.length 0))],[nm],
       [rows2=rows3,rows2.length*te.bytes≤140737488355328,rows2.length≤maxLen,rows2≠[]]⟩
     |_,_=>none)else none
   |_,_,_=>none
  |_=>none
 |_,_=>none
variable {jj:Nat}
theorem a40 {v:Nm}{b0:Nat}{bs:List Blk}{B:Blk}{p0:Nat×Nat}(h0:ν b0=some p0)(h1:Nat.beq b0 nm=false)(h2:ls.any (Leaf.has nm)=false)(h3:(bs.set jj .no).any (Blk.has nm)=false):
 renS (setN ν [nm] v) (.own b0 ls (bs.set jj B))= .own p0.1 (ls.map (renL ν)) ((bs.map (renB ν)).set jj (renB (setN ν [nm] v) B)):=by
 have h5:setN ν [nm] v b0=some p0:=by rw[w8 (by simp only[List.mem_singleton];intro e0;subst e0;simp at h1)];exact h0
 simp only[renS,h5]
 have h6:ls.map (renL (setN ν [nm] v))=ls.map (renL ν):=List.map_congr_left fun l hl=>H9 fun b hb=>by
  simp only[List.mem_singleton]at hb;subst hb
  rw[List.any_eq_false]at h2;simpa using h2 l hl
 have h7:(bs.set jj B).map (renB (setN ν [nm] v))=(bs.map (renB ν)).set jj (renB (setN ν [nm] v) B):=by
  apply List.ext_getElem?
  intro q
  rw[List.getElem?_map,List.getElem?_set,List.getElem?_set,List.getElem?_map,List.length_map]
  by_cases hq:jj=q
  ·subst hq
   simp only[if_true]
   by_cases hl:jj<bs.length
   ·simp[hl]
   ·simp[hl]
  ·rw[if_neg hq,if_neg hq]
   cases hb:bs[q]? with
   |none=>rfl
   |some l=>
    simp only[Option.map_some,Option.some.injEq]
    refine a1S fun b hb2=> ?_
    simp only[List.mem_singleton]at hb2;subst hb2
    rw[List.any_eq_false]at h3
    have:=h3 l (List.mem_iff_getElem?.2 ⟨q,by rw[List.getElem?_set_ne hq];exact hb⟩)
    simpa using this
 rw[h6,h7]
theorem a0w {E:Env}{t d nm kk jj:Nat}{x y:Operand}{L:SL}{rows3:List (List SV)}{ex:Ex}(hT:TabOK P T)
 (ho:o.op= .call {callee:= .builtin .append,args:= #[x,y],argTypes:= #[t,t]}) (hd:o.dst=some d) (hn:d<E.n)
 (he:xAppendG T t d nm kk jj x y L rows3=some ex):SoundOp P E o L ex:=by
 unfold xAppendG at he
 split at he
 ·rename_i ti kt hti
  split at he
  ·rename_i e hsh
   split at he
   ·rename_i te sz2 rows2 b0 ls bs hte hy hl
    cases hb:(Nat.beq sz2 te.size&&(!Nat.beq kt d&& !Nat.beq b0 nm))&&(!ls.any (Leaf.has nm)&& !(bs.set jj .no).any (Blk.has nm))with
    |false=>rw[hb]at he;cases he
    |true=>
     rw[hb]at he
     simp only[cond_true]at he
     simp only[Bool.and_eq_true,Bool.not_eq_true']at hb
     obtain⟨⟨hb1,hb2,hb3⟩,hb4,hb5⟩:=hb
     have hel:=(hT.get hti).elem hsh (hT.get hte)
     rw[←Nat.eq_of_beq_eq_true hb1]at hel
     have hdk:d≠kt:=fun e0=>by rw[e0]at hb2;simp at hb2
     have fin:∀(ν:Nm) (τ:St) (p0:Nat×Nat),ν b0=some p0→∀τ',(∃b' c',τ'=upd (upd (upd τ (tk kt) Slot.hole) (ck kk) (.own p0.1 (ls.map (renL ν)) ((bs.map (renB ν)).set jj (.mk b' c' e sz2 rows3)))) (tk d) (.lf (.hd b' rows3.length c')))→
      ∃v,Weak τ' (updL τ (renW (setN ν [nm] v) [(tk kt,Slot.hole),(ck kk,.own b0 ls (bs.set jj (.mk nm 0 e sz2 rows3))),(tk d,.lf (.hd nm rows3.length 0))])):=by
      rintro ν τ p0 hν0 τ' ⟨b',c',rfl⟩
      refine⟨fun _=>some (b',c'),?_⟩
      simp only[renW,List.map,updL,a40 hν0 hb3 hb4 hb5]
      simp only[renS,renP,renL,renB,y3]
      exact Weak.refl _
     split at he
     ·rename_i b n c b' c' e' sz rows hx hjb
      cases hb9:Nat.beq sz2 sz&&(Nat.beq e' e&&Nat.beq b' b)with
      |false=>rw[hb9]at he;cases he
      |true=>
       rw[hb9]at he
       cases he
       simp only[Bool.and_eq_true]at hb9
       obtain⟨hb6,hb7,hb8⟩:=hb9
       obtain rfl:=Nat.eq_of_beq_eq_true hb6
       obtain rfl:=Nat.eq_of_beq_eq_true hb7
       obtain rfl:=Nat.eq_of_beq_eq_true hb8
       intro hc ν τ hτ
       obtain⟨hc0,hcn,hc2,hc3,hne,hyk,-⟩:=hc
       subst hc0 hcn
       have hk:=hτ (tk kt) (by simp)
       have h2:=hτ (ck kk) (by simp)
       have h3:=o8 (x:=y) hτ (fun k hk=>by simp[hk]) hy
       simp only[den,hx,renS,renP,renL]at hk
       simp only[den,hl,renS]at h2
       cases hν0:ν b0 with
       |none=>rw[hν0]at h2;exact Step.absurd fun g w a hr=>i6 hr h2
       |some p0=>
        rw[hν0]at h2
        simp only at h2
        cases hν:ν b' with
        |some q=>
         rw[hν]at hk
         simp only at hk
         have hjν:(bs.map (renB ν))[jj]? =some (.mk q.1 q.2 e' sz2 rows):=by rw[List.getElem?_map,hjb];simp only[Option.map_some,renB,hν]
         exact(X1 d t o.type e' sz2 te.bytes y kt kk p0.1 jj q.1 q.2 _ _ rows rows2 ho rfl hd hn hel h2 hjν hk hdk hyk h3 hc2 hc3).mono (fin ν τ p0 hν0)
        |none=>
         rw[hν]at hk
         simp only at hk
         cases rows with
         |cons r rs=>exact Step.absurd fun g w a hr=>A6 (j:=jj) hr h2 (by rw[List.getElem?_map,hjb];simp only[Option.map_some,renB,hν];rfl)
         |nil=>
          have hk:τ (tk kt)= .lf .nil:=by rw[hk];simp
          have hjν:(bs.map (renB ν))[jj]? =some .no:=by rw[List.getElem?_map,hjb];simp only[Option.map_some,renB,hν];rfl
          refine(D6 d t o.type e' sz2 te.bytes (.tmp kt) y kk p0.1 jj _ _ rows2 ho rfl hd hn hel h2 hjν (fun g w a hr=>⟨none,J5 hr (x:= .tmp kt) hk⟩) h3 hne (by simpa using hc2) (by simpa using hc3) (.inl rfl)).mono fun τ' ⟨b2,c2,e0⟩=> ?_
          obtain⟨v,hv⟩:=fin ν τ p0 hν0 _ ⟨b2,c2,rfl⟩
          refine⟨v,Weak.trans ?_ hv⟩
          subst e0
          exact z0 (z0 (fun q=>by
           by_cases e1:q=tk kt
           ·subst e1;right;rw[a8]
           ·left;rw[d4 _ _ e1]) _ _) _ _
     ·rename_i sh hx hjb
      cases he
      intro hc ν τ hτ
      obtain⟨hc0,hc2,hc3,hne,-⟩:=hc
      subst hc0
      have hk:=hτ (tk kt) (by simp)
      have h2:=hτ (ck kk) (by simp)
      have h3:=o8 (x:=y) hτ (fun k hk=>by simp[hk]) hy
      simp only[den,hx,renS,renP,renL]at hk
      simp only[den,hl,renS]at h2
      cases hν0:ν b0 with
      |none=>rw[hν0]at h2;exact Step.absurd fun g w a hr=>i6 hr h2
      |some p0=>
       rw[hν0]at h2
       simp only at h2
       have hjν:(bs.map (renB ν))[jj]? =some .no:=by rw[List.getElem?_map,hjb];rfl
       refine(D6 d t o.type e sz2 te.bytes (.tmp kt) y kk p0.1 jj _ _ rows2 ho rfl hd hn hel h2 hjν (fun g w a hr=>SRep.nl_form (E7 hr (x:= .tmp kt) hk)) h3 hne hc2 hc3 (.inl rfl)).mono fun τ' ⟨b2,c2,e0⟩=> ?_
       obtain⟨v,hv⟩:=fin ν τ p0 hν0 _ ⟨b2,c2,rfl⟩
       refine⟨v,Weak.trans ?_ hv⟩
       subst e0
       exact z0 (z0 (fun q=>by
        by_cases e1:q=tk kt
        ·subst e1;right;rw[a8]
        ·left;rw[d4 _ _ e1]) _ _) _ _
     ·cases he
   ·cases he
  ·cases he
 ·cases he
def xAppendGN (T:Tab)(t d nm kk jj:Nat)(x y:Operand)(L:SL):Option Ex:=
 match T.get t,x with
 |some ti,.tmp kt=>match ti.sh with
  | .sl e=>match T.get e,ox L y,look L (ck kk)with
   |some te,.one (.lf (.nst sz2 rows2 i j b2 n2 _)),.own b0 ls bs=>
    bif (Nat.beq sz2 te.size&&(!Nat.beq kt d&&(!Nat.beq b0 nm&& !Nat.beq b2 nm)))&&(!ls.any (Leaf.has nm)&& !(bs.set jj .no).any (Blk.has nm))then(match look L (tk kt),bs[jj]? with
     | .one (.lf (.im _ .nl)),some .no=>
      some ⟨tk kt::(ck kk::ok y),[(tk kt,Slot.hole),(ck kk,.own b0 ls (bs.set jj (.mkh nm 0 e sz2 rows2 i j b2 n2))),(tk d,.lf (.hd nm rows2.length 0))],[nm],
       [∀b n c,ScalarH (putHd rows2 i j (.hd b n c)),rows2.length*te.bytes≤140737488355328,rows2.length≤maxLen,rows2≠[]]⟩
     |_,_=>none)else none
   |_,_,_=>none
  |_=>none
 |_,_=>none
theorem Z4 {E:Env}{t d nm kk jj:Nat}{x y:Operand}{L:SL}{ex:Ex}(hT:TabOK P T)
 (ho:o.op= .call {callee:= .builtin .append,args:= #[x,y],argTypes:= #[t,t]}) (hd:o.dst=some d) (hn:d<E.n)
 (he:xAppendGN T t d nm kk jj x y L=some ex):SoundOp P E o L ex:=by
 unfold xAppendGN at he
 split at he
 ·rename_i ti kt hti
  split at he
  ·rename_i e hsh
   split at he
   ·rename_i te sz2 rows2 i j b2 n2 c2 b0 ls bs hte hy hl
    cases hb:(Nat.beq sz2 te.size&&(!Nat.beq kt d&&(!Nat.beq b0 nm&& !Nat.beq b2 nm)))&&(!ls.any (Leaf.has nm)&& !(bs.set jj .no).any (Blk.has nm))with
    |false=>rw[hb]at he;cases he
    |true=>
     rw[hb]at he
     simp only[cond_true]at he
     simp only[Bool.and_eq_true,Bool.not_eq_true']at hb
     obtain⟨⟨hb1,hb2,hb3,hb6⟩,hb4,hb5⟩:=hb
     have hel:=(hT.get hti).elem hsh (hT.get hte)
     rw[←Nat.eq_of_beq_eq_true hb1]at hel
     split at he
     ·rename_i sh hx hjb
      cases he
      intro hc ν τ hτ
      obtain⟨hsc,hc2,hc3,hne,-⟩:=hc
      have hk:=hτ (tk kt) (by simp)
      have h2:=hτ (ck kk) (by simp)
      have h3:=i8 (x:=y) hτ (fun k hk=>by simp[hk]) hy
      simp only[den,hx,renS,renP,renL]at hk
      simp only[den,hl,renS]at h2
      simp only[renS,renP,renL]at h3
      cases hν0:ν b0 with
      |none=>rw[hν0]at h2;exact Step.absurd fun g w a hr=>i6 hr h2
      |some p0=>
       cases hν2:ν b2 with
       |none=>rw[hν2]at h3;exact Step.absurd fun g w a hr=>u9 hr h3
       |some p2=>
        rw[hν0]at h2
        rw[hν2]at h3
        simp only at h2 h3
        have hjν:(bs.map (renB ν))[jj]? =some .no:=by rw[List.getElem?_map,hjb];rfl
        have hlen:(putHd rows2 i j (.hd p2.1 n2 p2.2)).length=rows2.length:=by simp[putHd]
        refine(D6 d t o.type e sz2 te.bytes (.tmp kt) y kk p0.1 jj _ _ _ ho rfl hd hn hel h2 hjν (fun g w a hr=>SRep.nl_form (E7 hr (x:= .tmp kt) hk)) h3 (fun e0=>hne (by rw[←List.length_eq_zero_iff,←hlen,e0];rfl)) (by rw[hlen];exact hc2) (by rw[hlen];exact hc3) (.inr (hsc _ _ _))).mono fun τ' ⟨b',c',e0⟩=> ?_
        subst e0
        refine⟨fun _=>some (b',c'),?_⟩
        have h9:setN ν [nm] (fun _=>some (b',c')) b2=some p2:=by rw[w8 (by simp only[List.mem_singleton];intro e0;subst e0;simp at hb6)];exact hν2
        simp only[renW,List.map,updL,a40 hν0 hb3 hb4 hb5]
        simp only[renS,renP,renL,renB,y3,h9,hlen]
        exact z0 (z0 (fun q=>by
         by_cases e1:q=tk kt
         ·subst e1;right;rw[a8]
         ·left;rw[d4 _ _ e1]) _ _) _ _
     ·cases he
   ·cases he
  ·cases he
 ·cases he
theorem a51 {w:World}(h:Rel E g w a σ)(hx:opd σ x= .one p)(hj:p.leaves[j]? =some badLeaf):False:=by
 have h6:=o9 h x
 rw[hx]at h6
 cases p with
 |lf l=>
  cases j with
  |zero=>simp[Part.leaves]at hj;subst hj;exact y8 (k:=0) (i:=0) (j:=0) h6
  |succ j=>simp[Part.leaves]at hj
 |agg ls=>
  obtain⟨cs,_,hl⟩:=h6
  have hj:ls[j]? =some badLeaf:=hj
  have hlt:j<cs.size:=by rw[hl.1];exact(List.getElem?_eq_some_iff.1 hj).1
  exact y8 (hl.2 j _ _ hj (Array.getElem?_eq_getElem hlt))
def xStoreN (T:Tab)(t:TypeId)(x y:Operand)(L:SL)(i:Nat)(r:List SV)(z:SV):Option Ex:=
 match T.get t,ox L x,ox L y with
 |some ti,.one (.lf (.ptr b off)),.one p=>match home b L,hdAt p.leaves 0 with
  |some k,some (j,b2,n2)=>match look L (tk (k/2)),isNew (p.leaves.set j (.im true z)) r with
   | .one (.lf (.u b' _ e sz rows)),some new=>bif Nat.beq b' b&&(Nat.beq new.length ti.size&&(Nat.beq k (2*(k/2))&&Nat.beq ti.size sz))then
    some ⟨tk (k/2)::(ok x++ok y),[(tk (k/2),.lf (.nst sz (rows.set i new) i j b2 n2 0))],[],[rows[i]? =some r,r.length=sz,off=i*sz,n2≠0]⟩else none
   |_,_=>none
  |_,_=>none
 |_,_,_=>none
theorem a1C {z:SV}(hT:TabOK P T)(ho:o.op= .store t x y)(hd:o.dst=none)
 (he:xStoreN T t x y L i r z=some ex):SoundOp P E o L ex:=by
 unfold xStoreN at he
 split at he
 ·rename_i ti b off p hti hx hy
  split at he
  ·rename_i k j b2 n2 hk hj
   split at he
   ·rename_i b' c e sz rows new hu hnew
    cases hb:Nat.beq b' b&&(Nat.beq new.length ti.size&&(Nat.beq k (2*(k/2))&&Nat.beq ti.size sz))with
    |false=>rw[hb]at he;cases he
    |true=>
     rw[hb]at he
     cases he
     simp only[Bool.and_eq_true]at hb
     obtain⟨hb1,hb2,hb3,hb4⟩:=hb
     obtain rfl:=Nat.eq_of_beq_eq_true hb1
     have hsz:=Nat.eq_of_beq_eq_true hb4
     have hnl:=Nat.eq_of_beq_eq_true hb2
     refine SoundOp.plain fun hc ν τ hτ=> ?_
     obtain⟨hc1,hc2,hc3,hn0,-⟩:=hc
     have h:=i8 hτ (fun k hk=>by simp[hk]) hx
     have hy':=i8 hτ (fun k hk=>by simp[hk]) hy
     have h2:=hτ (tk (k/2)) (by simp)
     simp only[den,hu,renS,renP,renL]at h2
     simp only[renS,renP,renL]at h
     simp only[renS]at hy'
     obtain⟨c9,-,hg⟩:=a1N hj
     rw[Nat.sub_zero]at hg
     have hjl:j<new.length:=by
      have h5:=(LeavesIs.get (E1 (ν:=fun _=>none) hnew)).1
      simp only[List.length_map,List.length_set]at h5
      rw[←h5]
      exact(List.getElem?_eq_some_iff.1 hg).1
     cases hν:ν b' with
     |none=>rw[hν]at h;exact Step.absurd fun g w a hr=>u9 hr h
     |some q=>
      rw[hν]at h h2
      cases hν2:ν b2 with
      |none=>
       refine Step.absurd fun g w a hr=> ?_
       exact a51 hr hy' (j:=j) (by rw[i7,List.getElem?_map,hg];simp only[Option.map_some,renL,hν2,if_neg hn0])
      |some p2=>
       have his:LeavesIs (renP ν p).leaves (new.set j (.hd p2.1 n2 p2.2)):=by
        rw[i7]
        have h4:=E1 (ν:=ν) hnew
        rw[List.map_set]at h4
        have h5:=LeavesIs.set (b:= .hd p2.1 n2 p2.2) (y:= .hd p2.1 n2 p2.2) h4 rfl
        have h6:(p.leaves.map (renL ν)).set j (.hd p2.1 n2 p2.2)=p.leaves.map (renL ν):=by
         apply List.ext_getElem?
         intro q
         rw[List.getElem?_set]
         by_cases hq:j=q
         ·subst hq
          rw[if_pos rfl,if_pos (by rw[List.length_map];exact(List.getElem?_eq_some_iff.1 hg).1),List.getElem?_map,hg]
          simp only[Option.map_some,renL,hν2]
         ·rw[if_neg hq]
        rw[h6]at h5
        exact h5
       have hty:=(hT.get hti).size_eq
       have hst:=U4 (P:=P) (E:=E) (o:=o) (k/2) t e sz ti.size x y q.1 q.2 i 0 off rows r (new.set j (.hd p2.1 n2 p2.2)) (renP ν p) ho hd hty h h2 hy' his (by rw[List.length_set];exact hnl) (a2V (by rw[i7];exact S2 (by rw[←i7];exact his))) hc1 (by rw[hc3];rfl) (by omega)
       simp only[renW,List.map,updL,renS,renP,renL,hν2]
       refine Step.turn' hst ?_
       rintro τ' rfl
       intro g w a hr
       obtain⟨g',τ2,k1,k2⟩:=C0 (k/2) q.1 q.2 e sz _ (a8 ..) g w a hr
       subst k1
       obtain⟨g2,τ3,k3,k4⟩:=a0m (k/2) _ (a8 ..) g' w a k2
       subst k3
       refine⟨g2,_,?_,k4⟩
       rw[j7,j7]
       have e9:rows.set i (cutIn r 0 (new.set j (.hd p2.1 n2 p2.2)))=putHd (rows.set i new) i j (.hd p2.1 n2 p2.2):=by
        have hi:=(List.getElem?_eq_some_iff.1 hc1).1
        have e8:cutIn r 0 (new.set j (.hd p2.1 n2 p2.2))=new.set j (.hd p2.1 n2 p2.2):=by
         simp only[cutIn,List.take_zero,List.nil_append,Nat.zero_add,List.length_set]
         rw[List.drop_of_length_le (by omega),List.append_nil]
        rw[e8]
        unfold putHd
        apply List.ext_getElem?
        intro u
        rw[List.getElem?_modify,List.getElem?_set,List.getElem?_set]
        by_cases hq:i=u
        ·subst hq;simp[hi]
        ·rw[if_neg hq,if_neg hq];simp[hq]
       rw[e9]
   ·cases he
  ·cases he
 ·cases he
def CallGX (P:Program)(f:FuncId)(args:List Part)(o o' s:Slot):Prop:=
 ∀ν:Nm,CallU P f (args.map (renP ν)) (renS ν o) (fun so' s'=>∃ν':Nm,ν' obN=ν obN∧so'=renS ν' o'∧s'=renS ν' s) none
def partsG (L:SL):List Operand→Option (List Part)
 |[]=>some []
 |x::xs=>match ox L x,partsG L xs with
  | .one p,some ps=>bif p.bare then some (p::ps)else none
  |_,_=>none
theorem N8 {ν:Nm}{L:SL}{τ:St}{R:List Nat}(hτ:∀k∈R,τ k=den ν L k):∀{xs:List Operand} {ps:List Part},(∀k∈oksX xs,k∈R)→partsG L xs=some ps→opPartsU τ xs=some (ps.map (renP ν))
 |[],ps,_,h=>by cases h;rfl
 |x::xs,ps,hR,h=>by
  simp only[partsG]at h
  split at h
  ·rename_i p ps' h1 h2
   cases hb:p.bare with
   |false=>rw[hb]at h;cases h
   |true=>
    rw[hb]at h
    cases h
    have e1:=i8 hτ (fun k hk=>hR k (by simp[oksX,hk])) h1
    have e2:=N8 hτ (fun k hk=>hR k (by simp[oksX,hk])) h2
    simp only[renS]at e1
    simp only[opPartsU,e1,e2,A0 (ν:=ν) hb,if_true,List.map_cons]
  ·cases h
def mapP (f:Nat→Nat):Part→Part
 | .lf l=> .lf (V.mapN f l)
 | .agg ls=> .agg (ls.map (V.mapN f))
theorem a5c (ν:Nm)(f:Nat→Nat)(p:Part):renP ν (mapP f p)=renP (fun b=>ν (f b)) p:=by
 cases p with
 |lf l=>simp only[mapP,renP,J0]
 |agg ls=>simp only[mapP,renP,List.map_map];congr 1;exact List.map_congr_left fun l _=>J0 ν f l
def namesG :List Blk→List Nat
 |[]=>[]
 | .mk b _ _ _ _::bs=>b::namesG bs
 | .mkh b _ _ _ _ _ _ _ _::bs=>b::namesG bs
 | .no::bs=>namesG bs
def xCallG (P:Program)(d:Nat)(f:FuncId)(xs:List Operand)(L:SL)(k:Nat)(o' s:Slot)(qs ns:List Nat):Option Ex:=
 match look L (ck k),partsG L xs with
 | .own b ls bs,some ps=>
  bif ((ps.all (Part.within (b::namesG bs))&&(bs.all (Blk.within (b::namesG bs))))&&(o'.firmO&&(s.bare&&(o'.within (obN::qs)&&s.within (obN::qs)))))&&
   ((nodupN (b::namesG bs)&&(nodupN (obN::qs)&&nodupN (b::ns)))&&(Nat.beq qs.length ns.length&&(!inN ns apN&& !Nat.beq b apN)))then
   some ⟨ck k::oksX xs,[(ck k,o'.mapN fun i=>atN (b::ns) (posN (obN::qs) i)),(tk d,s.mapN fun i=>atN (b::ns) (posN (obN::qs) i))],apN::ns,
    [Text P f,CallGX P f (ps.map (mapP (posO (b::namesG bs)))) ((Slot.own b (ls.map fun _=> .hole) bs).mapN (posO (b::namesG bs))) o' s]⟩else none
 |_,_=>none
theorem a2i {P:Program}{E:Env}{d:Nat}{f:FuncId}{xs:Array Operand}{ats:Array TypeId}{L:SL}{k:Nat}{o' s:Slot}{qs ns:List Nat}{ex:Ex}
 (ho:o.op= .call {callee:= .value (.func f),args:=xs,argTypes:=ats}) (hd:o.dst=some d) (hn:d<E.n)
 (he:xCallG P d f xs.toList L k o' s qs ns=some ex):SoundK P E o L ex:=by
 unfold xCallG at he
 split at he
 ·rename_i b ls bs ps hl hps
  generalize hms:namesG bs=ms at he
  cases hb:((ps.all (Part.within (b::ms))&&(bs.all (Blk.within (b::ms))))&&(o'.firmO&&(s.bare&&(o'.within (obN::qs)&&s.within (obN::qs)))))&&
   ((nodupN (b::ms)&&(nodupN (obN::qs)&&nodupN (b::ns)))&&(Nat.beq qs.length ns.length&&(!inN ns apN&& !Nat.beq b apN)))with
  |false=>rw[hb]at he;cases he
  |true=>
   rw[hb]at he
   cases he
   simp only[Bool.and_eq_true,Bool.not_eq_true']at hb
   obtain⟨⟨⟨hb1,hb2⟩,hb3,hb4,hb5,hb6⟩,⟨hb7,hb8,hb9⟩,hb10,hb11,hb12⟩:=hb
   have hlen:=Nat.eq_of_beq_eq_true hb10
   intro hc ν τ hτ
   show Step P E o τ fun τ'=>∃v:Nm,Weak τ' (updL (sweep (apN::ns) τ) (renW (setN ν (apN::ns) v) _))
   rw[I6 _ _ (by simp[inN])]
   have hcell:=hτ (ck k) (by simp)
   simp only[den,hl]at hcell
   let νs:Nm:=fun i=>ν (atO (b::ms) i)
   have e0:atO (b::ms) obN=b:=by unfold atO;rw[Nat.sub_self];rfl
   have hob:νs obN=ν b:=congrArg ν e0
   have hso:renS νs ((Slot.own b (ls.map fun _=> .hole) bs).mapN (posO (b::ms)))=renS ν (.own b (ls.map fun _=> .hole) bs):=by
    rw[u6]
    refine r7 (nm:=b::ms) ?_ fun x hx=> ?_
    ·simp only[Slot.within,Bool.and_eq_true]
     exact⟨by simp[inN],List.all_eq_true.2 fun l hl=>by obtain⟨_,_,rfl⟩:=List.mem_map.1 hl;rfl,hb2⟩
    ·show ν (atO _ _)=_
     rw[P5 hx]
   have hpp:(ps.map (mapP (posO (b::ms)))).map (renP νs)=ps.map (renP ν):=by
    rw[List.map_map]
    refine List.map_congr_left fun p hp=> ?_
    rw[Function.comp_apply,a5c]
    refine R9 (List.all_eq_true.1 hb1 p hp) fun x hx=> ?_
    show ν (atO _ _)=_
    rw[P5 hx]
   have hcall:=hc.2.1 νs
   rw[hso,hpp]at hcall
   simp only[renS]at hcell
   cases hνb:ν b with
   |none=>rw[hνb]at hcell;exact Step.absurd fun g w a hr=>i6 hr hcell
   |some p0=>
    rw[hνb]at hcell
    simp only at hcell
    have e1:renS ν (.own b (ls.map fun _=> .hole) bs)= .own p0.1 ((ls.map (renL ν)).map fun _=> .hole) (bs.map (renB ν)):=by
     simp only[renS,hνb,List.map_map]
     congr 1
    rw[e1]at hcall
    refine Step.pre (a4k k p0.1 _ _ hcell) ?_
    have hops:opPartsU (upd τ (ck k) (.own p0.1 ((ls.map (renL ν)).map fun _=> .hole) (bs.map (renB ν)))) xs.toList=some (ps.map (renP ν)):=by
     have h1:=N8 hτ (fun k hk=>by simp[hk]) hps
     rw[←h1]
     have:∀l:List Operand,opPartsU (upd τ (ck k) (.own p0.1 ((ls.map (renL ν)).map fun _=> .hole) (bs.map (renB ν)))) l=opPartsU τ l:=fun l=>by
      induction l with
      |nil=>rfl
      |cons x xs ih=>simp only[opPartsU,ih,z4 fun t' _ e1=>(v7 _ _) e1]
     exact this _
    refine(M2 d k f xs ats _ _ _ none [] ho hd hn hc.1 (.inl (a8 ..).symm) hops hcall ?_ ?_ (fun q kt e=>by cases e)).mono ?_
    ·rintro so' s' ⟨ν',h0,rfl,rfl⟩
     exact⟨G6 hb4,u7 hb3⟩
    ·show(((ls.map (renL ν)).map fun _=>Leaf.hole).all Leaf.firm)=true
     exact List.all_eq_true.2 fun l hl=>by obtain⟨_,_,rfl⟩:=List.mem_map.1 hl;rfl
    ·rintro τ' ⟨so',s',⟨ν',h0,rfl,rfl⟩,rfl⟩
     let v:Nm:=fun x=>ν' (atN (obN::qs) (posN (b::ns) x))
     have key:∀i∈obN::qs,setN ν (apN::ns) v (atN (b::ns) (posN (obN::qs) i))=ν' i:=fun i hi=>by
      have hp:posN (obN::qs) i<(b::ns).length:=by
       have hlt:∀{l:List Nat} {x:Nat},x∈l→posN l x<l.length:=fun{l x} h=>by
        induction l with
        |nil=>cases h
        |cons y ys ih=>
         simp only[posN]
         cases ey:Nat.beq y x with
         |true=>simp
         |false=>
          rcases List.mem_cons.1 h with rfl|h
          ·simp at ey
          ·have:=ih h;simpa using this
       have:=hlt hi
       simp only[List.length_cons]at this⊢
       omega
      cases hq:posN (obN::qs) i with
      |zero=>
       have hi0:i=obN:=by
        have:=V8 hi
        rw[hq]at this
        exact this.symm
       show setN ν (apN::ns) v b=_
       rw[w8 ?_,hi0,h0,hob]
       intro hm
       rcases List.mem_cons.1 hm with e|hm
       ·rw[e]at hb12;simp at hb12
       ·simp only[nodupN,Bool.and_eq_true,Bool.not_eq_true']at hb9
        rw[u2.2 hm]at hb9;cases hb9.1
      |succ q=>
       rw[hq]at hp
       have hin:atN (b::ns) (q+1)∈ns:=O3 (ns:=ns) (by simpa using hp)
       rw[F0 (List.mem_cons_of_mem _ hin)]
       show ν' (atN (obN::qs) (posN (b::ns) (atN (b::ns) (q+1))))=_
       rw[Q7 hb9 hp,←hq,V8 hi]
     refine⟨v,?_⟩
     simp only[renW,List.map,updL,keptS]
     rw[u6,r7 hb5 key,u6,r7 hb6 key]
     refine z0 ?_ _ _
     intro q
     by_cases e2:q=ck k
     ·subst e2;left;rw[a8,a8]
     ·left
      rw[d4 _ _ e2,d4 _ _ e2]
      unfold still
      rw[d4 _ _ e2]
 ·cases he
def CallPX (P:Program)(f:FuncId)(args:List Part)(ls:List Leaf):Prop:=CallU P f args Slot.hole (fun so' s'=>∃b,so'= .cell b ls∧s'= .lf (.ptr b 0)) none
def xCallP (P:Program)(d:Nat)(f:FuncId)(xs:List Operand)(L:SL)(ls:List Leaf)(nm:Nat):Option Ex:=
 match partsG L xs with
 |some ps=>bif ls.all Leaf.closed&&(ps.all Part.closed&& !Nat.beq nm apN)then
  some ⟨oksX xs,[(ck d,.cell nm ls),(tk d,.lf (.ptr nm 0))],[apN,nm],[Text P f,CallPX P f ps ls]⟩else none
 |none=>none
theorem a2r {P:Program}{E:Env}{d:Nat}{f:FuncId}{xs:Array Operand}{ats:Array TypeId}{L:SL}{ls:List Leaf}{nm:Nat}{ex:Ex}
 (ho:o.op= .call {callee:= .value (.func f),args:=xs,argTypes:=ats}) (hd:o.dst=some d) (hn:d<E.n)
 (he:xCallP P d f xs.toList L ls nm=some ex):SoundK P E o L ex:=by
 unfold xCallP at he
 split at he
 ·rename_i ps hps
  cases hb:ls.all Leaf.closed&&(ps.all Part.closed&& !Nat.beq nm apN)with
  |false=>rw[hb]at he;cases he
  |true=>
   rw[hb]at he
   cases he
   simp only[Bool.and_eq_true,Bool.not_eq_true']at hb
   obtain⟨hb1,hb2,hb3⟩:=hb
   intro hc ν τ hτ
   show Step P E o τ fun τ'=>∃v:Nm,Weak τ' (updL (sweep [apN,nm] τ) (renW (setN ν [apN,nm] v) _))
   rw[I6 _ _ (by simp[inN])]
   have hops:=N8 hτ (fun k hk=>hk) hps
   rw[D5 fun p hp=>n7 (List.all_eq_true.1 hb2 p hp)]at hops
   refine(M2 d d f xs ats ps Slot.hole _ none [] ho hd hn hc.1 (.inr rfl) hops hc.2.1 ?_ rfl (fun q kt e=>by cases e)).mono ?_
   ·rintro so' s' ⟨b,rfl,rfl⟩
    refine⟨rfl,?_⟩
    show ls.all Leaf.firm=true
    exact List.all_eq_true.2 fun l hl=>Leaf.closed_firm (List.all_eq_true.1 hb1 l hl)
   ·rintro τ' ⟨so',s',⟨b,rfl,rfl⟩,rfl⟩
    refine⟨fun _=>some (b,0),?_⟩
    have e1:setN ν [apN,nm] (fun _=>some (b,0)) nm=some (b,0):=F0 (by simp)
    simp only[renW,List.map,updL,renS,renP,renL,e1,keptS,D5 fun l hl=>y7 (List.all_eq_true.1 hb1 l hl)]
    exact Weak.refl _
 ·cases he
theorem a6b (t b e sz:Nat)(hx:σ (tk t)= .lf (.u b 0 e sz [])):Turn E σ (·=upd σ (tk t) (.lf (.im true .nl))):=by
 intro g w a h
 have hs:=h.slot t
 rw[hx]at hs
 refine⟨g,_,rfl,h.putSlot t _ ?_⟩
 have hv:a.tmps.getD t undef= .slice (some ⟨b,0,none⟩) 0 0:=hs.1
 rw[hv]
 exact SRep.nl _
def xBuildNl (T:Tab)(t d:Nat)(parts:List (Nat×Operand)):Option Ex:=
 match T.get t,parts with
 |some ti,[]=>match ti.sh with
  | .sl e=>match T.get e with
   |some _=>some ⟨[],[(tk d,.lf (.im true .nl))],[],[]⟩
   |none=>none
  |_=>none
 |_,_=>none
theorem a0y (hT:TabOK P T)(ho:o.op= .buildSlice t 0 parts)(hd:o.dst=some d)(hn:d<E.n)
 (he:xBuildNl T t d parts.toList=some ex):SoundOp P E o L ex:=by
 generalize hp:parts.toList=l at he
 unfold xBuildNl at he
 split at he
 ·rename_i ti hti
  split at he
  ·rename_i e hsh
   split at he
   ·rename_i te hte
    cases he
    have hel:=(hT.get hti).elem hsh (hT.get hte)
    intro hc ν τ hτ
    refine Step.turn' (A5 d t e te.size te.bytes 0 parts [] [] [] ho hd hn hel (by simp) (by rw[hp];rfl) (by simp[fillL]) (by intro r hr;cases hr) trivial rfl) ?_
    rintro τ' ⟨b,rfl⟩
    intro g w a hr
    obtain⟨g',τ2,k1,k2⟩:=a6b d b e te.size (a8 ..) g w a hr
    subst k1
    refine⟨g',_,⟨ν,?_⟩,k2⟩
    rw[j7]
    simp only[renW,List.map,updL,a1m,renS,renP,renL]
    exact Weak.refl _
   ·cases he
  ·cases he
 ·cases he
def isNewZ :List Leaf→Option (List SV)
 |[]=>some []
 | .im true v::ls=>match isNewZ ls with
  |some r=>some (v::r)
  |none=>none
 | .nil::ls=>match isNewZ ls with
  |some r=>some (.nl::r)
  |none=>none
 |_::_=>none
theorem a0f {ν:Nm}:∀{ls:List Leaf} {new:List SV},isNewZ ls=some new→LeavesIs (ls.map (renL ν)) new
 |[],new,h=>by cases h;trivial
 | .im true v::ls,new,h=>by
  simp only[isNewZ]at h
  split at h
  ·rename_i r hr;cases h;exact⟨rfl,a0f hr⟩
  ·cases h
 | .nil::ls,new,h=>by
  simp only[isNewZ]at h
  split at h
  ·rename_i r hr;cases h;exact⟨trivial,a0f hr⟩
  ·cases h
 | .im false v::ls,new,h=>by simp[isNewZ]at h
 | .u .. ::ls,new,h=>by simp[isNewZ]at h
 | .ap .. ::ls,new,h=>by simp[isNewZ]at h
 | .ul .. ::ls,new,h=>by simp[isNewZ]at h
 | .hd .. ::ls,new,h=>by simp[isNewZ]at h
 | .ptr .. ::ls,new,h=>by simp[isNewZ]at h
 | .sref .. ::ls,new,h=>by simp[isNewZ]at h
 | .nst .. ::ls,new,h=>by simp[isNewZ]at h
 | .hole::ls,new,h=>by simp[isNewZ]at h
def xBuildZ (T:Tab)(t d n:Nat)(parts:List (Nat×Operand))(L:SL)(rows3:List (List SV)):Option Ex:=
 match T.get t with
 |none=>none
 |some ti=>match ti.sh with
  | .sl e=>match T.get e,litX L parts with
   |some te,some ps=>match fillL (fun i=>some (i*te.size,te.size)) (List.replicate (n*te.size) .hole) ps with
    |some ls=>match isNewZ ls with
     |some new=>bif Nat.ble (n*te.size) (2^24)&&Nat.beq new.length (n*te.size)then newU d (oks parts) [] d e te.size (chunks te.size n new) [] (some (.slot (.one (.lf (.im true (.sl te.size rows3))))))else none
     |none=>none
    |none=>none
   |_,_=>none
  |_=>none
variable {rows3:List (List SV)}
theorem a1Q (hT:TabOK P T)(ho:o.op= .buildSlice t n parts)(hd:o.dst=some d)(hn:d<E.n)
 (he:xBuildZ T t d n parts.toList L rows3=some ex):SoundOp P E o L ex:=by
 unfold xBuildZ at he
 split at he
 ·cases he
 ·rename_i ti hti
  split at he
  ·rename_i e hsh
   split at he
   ·rename_i te ps hte hps
    have hel:=(hT.get hti).elem hsh (hT.get hte)
    split at he
    ·rename_i ls hls
     split at he
     ·rename_i new hnew
      cases hb:Nat.ble (n*te.size) (2^24)&&Nat.beq new.length (n*te.size)with
      |false=>rw[hb]at he;cases he
      |true=>
       rw[hb]at he
       simp only[cond_true]at he
       rw[Bool.and_eq_true]at hb
       obtain⟨c1,c2,c3⟩:=P0 (Nat.eq_of_beq_eq_true hb.2)
       refine a05 he fun _ ν τ hτ=> ?_
       have h1:=H3 hτ (fun k hk=>hk) hps
       have h2:=J1 (ν:=ν) _ _ _ _ hls
       rw[List.map_replicate]at h2
       refine(A5 d t e te.size te.bytes n parts _ _ (chunks te.size n new) ho hd hn hel (Nat.le_of_ble_eq_true hb.1) h1 h2 c3 (by rw[c1];exact a0f hnew) c2).mono fun τ' ⟨b,hb⟩=>⟨b,n,hb⟩
     ·cases he
    ·cases he
   ·cases he
  ·cases he
def execW (P:Program)(T:Tab)(n:Nat)(o:Oper)(L:SL)(w:Option Wit):Option Ex:=
 match o.dst with
 |none=>(match o.op,w with
  | .store t x y,some (.hst i j r)=>xStoreH T t x y i j r L
  | .store t x y,some (.nsw [r] i z)=>xStoreN T t x y L i r z
  |_,_=>none)
 |some d=>bif Nat.blt d n then(match o.op,w with
  | .load t x,some (.hel r)=>xLoadH T t d x r L
  | .call {callee:= .builtin .append,args:=⟨[x,y]⟩,argTypes:=⟨[t,t']⟩},some (.gap nm k j rows)=>bif Nat.beq t' t then(match xAppendG T t d nm k j x y L rows with|some ex=>some ex|none=>xAppendGN T t d nm k j x y L)else none
  | .call {callee:= .value (.func f),args:=xs,argTypes:=_},some (.cg k o' s qs ns)=>xCallG P d f xs.toList L k o' s qs ns
  | .call {callee:= .builtin .append,args:=⟨[x,y]⟩,argTypes:=⟨[t,t']⟩},some (.apw nm rows rs)=>bif Nat.beq t' t then xAppendW T t d nm rows rs x y L else none
  | .call {callee:= .builtin .append,args:=⟨[x,y]⟩,argTypes:=⟨[t,t']⟩},some (.nsw rows i _)=>bif Nat.beq t' t then xAppendN T t d x y L rows i else none
  | .call {callee:= .builtin .append,args:=⟨[x,y]⟩,argTypes:=⟨[t,t']⟩},some (.lnt rows)=>bif Nat.beq t' t then(match xAppendL T t d x y L rows with|some ex=>some ex|none=>xAppendB T t d x y L rows)else none
  | .call {callee:= .builtin .append,args:=⟨[x,y]⟩,argTypes:=⟨[t,t']⟩},w=>bif Nat.beq t' t then xAppendH T t d x y L w else none
  | .buildSlice t 0 parts,some (.slot (.one (.lf (.im true .nl))))=>xBuildNl T t d parts.toList
  | .buildSlice t n parts,some (.lnt rows)=>xBuildZ T t d n parts.toList L rows
  | .buildSlice t 1 parts,some (.nsw _ _ x)=>xBuildSliceN T t d parts.toList L x
  | .call {callee:= .value (.func f),args:=xs,argTypes:=_},some (.mth ls' [] s)=>xCallML P d f xs.toList L ls' s
  | .call {callee:= .value (.func f),args:=xs,argTypes:=_},some (.mth ls' [.no] (.one (.lf (.ptr nm 0))))=>xCallP P d f xs.toList L ls' nm
  | .call {callee:= .value (.func f),args:=xs,argTypes:=_},some (.cu none s nm kq rs)=>xCallU0 P d f xs.toList L s nm kq rs
  | .call {callee:= .value (.func f),args:=xs,argTypes:=_},some (.cu (some o') s nm _ _)=>xCallU1 P d f xs.toList L o' s nm
  |_,_=>none)else none
theorem a26 (hT:TabOK P T)(hE:E.n=n)(he:execW P T n o L w=some ex):SoundK P E o L ex:=by
 unfold execW at he
 split at he
 ·rename_i hd
  split at he
  ·rename_i t x y i j r ho;exact(a1E hT ho hd he).k
  ·rename_i t x y r i z ho;exact(a1C hT ho hd he).k
  ·cases he
 ·rename_i d hd
  cases hb:Nat.blt d n with
  |false=>rw[hb]at he;cases he
  |true=>
   rw[hb]at he
   have hn:d<E.n:=by rw[hE];exact Nat.le_of_ble_eq_true hb
   simp only[cond_true]at he
   split at he
   ·rename_i t x r ho;exact(a2j hT ho hd hn he).k
   ·rename_i x y t t' nm k j rows ho
    cases hb2:Nat.beq t' t with
    |false=>rw[hb2]at he;cases he
    |true=>
     rw[hb2]at he
     obtain rfl:=Nat.eq_of_beq_eq_true hb2
     simp only[cond_true]at he
     split at he
     ·rename_i ex' hex;cases he;exact(a0w hT ho hd hn hex).k
     ·exact(Z4 hT ho hd hn he).k
   ·rename_i f xs ats k o' s qs ns ho;exact a2i ho hd hn he
   ·rename_i x y t t' nm rows rs ho
    cases hb2:Nat.beq t' t with
    |false=>rw[hb2]at he;cases he
    |true=>
     rw[hb2]at he
     obtain rfl:=Nat.eq_of_beq_eq_true hb2
     exact a0p hT ho hd hn he
   ·rename_i x y t t' rows i x' ho
    cases hb2:Nat.beq t' t with
    |false=>rw[hb2]at he;cases he
    |true=>
     rw[hb2]at he
     obtain rfl:=Nat.eq_of_beq_eq_true hb2
     exact(a0o hT ho hd hn he).k
   ·rename_i x y t t' rows ho
    cases hb2:Nat.beq t' t with
    |false=>rw[hb2]at he;cases he
    |true=>
     rw[hb2]at he
     obtain rfl:=Nat.eq_of_beq_eq_true hb2
     simp only[cond_true]at he
     split at he
     ·rename_i ex' hex;cases he;exact(a0H hT ho hd hn hex).k
     ·exact(a0G hT ho hd hn he).k
   ·rename_i x y t t' ho _ _ _ _
    cases hb2:Nat.beq t' t with
    |false=>rw[hb2]at he;cases he
    |true=>
     rw[hb2]at he
     obtain rfl:=Nat.eq_of_beq_eq_true hb2
     exact(a0E hT ho hd hn he).k
   ·rename_i t parts ho;exact(a0y hT ho hd hn he).k
   ·rename_i t n parts rows ho;exact(a1Q hT ho hd hn he).k
   ·rename_i t parts rows i x' ho;exact(Q6 hT ho hd hn he).k
   ·rename_i f xs ats ls' s ho;exact(a1K ho hd hn he).k
   ·rename_i f xs ats ls' nm ho;exact a2r ho hd hn he
   ·rename_i f xs ats s nm kq rs ho;exact a1k ho hd hn he
   ·rename_i f xs ats o' s nm kq rs ho;exact a1M ho hd hn he
   ·cases he
def exec (P:Program)(T:Tab)(n:Nat)(o:Oper)(L:SL)(w:Option Wit):Option Ex:=
 match execW P T n o L w with
 |some ex=>bif inN ex.nm obN then none else some ex
 |none=>match exec0 P T n o L w with
  |some ex=>bif inN ex.nm obN then none else some ex
  |none=>none
theorem S9 (hT:TabOK P T)(hE:E.n=n)(he:exec P T n o L w=some ex):SoundK P E o L ex:=by
 unfold exec at he
 split at he
 ·rename_i ex' h
  cases hb:inN ex'.nm obN with
  |true=>rw[hb]at he;cases he
  |false=>rw[hb]at he;cases he;exact a26 hT hE h
 ·split at he
  ·rename_i ex' h
   cases hb:inN ex'.nm obN with
   |true=>rw[hb]at he;cases he
   |false=>rw[hb]at he;cases he;exact(a3a hT hE h).k
  ·cases he
theorem R8 (he:exec P T n o L w=some ex):obN∉ex.nm:=by
 unfold exec at he
 split at he
 ·rename_i ex' h
  cases hb:inN ex'.nm obN with
  |true=>rw[hb]at he;cases he
  |false=>rw[hb]at he;cases he;intro hm;rw[u2.2 hm]at hb;cases hb
 ·split at he
  ·rename_i ex' h
   cases hb:inN ex'.nm obN with
   |true=>rw[hb]at he;cases he
   |false=>rw[hb]at he;cases he;intro hm;rw[u2.2 hm]at hb;cases hb
  ·cases he
end Go.Proofs.Ytjfjdgjhihgdkaa.V
